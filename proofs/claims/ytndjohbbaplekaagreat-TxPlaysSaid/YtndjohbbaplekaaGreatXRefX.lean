/- The document's own maps of blocks: what its functions compute. Conditions: as each says. -/
import Derived.Test.YtndjohbbaplekaaGreatXModeC0
set_option linter.unusedSimpArgs false
set_option linter.unusedVariables false
namespace Go.Proofs.YtndjohbbaplekaaGreatX
open Go.Sh
set_option maxRecDepth 100000
section
variable {w : World} {Q : Value → World → Prop} {a b c d : Int}
theorem rvalid_c (hq : ∀ w', Grw w w' → Q (.bool (decide (ok (a, b)))) w') : callS Tryz.prog 24 #[.agg #[.int .i64 a, .int .i64 b]] Q w := by
  refine ref24 ?_
  unfold S24
  by_cases h0 : 0 ≤ a
  · simp only [stp, Nat.reduceAdd, Int.reduceLT, Int.reduceLE, Int.reduceEq, Int.reduceNe, ne_eq, bne_self_eq_false, beq_self_eq_true, stm, h0]
    have := hq _ ((Grw.refl w).alloc (.cells #[.int .i64 a, .int .i64 b] 72))
    simpa only [ok, h0, true_and] using this
  · simp only [stp, Nat.reduceAdd, Int.reduceLT, Int.reduceLE, Int.reduceEq, Int.reduceNe, ne_eq, bne_self_eq_false, beq_self_eq_true, stm, h0]
    have := hq _ ((Grw.refl w).alloc (.cells #[.int .i64 a, .int .i64 b] 72))
    simpa only [ok, h0, false_and, decide_false] using this

end
/-! ### plain -/
def clrP (s : Sp) (p : Pt Int) : List (Pt Int) := (if p.1.1 < s.1 then [((p.1.1, min p.1.2 s.1), p.2)] else []) ++ (if s.2 < p.1.2 then [((max p.1.1 s.2, p.1.2), p.2)] else [])
def clrL (s : Sp) (l : List (Pt Int)) : List (Pt Int) := l.flatMap (clrP s)
theorem clrP_len (s : Sp) (p : Pt Int) : (clrP s p).length ≤ 2 := by unfold clrP; split <;> split <;> simp
theorem clrL_len (s : Sp) : ∀ l : List (Pt Int), (clrL s l).length ≤ 2 * l.length
  | [] => by simp [clrL]
  | p :: l => by
    have h1 := clrL_len s l
    have h2 := clrP_len s p
    unfold clrL at *
    rw [List.flatMap_cons, List.length_append, List.length_cons]; omega
theorem clrP_in {s : Sp} {p q : Pt Int} (hs : ok s) (hp : ok p.1) (h : q ∈ clrP s p) : ok q.1 ∧ q.2 = p.2 ∧ p.1.1 ≤ q.1.1 ∧ q.1.2 ≤ p.1.2 ∧ (q.1.2 ≤ s.1 ∨ s.2 ≤ q.1.1) := by
  unfold clrP at h
  have hs1 := hs.1
  have hs2 := hs.2
  have hp1 := hp.1
  have hp2 := hp.2
  rcases List.mem_append.1 h with h | h
  · split at h
    · simp only [List.mem_cons, List.not_mem_nil, or_false] at h
      subst h
      refine ⟨⟨by simp only; omega, by simp only; omega⟩, rfl, by simp only; omega, by simp only; omega, .inl (by simp only; omega)⟩
    · cases h
  · split at h
    · simp only [List.mem_cons, List.not_mem_nil, or_false] at h
      subst h
      refine ⟨⟨by simp only; omega, by simp only; omega⟩, rfl, by simp only; omega, by simp only; omega, .inr (by simp only; omega)⟩
    · cases h
theorem clrL_canon {s : Sp} {l : List (Pt Int)} (hs : ok s) (h : Canon l) : Canon (clrL s l) := by
  refine ⟨fun q hq => ?_, ?_⟩
  · obtain ⟨p, hp, hq⟩ := List.mem_flatMap.1 hq
    exact (clrP_in hs (h.1 p hp) hq).1
  · unfold clrL
    rw [List.pairwise_flatMap]
    refine ⟨fun p hp => ?_, h.2.imp_of_mem fun {p q} hp hq hn x hx y hy => ?_⟩
    · have ho := h.1 p hp
      have hs2 := hs.2
      unfold clrP
      rw [List.pairwise_append]
      refine ⟨by split <;> simp, by split <;> simp, fun x hx y hy => ?_⟩
      split at hx
      · split at hy
        · simp only [List.mem_cons, List.not_mem_nil, or_false] at hx hy
          subst hx hy
          left; simp only; omega
        · cases hy
      · cases hx
    · obtain ⟨_, e1, _, h2, _⟩ := clrP_in hs (h.1 p hp) hx
      obtain ⟨_, e2, h3, _, _⟩ := clrP_in hs (h.1 q hq) hy
      unfold nextOk at *
      rw [e1, e2]
      rcases hn with hn | hn
      · left; omega
      · by_cases he : x.1.2 = y.1.1
        · exact .inr ⟨he, hn.2⟩
        · left; omega
theorem clrL_val {s : Sp} {l : List (Pt Int)} (hs : ok s) (h : Canon l) (x : Int) : valB (clrL s l) x = if hasB s x then none else valB l x := by
  have hc := clrL_canon hs h
  by_cases hx : hasB s x
  · rw [if_pos hx, valB_none]
    intro q hq hh
    obtain ⟨p, hp, hq⟩ := List.mem_flatMap.1 hq
    obtain ⟨_, _, _, _, h5⟩ := clrP_in hs (h.1 p hp) hq
    have h1 := hh.2.1
    have h2 := hh.2.2
    have h3 := hx.2.1
    have h4 := hx.2.2
    omega
  · rw [if_neg hx]
    cases hv : valB l x with
    | none =>
      rw [valB_none] at hv ⊢
      intro q hq hh
      obtain ⟨p, hp, hq⟩ := List.mem_flatMap.1 hq
      obtain ⟨_, _, h3, h4, _⟩ := clrP_in hs (h.1 p hp) hq
      exact hv p hp ⟨h.1 p hp, by have := hh.2.1; omega, by have := hh.2.2; omega⟩
    | some v =>
      obtain ⟨p, hp, hh, rfl⟩ := valB_some hv
      have hnx : x < s.1 ∨ s.2 ≤ x := by
        rcases Int.lt_or_le x s.1 with h1 | h1
        · exact .inl h1
        · rcases Int.lt_or_le x s.2 with h2 | h2
          · exact absurd ⟨hs, h1, h2⟩ hx
          · exact .inr h2
      have h1 := hh.2.1
      have h2 := hh.2.2
      have hs2 := hs.2
      rcases hnx with hnx | hnx
      · have hq : (((p.1.1, min p.1.2 s.1), p.2) : Pt Int) ∈ clrL s l := List.mem_flatMap.2 ⟨p, hp, by unfold clrP; rw [if_pos (by omega)]; simp⟩
        exact valB_mem hc.apart hq ⟨hc.1 _ hq, by simp only; omega, by simp only; omega⟩
      · have hq : (((max p.1.1 s.2, p.1.2), p.2) : Pt Int) ∈ clrL s l := List.mem_flatMap.2 ⟨p, hp, by unfold clrP; rw [if_pos (show s.2 < p.1.2 by omega)]; simp⟩
        exact valB_mem hc.apart hq ⟨hc.1 _ hq, by simp only; omega, by simp only; omega⟩
/-- A range put among parts that have no block of it. -/
theorem put_laid {s : Sp} {v : Int} {C : List (Pt Int)} {k : Nat} (hs : ok s) (hc : Canon C) (hno : ∀ x, hasB s x → valB C x = none) (hk : k ≤ C.length) (h1 : ∀ p ∈ C.take k, p.1.1 < s.1) (h2 : ∀ (h : k < C.length), s.1 ≤ C[k].1.1) :
    Canon ((C.take k ++ [(s, v)] ++ C.drop k).foldl mstepP []) ∧ ∀ x, valB ((C.take k ++ [(s, v)] ++ C.drop k).foldl mstepP []) x = if hasB s x then some v else valB C x := by
  have hs2 := hs.2
  have hap := hc.apart
  have before : ∀ p ∈ C.take k, p.1.2 ≤ s.1 := fun p hp => by
    rcases Int.lt_or_le s.1 p.1.2 with h | h
    · have hm := List.mem_of_mem_take hp
      have := valB_mem hap hm (x := s.1) ⟨hc.1 p hm, by have := h1 p hp; omega, h⟩
      rw [hno _ ⟨hs, Int.le_refl _, hs2⟩] at this
      cases this
    · exact h
  have from_ : ∀ p ∈ C.drop k, s.1 ≤ p.1.1 := fun p hp => by
    obtain ⟨j, hj, rfl⟩ := List.mem_iff_getElem.1 hp
    rw [List.length_drop] at hj
    rw [List.getElem_drop]
    have hkl : k < C.length := by omega
    have h3 := h2 hkl
    rcases Nat.eq_zero_or_pos j with h0 | h0
    · subst h0; exact h3
    · have := List.pairwise_iff_getElem.1 hc.2 k (k + j) hkl (by omega) (by omega)
      have ho := (hc.1 C[k] (List.getElem_mem hkl)).2
      rcases this with h | h <;> omega
  have after : ∀ p ∈ C.drop k, s.2 ≤ p.1.1 := fun p hp => by
    rcases Int.lt_or_le p.1.1 s.2 with h | h
    · have hm := List.mem_of_mem_drop hp
      have ho := hc.1 p hm
      have := valB_mem hap hm (x := p.1.1) ⟨ho, Int.le_refl _, ho.2⟩
      rw [hno _ ⟨hs, from_ p hp, h⟩] at this
      cases this
    · exact h
  have hok : ∀ p ∈ C.take k ++ [(s, v)] ++ C.drop k, ok p.1 := fun p hp => by
    simp only [List.mem_append, List.mem_cons, List.not_mem_nil, or_false] at hp
    rcases hp with (hp | rfl) | hp
    · exact hc.1 p (List.mem_of_mem_take hp)
    · exact hs
    · exact hc.1 p (List.mem_of_mem_drop hp)
  have hcp : C.Pairwise (fun p q => p.1.2 ≤ q.1.1) := hc.2.imp fun {p q} h => by rcases h with h | h <;> omega
  have hpw : (C.take k ++ [(s, v)] ++ C.drop k).Pairwise (fun p q => p.1.2 ≤ q.1.1) := by
    rw [List.pairwise_append, List.pairwise_append]
    refine ⟨⟨hcp.sublist (List.take_sublist _ _), by simp, fun p hp q hq => ?_⟩, hcp.sublist (List.drop_sublist _ _), fun p hp q hq => ?_⟩
    · simp only [List.mem_cons, List.not_mem_nil, or_false] at hq
      subst hq
      exact before p hp
    · simp only [List.mem_append, List.mem_cons, List.not_mem_nil, or_false] at hp
      have h5 := after q hq
      rcases hp with hp | rfl
      · have := before p hp; omega
      · exact h5
  obtain ⟨c1, c2⟩ := laid_spec _ [] Canon.nil hok hpw (by simp)
  refine ⟨c1, fun x => ?_⟩
  rw [c2]
  show (none : Option Int).or _ = _
  rw [Option.none_or, valB_append, valB_append]
  have hC : valB C x = (valB (C.take k) x).or (valB (C.drop k) x) := by rw [← valB_append, List.take_append_drop]
  by_cases hx : hasB s x
  · rw [if_pos hx]
    have := hno x hx
    rw [hC] at this
    have h3 : valB (C.take k) x = none := by cases h : valB (C.take k) x with | none => rfl | some u => rw [h] at this; cases this
    rw [h3]
    simp [valB, hx]
  · rw [if_neg hx, hC]
    have : valB [(s, v)] x = none := by simp [valB, hx]
    rw [this, Option.or_none]
/-- A new one's row: what it says of the list of a map. -/
abbrev encI : Pt Int → List Value := encP fun v : Int => Value.int .i64 v
theorem encI_one {l : List (Pt Int)} {u : Value} (h : u ∈ flat encI l) : Go.Sh.one u = true := by
  obtain ⟨p, _, hu⟩ := List.mem_flatMap.1 h
  simp only [encP, List.mem_cons, List.not_mem_nil, or_false] at hu
  rcases hu with rfl | rfl | rfl <;> exact one_int
abbrev RM (w : World) (B : Nat) (v : Value) (l : List (Pt Int)) : Prop := Own w B 101 3 v l.length (flat encI l)
section
variable {w : World} {Q : Value → World → Prop} {B : Nat} {l : List (Pt Int)} {v : Value}
theorem RM.keep0 {w' : World} (h : RM w B v l) (k : Keep (fun _ => False) w w') : RM w' B v l := h.keep k fun _ _ => id

theorem rclear_c {a b : Int} (ho : RM w B v l) (hB : B ≤ siz w) (hc : Canon l) (hl : l.length ≤ 100000)
    (hq : ∀ w' v' l', RM w' B v' l' → Canon l' → (∀ x, valB l' x = if hasB (a, b) x then none else valB l x) → l'.length ≤ 2 * l.length → Keep (fun _ => False) w w' → Q v' w') :
    callS Tryz.prog 50 #[v, .agg #[.int .i64 a, .int .i64 b]] Q w := by
  refine ref50 ?_
  unfold S50
  simp only [act_box, agg_cells]
  have x0 : cel (w.alloc (.cells #[.int .i64 a, .int .i64 b] 72)) (siz w) 0 = some (.int .i64 a) := cel_alloc_new
  have x1 : cel (w.alloc (.cells #[.int .i64 a, .int .i64 b] 72)) (siz w) 1 = some (.int .i64 b) := cel_alloc_new
  have k1 := (Keep.refl (fun _ => False) w).alloc (.cells #[.int .i64 a, .int .i64 b] 72)
  have s1 : siz (w.alloc (.cells #[.int .i64 a, .int .i64 b] 72)) = siz w + 1 := siz_alloc
  generalize w.alloc (.cells #[.int .i64 a, .int .i64 b] 72) = w1 at x0 x1 k1 s1
  simp only [stp, Nat.reduceAdd, Int.reduceLT, Int.reduceLE, Int.reduceEq, Int.reduceNe, ne_eq, bne_self_eq_false, beq_self_eq_true, stm, x0, x1]
  refine rvalid_c fun w2 g2 => ?_
  have k2 := k1.trans g2.1
  have y0 := g2.1.cel x0 id
  have y1 := g2.1.cel x1 id
  have s2 := g2.1.size
  by_cases h0 : ok (a, b)
  · simp only [stp, Nat.reduceAdd, Int.reduceLT, Int.reduceLE, Int.reduceEq, Int.reduceNe, ne_eq, bne_self_eq_false, beq_self_eq_true, stm, h0]
    have o2 := ho.keep0 k2
    refine lp2 (fun mm x y w' => Keep (fun _ => False) w2 w' ∧ ∃ (i : Nat) (L : List (Pt Int)), y = .int .i64 (i : Int) ∧ i ≤ l.length ∧ mm = l.length - i ∧ L = clrL (a, b) (l.take i) ∧ RM w' (siz w2) x L) l.length
      ⟨Keep.refl _ _, 0, [], rfl, Nat.zero_le _, by omega, rfl, Own.nil _ _ _ _⟩ ?_
    rintro mm x y w3 ⟨k3, i, L, rfl, hi, rfl, hL, o3⟩ J hJ _
    have hwi := wrap_succ (i := i) (by omega)
    have s3 := k3.size
    have hLl : L.length ≤ 2 * i := by
      have := clrL_len (a, b) (l.take i)
      rw [← hL, List.length_take] at this
      omega
    obtain ⟨pv, cv, rfl⟩ := o2.form
    by_cases hlt : i < l.length
    · have hlt' : ((i : Int) < (l.length : Int)) := by omega
      have hsi : l[i]? = some l[i] := List.getElem?_eq_getElem hlt
      have hL1 : clrL (a, b) (l.take (i + 1)) = L ++ clrP (a, b) l[i] := by
        rw [List.take_add_one, hsi, Option.toList_some, hL]; unfold clrL; rw [List.flatMap_append]; simp
      obtain ⟨g, cg, e, _, _, _, _, _, hcel⟩ := (o2.keep k3 fun _ _ => id).at (by omega)
      injection e with e1 _ e2
      subst e1 e2
      obtain ⟨p0, p1, p2⟩ := parts_at (ev := fun v : Int => Value.int .i64 v) (b := g) (o := 0) (l := l) (fun j hj => by rw [Nat.zero_add]; exact hcel j hj) hsi
      rw [Nat.zero_add] at p0 p1 p2
      simp only [stp, Nat.reduceAdd, Int.reduceLT, Int.reduceLE, Int.reduceEq, Int.reduceNe, ne_eq, bne_self_eq_false, beq_self_eq_true, hlt']
      refine jn1 (fun x' w' => Keep (fun _ => False) w2 w' ∧ RM w' (siz w2) x' (clrL (a, b) (l.take (i + 1)))) (fun J1 hJ1 => ?_) ?_
      · rw [ix_92 hlt]
        simp only [stp, Nat.reduceAdd, Int.reduceLT, Int.reduceLE, Int.reduceEq, Int.reduceNe, ne_eq, bne_self_eq_false, beq_self_eq_true, stm, p0, p1, p2]
        have k4 := (Keep.refl (fun _ => False) w3).alloc (.cells #[.int .i64 l[i].1.1, .int .i64 l[i].1.2, .int .i64 l[i].2] 101)
        have q0 : cel (w3.alloc (.cells #[.int .i64 l[i].1.1, .int .i64 l[i].1.2, .int .i64 l[i].2] 101)) (siz w3) 0 = some (.int .i64 l[i].1.1) := cel_alloc_new
        have q1 : cel (w3.alloc (.cells #[.int .i64 l[i].1.1, .int .i64 l[i].1.2, .int .i64 l[i].2] 101)) (siz w3) 1 = some (.int .i64 l[i].1.2) := cel_alloc_new
        have q2 : cel (w3.alloc (.cells #[.int .i64 l[i].1.1, .int .i64 l[i].1.2, .int .i64 l[i].2] 101)) (siz w3) 2 = some (.int .i64 l[i].2) := cel_alloc_new
        have s4 : siz (w3.alloc (.cells #[.int .i64 l[i].1.1, .int .i64 l[i].1.2, .int .i64 l[i].2] 101)) = siz w3 + 1 := siz_alloc
        generalize w3.alloc (.cells #[.int .i64 l[i].1.1, .int .i64 l[i].1.2, .int .i64 l[i].2] 101) = w4 at k4 q0 q1 q2 s4
        have o4 := o3.keep k4 fun _ _ => id
        have z0 := k4.cel (k3.cel y0 id) id
        have z1 := k4.cel (k3.cel y1 id) id
        have hx4 : ∀ g, x.ownBlock = some g → g ≠ siz w3 ∧ siz w2 ≤ g := fun g hg => by have := o3.lt hg; omega
        have k24 := k3.trans k4
        clear k4 p0 p1 p2
        let P1 : List (Pt Int) := if l[i].1.1 < a then [((l[i].1.1, min l[i].1.2 a), l[i].2)] else []
        refine jn1 (fun x' w' => Keep (fun _ => False) w2 w' ∧ RM w' (siz w2) x' (L ++ P1) ∧ cel w' (siz w3) 0 = some (.int .i64 l[i].1.1) ∧ cel w' (siz w3) 1 = some (.int .i64 l[i].1.2) ∧ cel w' (siz w3) 2 = some (.int .i64 l[i].2)) (fun J2 hJ2 => ?_) ?_
        · by_cases h1 : l[i].1.1 < a
          · simp only [stp, Nat.reduceAdd, Int.reduceLT, Int.reduceLE, Int.reduceEq, Int.reduceNe, ne_eq, bne_self_eq_false, beq_self_eq_true, stm, q0, q1, q2, z0, h1]
            refine pu_92 o4 (by intro u hu; simp only [List.mem_cons, List.not_mem_nil, or_false] at hu; rcases hu with rfl | rfl | rfl <;> exact one_int) (by omega) (by omega) fun v' w' ho hk hr => hJ2 _ _ ⟨k24.trans' hk fun b hb e => by have := hx4 _ e; omega, ?_, hk.cel q0 (fun e => (hx4 _ e).1 rfl), hk.cel q1 (fun e => (hx4 _ e).1 rfl), hk.cel q2 (fun e => (hx4 _ e).1 rfl)⟩
            show RM w' (siz w2) v' (L ++ (if l[i].1.1 < a then [((l[i].1.1, min l[i].1.2 a), l[i].2)] else []))
            rw [if_pos h1]
            unfold RM
            rw [flat_append, flat_one, List.length_append]; exact ho
          · simp only [stp, Nat.reduceAdd, Int.reduceLT, Int.reduceLE, Int.reduceEq, Int.reduceNe, ne_eq, bne_self_eq_false, beq_self_eq_true, stm, q0, z0, h1]
            refine hJ2 _ _ ⟨k24, ?_, q0, q1, q2⟩
            show RM w4 (siz w2) x (L ++ (if l[i].1.1 < a then [((l[i].1.1, min l[i].1.2 a), l[i].2)] else []))
            rw [if_neg h1, List.append_nil]; exact o4
        · rintro x' w5 ⟨k5, o5, r0, r1, r2⟩ _
          have t1 := k5.cel y1 id
          have s5 := k5.size
          have hfin : clrL (a, b) (l.take (i + 1)) = (L ++ P1) ++ (if b < l[i].1.2 then [((max l[i].1.1 b, l[i].1.2), l[i].2)] else []) := by
            rw [hL1, List.append_assoc]; rfl
          have hP1 : (L ++ P1).length ≤ 2 * i + 1 := by
            have : P1.length ≤ 1 := by show (if l[i].1.1 < a then [((l[i].1.1, min l[i].1.2 a), l[i].2)] else []).length ≤ 1; split <;> simp
            rw [List.length_append]; omega
          by_cases h1 : b < l[i].1.2
          · rw [if_pos h1] at hfin
            simp only [stp, Nat.reduceAdd, Int.reduceLT, Int.reduceLE, Int.reduceEq, Int.reduceNe, ne_eq, bne_self_eq_false, beq_self_eq_true, stm, r0, r1, r2, t1, h1]
            refine pu_92 o5 (by intro u hu; simp only [List.mem_cons, List.not_mem_nil, or_false] at hu; rcases hu with rfl | rfl | rfl <;> exact one_int) (by omega) (by omega) fun v' w' ho hk hr => hJ1 _ _ ⟨k5.trans' hk fun b hb e => by have := (o5.lt e).1; omega, ?_⟩
            rw [hfin]
            unfold RM
            rw [flat_append, flat_one, List.length_append]; exact ho
          · rw [if_neg h1, List.append_nil] at hfin
            simp only [stp, Nat.reduceAdd, Int.reduceLT, Int.reduceLE, Int.reduceEq, Int.reduceNe, ne_eq, bne_self_eq_false, beq_self_eq_true, stm, r1, t1, h1]
            refine hJ1 _ _ ⟨k5, ?_⟩
            rw [hfin]; exact o5
      · rintro x' w5 ⟨k5, o5⟩ _
        simp only [stp, Nat.reduceAdd, Int.reduceLT, Int.reduceLE, Int.reduceEq, Int.reduceNe, ne_eq, bne_self_eq_false, beq_self_eq_true, hwi]
        exact hJ (l.length - (i + 1)) _ _ _ (by omega) ⟨k5, i + 1, _, rfl, by omega, rfl, rfl, o5⟩
    · have hlt' : ¬ ((i : Int) < (l.length : Int)) := by omega
      have hil : i = l.length := by omega
      rw [hil, List.take_length] at hL
      simp only [stp, Nat.reduceAdd, Int.reduceLT, Int.reduceLE, Int.reduceEq, Int.reduceNe, ne_eq, bne_self_eq_false, beq_self_eq_true, hlt']
      subst hL
      exact hq _ _ _ (o3.le (by omega)) (clrL_canon h0 hc) (fun x => clrL_val h0 hc x) (clrL_len _ _) (k2.trans k3)
  · simp only [stp, Nat.reduceAdd, Int.reduceLT, Int.reduceLE, Int.reduceEq, Int.reduceNe, ne_eq, bne_self_eq_false, beq_self_eq_true, stm, h0]
    exact hq _ _ l (ho.keep0 k2) hc (fun x => by rw [if_neg fun h => h0 h.1]) (by omega) k2
end
end Go.Proofs.YtndjohbbaplekaaGreatX
/- The document's own maps of blocks: set. Conditions: as each says. -/
set_option linter.unusedSimpArgs false
set_option linter.unusedVariables false
namespace Go.Proofs.YtndjohbbaplekaaGreatX
open Go.Sh
set_option maxRecDepth 100000
section
variable {w : World} {Q : Value → World → Prop} {B : Nat} {l : List (Pt Int)} {v : Value}
/-- One list behind another one. -/
theorem app_c {x : Value} {L r : List (Pt Int)} {p : Option Addr} {m c : Nat} {K : Value → World → Prop} (ho : RM w B x L) (hB : B ≤ siz w) (hr : Rd 3 w (.slice p m c) m (flat encI r)) (hm : m = r.length) (hb : L.length + r.length ≤ 1000000)
    (hk : ∀ v' w', RM w' B v' (L ++ r) → Keep (fun b => x.ownBlock = some b) w w' → (∀ g, v'.ownBlock = some g → x.ownBlock = some g ∨ siz w ≤ g) → K v' w') :
    act Tryz.prog (Builtin.append_ #[92, 92] 92 #[x, .slice p m c]) K w := by
  subst hm
  rcases Nat.eq_zero_or_pos r.length with h0 | hp
  · have hl0 := List.length_eq_zero_iff.1 h0
    rw [h0, ap0_92 ho]
    refine hk _ _ ?_ (Keep.refl _ _) fun g hg => .inl hg
    rw [hl0, List.append_nil]; exact ho
  · obtain ⟨b', o', c', e, _, hc'⟩ := hr.at hp
    injection e with e1 _ e2
    subst e1 e2
    refine ap_92 ho hr.len hc' (fun u hu => encI_one hu) (by omega) hB fun v' w' ho' hg hr' => hk _ _ ?_ ((Keep.refl _ w).grown hg fun g hg' => .inl hg') hr'
    unfold RM
    rw [flat_append, List.length_append]; exact ho'
theorem own_lastI {e : TypeId} {base : Nat} {v : Value} {o : List (Pt Int)} {t : Pt Int} (h : Own w base e 3 v (o ++ [t]).length (flat encI (o ++ [t]))) :
    ∃ g cap, v = .slice (some ⟨g, 0, none⟩) (o ++ [t]).length cap ∧ base ≤ g ∧ g < siz w ∧ fre w g = true ∧ cel w g (o.length * 3) = some (.int .i64 t.1.1) ∧ cel w g (o.length * 3 + 1) = some (.int .i64 t.1.2) ∧ cel w g (o.length * 3 + 2) = some (.int .i64 t.2) := by
  obtain ⟨g, cap, rfl, h1, h2, _, _, h3, h4⟩ := h.at (by simp)
  obtain ⟨c0, c1, c2⟩ := parts_at (ev := fun v : Int => Value.int .i64 v) (b := g) (o := 0) (l := o ++ [t]) (fun j hj => by rw [Nat.zero_add]; exact h4 j hj) (i := o.length) (p := t) (by simp)
  rw [Nat.zero_add] at c0 c1 c2
  exact ⟨g, cap, rfl, h1, h2, h3, c0, c1, c2⟩
theorem rset_c {a b u : Int} (ho : RM w B v l) (hB : B ≤ siz w) (hc : Canon l) (hl : l.length ≤ 100000)
    (hq : ∀ w' v' l', RM w' B v' l' → Canon l' → (∀ x, valB l' x = if hasB (a, b) x then some u else valB l x) → Keep (fun _ => False) w w' → Q v' w') :
    callS Tryz.prog 48 #[v, .agg #[.int .i64 a, .int .i64 b], .int .i64 u] Q w := by
  refine ref48 ?_
  unfold S48
  simp only [act_box, agg_cells]
  have x0 : cel (w.alloc (.cells #[.int .i64 a, .int .i64 b] 72)) (siz w) 0 = some (.int .i64 a) := cel_alloc_new
  have x1 : cel (w.alloc (.cells #[.int .i64 a, .int .i64 b] 72)) (siz w) 1 = some (.int .i64 b) := cel_alloc_new
  have k1 := (Keep.refl (fun _ => False) w).alloc (.cells #[.int .i64 a, .int .i64 b] 72)
  have s1 : siz (w.alloc (.cells #[.int .i64 a, .int .i64 b] 72)) = siz w + 1 := siz_alloc
  generalize w.alloc (.cells #[.int .i64 a, .int .i64 b] 72) = w1 at x0 x1 k1 s1
  simp only [stp, Nat.reduceAdd, Int.reduceLT, Int.reduceLE, Int.reduceEq, Int.reduceNe, ne_eq, bne_self_eq_false, beq_self_eq_true, stm, x0, x1]
  refine rvalid_c fun w2 g2 => ?_
  have k2 := k1.trans g2.1
  have y0 := g2.1.cel x0 id
  have y1 := g2.1.cel x1 id
  have s2 := g2.1.size
  by_cases h0 : ok (a, b)
  · simp only [stp, Nat.reduceAdd, Int.reduceLT, Int.reduceLE, Int.reduceEq, Int.reduceNe, ne_eq, bne_self_eq_false, beq_self_eq_true, stm, h0, y0, y1]
    refine rclear_c (ho.keep0 k2) (by omega) hc hl fun w3 v3 C o3 hc3 hv3 hl3 k3 => ?_
    have k03 := k2.trans k3
    have z0 := k3.cel y0 id
    have z1 := k3.cel y1 id
    have s3 := k3.size
    have hno : ∀ x, hasB (a, b) x → valB C x = none := fun x hx => by rw [hv3, if_pos hx]
    have hform := o3.form
    refine lp1 (fun mm y w' => Keep (fun _ => False) w3 w' ∧ ∃ k : Nat, y = .int .i64 (k : Int) ∧ k ≤ C.length ∧ mm = C.length - k ∧ ∀ p ∈ C.take k, p.1.1 < a) C.length
      ⟨Keep.refl _ _, 0, rfl, Nat.zero_le _, by omega, by simp⟩ ?_
    rintro mm y w4 ⟨k4, k, rfl, hk, rfl, hbef⟩ J hJ _
    have hwk := wrap_succ (i := k) (by omega)
    have d0 := k4.cel z0 id
    have d1 := k4.cel z1 id
    have s4 := k4.size
    have o4 := o3.keep0 k4
    have o4d : RM w4.drew B v3 C := o4.keep0 (Keep.refl _ w4).drew
    have o4dd : RM w4.drew.drew B v3 C := o4.keep0 (Keep.refl _ w4).drew.drew
    -- what follows when the place is found
    have rest : (∀ (h : k < C.length), a ≤ C[k].1.1) → ∀ {pv cv}, v3 = .slice pv C.length cv → ∀ {K : Value → World → Prop},
        (∀ v' w', RM w' (siz w4) v' (C.take k ++ [((a, b), u)] ++ C.drop k) → Keep (fun _ => False) w4 w' → K v' w') →
        pur Tryz.prog (Instr.sliceAt 92 (.slice pv C.length cv) none (some (.int .i64 (k : Int))) none) (fun t38 => 
        pur Tryz.prog (Instr.sliceAt 92 (.slice pv C.length cv) (some (.int .i64 (k : Int))) none none) fun t47 => 
        (act Tryz.prog (Builtin.append_ #[92, 92] 92 #[(.slice none 0 0), t38]) (fun t39 w_23 => 
        rd Tryz.prog (Instr.loadAt 72 (.pointer (some ⟨siz w, 0, none⟩))) (fun t40 => 
        pur Tryz.prog (Instr.build 101 #[(0, t40), (1, .int .i64 u)]) fun t42 => 
        act Tryz.prog (Instr.buildSlice 92 1 #[(0, t42)]) (fun t43 w_24 => 
        act Tryz.prog (Builtin.append_ #[92, 92] 92 #[t39, t43]) (fun t44 w_25 => 
        act Tryz.prog (Builtin.append_ #[92, 92] 92 #[t44, t47]) (fun t48 w_26 => 
        K t48 w_26) w_25) w_24) w_23) w_23) w4.drew.drew) ∧ (rd Tryz.prog (Instr.loadAt 72 (.pointer (some ⟨siz w, 0, none⟩))) (fun t40_1 => 
        pur Tryz.prog (Instr.build 101 #[(0, t40_1), (1, .int .i64 u)]) fun t42_1 => 
        (act Tryz.prog (Builtin.append_ #[92, 92] 92 #[(.slice none 0 0), t38]) (fun t39_1 w_27 => 
        act Tryz.prog (Instr.buildSlice 92 1 #[(0, t42_1)]) (fun t43_1 w_28 => 
        act Tryz.prog (Builtin.append_ #[92, 92] 92 #[t39_1, t43_1]) (fun t44_1 w_29 => 
        act Tryz.prog (Builtin.append_ #[92, 92] 92 #[t44_1, t47]) (fun t48_1 w_30 => 
        K t48_1 w_30) w_29) w_28) w_27) w4.drew.drew) ∧ (act Tryz.prog (Instr.buildSlice 92 1 #[(0, t42_1)]) (fun t43_2 w_31 => 
        act Tryz.prog (Builtin.append_ #[92, 92] 92 #[(.slice none 0 0), t38]) (fun t39_2 w_32 => 
        act Tryz.prog (Builtin.append_ #[92, 92] 92 #[t39_2, t43_2]) (fun t44_2 w_33 => 
        act Tryz.prog (Builtin.append_ #[92, 92] 92 #[t44_2, t47]) (fun t48_2 w_34 => 
        K t48_2 w_34) w_33) w_32) w_31) w4.drew.drew)) w4.drew.drew)) := fun haft {pv cv} hv {K} hK => by
      have cuts : ∃ p1 c1 p2 m2 c2, (∀ {k' : Value → Prop}, pur Tryz.prog (Instr.sliceAt 92 (.slice pv C.length cv) none (some (.int .i64 (k : Int))) none) k' = k' (.slice p1 k c1)) ∧
          (∀ {k' : Value → Prop}, pur Tryz.prog (Instr.sliceAt 92 (.slice pv C.length cv) (some (.int .i64 (k : Int))) none none) k' = k' (.slice p2 m2 c2)) ∧ m2 = (C.drop k).length ∧
          Rd 3 w4.drew.drew (.slice p1 k c1) k (flat encI (C.take k)) ∧ Rd 3 w4.drew.drew (.slice p2 m2 c2) m2 (flat encI (C.drop k)) := by
        subst hv
        rcases Nat.eq_zero_or_pos C.length with h0 | hp
        · have hC0 := List.length_eq_zero_iff.1 h0
          have hk0 : k = 0 := by omega
          rcases o4dd.2 with ⟨e, _⟩ | ⟨g, cap, cur, e, _, _, hcap, _⟩
          · rw [e] at *
            subst hk0
            refine ⟨none, 0, none, 0, 0, fun {k'} => slt0_92, fun {k'} => slf0_92, by rw [hC0]; rfl, ?_, ?_⟩
            · rw [hC0]; exact Rd.nil _ _
            · rw [hC0]; exact Rd.nil _ _
          · injection e with e1 _ e2
            subst e1 e2 hk0
            refine ⟨_, _, _, _, _, fun {k'} => slt_92 (by omega), fun {k'} => slf_92 (by omega) (by omega), by rw [hC0]; rfl, ?_, ?_⟩
            · rw [hC0]; exact ⟨rfl, .inl ⟨rfl, _, _, rfl⟩⟩
            · rw [hC0]; exact ⟨rfl, .inl ⟨rfl, _, _, rfl⟩⟩
        · obtain ⟨g, cg, e, _, _, hcn, _, _, hcel⟩ := o4dd.at hp
          injection e with e1 _ e2
          subst e1 e2
          refine ⟨_, _, _, _, _, fun {k'} => slt_92 (by omega), fun {k'} => slf_92 hk hcn, by rw [List.length_drop], ?_, ?_⟩
          · rw [← flat_take (encP_len _)]
            refine ⟨by rw [List.length_take, flat_len (encP_len _)]; omega, ?_⟩
            refine .inr ⟨g, 0, cv, rfl, by omega, fun j hj => ?_⟩
            rw [Nat.zero_add, hcel _ (by omega), List.getElem?_take, if_pos hj]
          · rw [← flat_drop (encP_len _)]
            have hcel0 : ∀ j, j < C.length * 3 → cel w4.drew.drew g (0 + j) = (flat encI C)[j]? := fun j hj => by rw [Nat.zero_add]; exact hcel j hj
            split
            · refine Rd.from (flat_len (encP_len _) _) hcel0 hk hcn fun h => by omega
            · refine Rd.from (flat_len (encP_len _) _) hcel0 hk hcn fun h => rfl
      obtain ⟨p1, c1, p2, m2, c2, e1, e2, hm2, r1, r2⟩ := cuts
      rw [e1, e2]
      have nil4 : RM w4.drew.drew (siz w4) (.slice none 0 0) [] := Own.nil _ _ _ _
      have ltk : (C.take k).length = k := by rw [List.length_take]; omega
      have hlC : C.length ≤ 200000 := by omega
      have bld : ∀ {w6 : World} {x : Value} {K' : Value → World → Prop}, Keep (fun _ => False) w4.drew.drew w6 → RM w6 (siz w4) x (C.take k) → (∀ v' w', RM w' (siz w4) v' (C.take k ++ [((a, b), u)]) → Keep (fun _ => False) w4.drew.drew w' → K' v' w') →
          ∀ {g : Nat}, Rd 3 w6 (.slice (some ⟨g, 0, none⟩) 1 1) 1 (flat encI [((a, b), u)]) →
          act Tryz.prog (Builtin.append_ #[92, 92] 92 #[x, .slice (some ⟨g, 0, none⟩) 1 1]) K' w6 := fun {w6 x K'} k6 hx hK' {g} hg => by
        have s6 := k6.size
        have sd : siz w4.drew.drew = siz w4 := rfl
        refine app_c hx (by omega) hg rfl (by rw [ltk]; simp; omega) fun v' w' ho' hk' hr' => hK' _ _ ho' (k6.trans' hk' fun b hb e => by have := (hx.lt e).1; omega)
      have lst : ∀ {w6 : World} {x : Value}, Keep (fun _ => False) w4.drew.drew w6 → RM w6 (siz w4) x (C.take k ++ [((a, b), u)]) →
          act Tryz.prog (Builtin.append_ #[92, 92] 92 #[x, .slice p2 m2 c2]) (fun t48 w_26 => K t48 w_26) w6 := fun {w6 x} k6 hx => by
        have s6 := k6.size
        have sd : siz w4.drew.drew = siz w4 := rfl
        refine app_c hx (by omega) (r2.keep0 k6) hm2 (by rw [List.length_append, ltk, List.length_drop]; simp; omega) fun v' w' ho' hk' hr' => hK _ _ ho' (((Keep.refl _ w4).drew.drew.trans k6).trans' hk' fun b hb e => by have := (hx.lt e).1; omega)
      have fst : ∀ {w6 : World} {K' : Value → World → Prop}, Keep (fun _ => False) w4.drew.drew w6 → (∀ v' w', RM w' (siz w4) v' (C.take k) → Keep (fun _ => False) w6 w' → K' v' w') →
          act Tryz.prog (Builtin.append_ #[92, 92] 92 #[.slice none 0 0, .slice p1 k c1]) K' w6 := fun {w6 K'} k6 hK' => by
        have s6 := k6.size
        have sd : siz w4.drew.drew = siz w4 := rfl
        refine app_c (B := siz w4) (L := []) (nil4.keep0 k6) (by omega) (r1.keep0 k6) ltk.symm (by rw [ltk]; simp; omega) fun v' w' ho' hk' hr' => hK' _ _ (by simpa using ho') (hk'.mono fun b hb e => by cases e)
      have newr : ∀ {w6 : World}, Rd 3 (w6.alloc (.cells #[.int .i64 a, .int .i64 b, .int .i64 u] 101)) (.slice (some ⟨siz w6, 0, none⟩) 1 1) 1 (flat encI [((a, b), u)]) := fun {w6} =>
        ⟨rfl, .inr ⟨siz w6, 0, 1, rfl, by omega, fun j hj => by rw [Nat.zero_add, cel_alloc_new, List.getElem?_toArray]; rfl⟩⟩
      have d0' : cel w4.drew.drew (siz w) 0 = some (.int .i64 a) := d0
      have d1' : cel w4.drew.drew (siz w) 1 = some (.int .i64 b) := d1
      refine ⟨?_, ?_⟩
      · refine fst (Keep.refl _ _) fun v5 w5 o5 k5 => ?_
        simp only [stp, Nat.reduceAdd, Int.reduceLT, Int.reduceLE, Int.reduceEq, Int.reduceNe, ne_eq, bne_self_eq_false, beq_self_eq_true, stm, k5.cel d0' id, k5.cel d1' id]
        have k6 := k5.alloc (.cells #[.int .i64 a, .int .i64 b, .int .i64 u] 101)
        exact bld k6 (o5.keep0 ((Keep.refl _ w5).alloc _)) (fun v7 w7 o7 k7 => lst k7 o7) newr
      · simp only [stp, Nat.reduceAdd, Int.reduceLT, Int.reduceLE, Int.reduceEq, Int.reduceNe, ne_eq, bne_self_eq_false, beq_self_eq_true, stm, d0', d1']
        refine ⟨?_, ?_⟩
        · refine fst (Keep.refl _ _) fun v5 w5 o5 k5 => ?_
          try simp only [stp, Nat.reduceAdd, Int.reduceLT, Int.reduceLE, Int.reduceEq, Int.reduceNe, ne_eq, bne_self_eq_false, beq_self_eq_true, stm]
          have k6 := k5.alloc (.cells #[.int .i64 a, .int .i64 b, .int .i64 u] 101)
          exact bld k6 (o5.keep0 ((Keep.refl _ w5).alloc _)) (fun v7 w7 o7 k7 => lst k7 o7) newr
        · have k6 := (Keep.refl (fun _ => False) w4.drew.drew).alloc (.cells #[.int .i64 a, .int .i64 b, .int .i64 u] 101)
          refine fst k6 fun v5 w5 o5 k5 => ?_
          exact bld (k6.trans k5) o5 (fun v7 w7 o7 k7 => lst k7 o7) ((newr (w6 := w4.drew.drew)).keep0 k5)
    by_cases hgo : ∃ h : k < C.length, C[k].1.1 < a
    · obtain ⟨hlt, hlta⟩ := hgo
      have hlt' : ((k : Int) < (C.length : Int)) := by omega
      have hsk : C[k]? = some C[k] := List.getElem?_eq_getElem hlt
      obtain ⟨g, cg, e, _, _, _, _, _, hcel⟩ := o4d.at (by omega)
      subst e
      obtain ⟨p0, _, _⟩ := parts_at (ev := fun v : Int => Value.int .i64 v) (b := g) (o := 0) (l := C) (fun j hj => by rw [Nat.zero_add]; exact hcel j hj) hsk
      rw [Nat.zero_add, cel_drew] at p0
      simp only [stp, Nat.reduceAdd, Int.reduceLT, Int.reduceLE, Int.reduceEq, Int.reduceNe, ne_eq, bne_self_eq_false, beq_self_eq_true, hlt']
      rw [ix_92 hlt]
      simp only [stp, Nat.reduceAdd, Int.reduceLT, Int.reduceLE, Int.reduceEq, Int.reduceNe, ne_eq, bne_self_eq_false, beq_self_eq_true, stm, p0, d0, hlta, hwk]
      refine hJ (C.length - (k + 1)) _ _ (by omega) ⟨k4.drew, k + 1, rfl, by omega, rfl, fun p hp => ?_⟩
      rw [List.take_add_one, hsk, Option.toList_some] at hp
      rcases List.mem_append.1 hp with hp | hp
      · exact hbef p hp
      · simp only [List.mem_cons, List.not_mem_nil, or_false] at hp; subst hp; exact hlta
    · have haft : ∀ (h : k < C.length), a ≤ C[k].1.1 := fun h => by
        rcases Int.lt_or_le C[k].1.1 a with h1 | h1
        · exact absurd ⟨h, h1⟩ hgo
        · exact h1
      obtain ⟨hcan, hval⟩ := put_laid (v := u) h0 hc3 hno hk hbef haft
      have hlenL : (C.take k ++ [((a, b), u)] ++ C.drop k).length = C.length + 1 := by simp; omega
      obtain ⟨pv, cv, rfl⟩ := hform
      have rest' := fun (J' : Cur 1) (hJ' : ∀ (x : Value) (w : World), (Keep (fun _ => False) w4 w ∧ RM w (siz w4) x (C.take k ++ [((a, b), u)] ++ C.drop k)) → J' x w) => rest haft rfl (K := fun x w => J' x w) (fun v' w' h1 h2 => hJ' v' w' ⟨h2, h1⟩)
      clear rest
      generalize C.take k ++ [((a, b), u)] ++ C.drop k = Ls at hcan hval hlenL rest'
      by_cases hlt : k < C.length
      case' pos =>
        have hlt' : ((k : Int) < (C.length : Int)) := by omega
        have hsk : C[k]? = some C[k] := List.getElem?_eq_getElem hlt
        obtain ⟨g, cg, e, _, _, _, _, _, hcel⟩ := o4d.at (by omega)
        injection e with e1 _ e2
        subst e1 e2
        obtain ⟨p0, _, _⟩ := parts_at (ev := fun v : Int => Value.int .i64 v) (b := g) (o := 0) (l := C) (fun j hj => by rw [Nat.zero_add]; exact hcel j hj) hsk
        rw [Nat.zero_add, cel_drew] at p0
        have hna : ¬ C[k].1.1 < a := by have := haft hlt; omega
        simp only [stp, Nat.reduceAdd, Int.reduceLT, Int.reduceLE, Int.reduceEq, Int.reduceNe, ne_eq, bne_self_eq_false, beq_self_eq_true, hlt']
        rw [ix_92 hlt]
        simp only [stp, Nat.reduceAdd, Int.reduceLT, Int.reduceLE, Int.reduceEq, Int.reduceNe, ne_eq, bne_self_eq_false, beq_self_eq_true, stm, p0, d0, hna] at rest' ⊢
      case' neg =>
        have hlt' : ¬ ((k : Int) < (C.length : Int)) := by omega
        simp only [stp, Nat.reduceAdd, Int.reduceLT, Int.reduceLE, Int.reduceEq, Int.reduceNe, ne_eq, bne_self_eq_false, beq_self_eq_true, stm, hlt'] at rest' ⊢
      all_goals
        refine jn1 (fun x w' => Keep (fun _ => False) w4 w' ∧ RM w' (siz w4) x Ls) rest' ?_
        rintro x w5 ⟨k5, o5⟩ _
        have s5 := k5.size
        obtain ⟨pl, cl, rfl⟩ := o5.form
        refine lp2 (fun mm x y w' => Keep (fun _ => False) w5 w' ∧ ∃ (i : Nat) (O : List (Pt Int)), y = .int .i64 (i : Int) ∧ i ≤ Ls.length ∧ mm = Ls.length - i ∧ O = (Ls.take i).foldl mstepP [] ∧ RM w' (siz w5) x O) Ls.length
          ⟨Keep.refl _ _, 0, [], rfl, Nat.zero_le _, by omega, rfl, Own.nil _ _ _ _⟩ ?_
        rintro mm x y w6 ⟨k6, i, O, rfl, hi, rfl, hO, o6⟩ J' hJ' _
        have s6 := k6.size
        have hwi := wrap_succ (i := i) (by omega)
        have hOl : O.length ≤ i := by
          have := foldlP_len (Ls.take i) []
          rw [← hO, List.length_take] at this
          simp only [List.length_nil] at this
          omega
        by_cases hli : i < Ls.length
        · have hli' : ((i : Int) < (Ls.length : Int)) := by omega
          have hs : Ls[i]? = some Ls[i] := List.getElem?_eq_getElem hli
          have hO1 : (Ls.take (i + 1)).foldl mstepP [] = mstepP O Ls[i] := by
            rw [List.take_add_one, hs, List.foldl_append, ← hO]; rfl
          obtain ⟨gv, cgv, e, _, _, _, _, _, hcelv⟩ := (o5.keep0 k6.drew).at (by omega)
          injection e with e1 _ e2
          subst e1 e2
          obtain ⟨c0, c1, c2⟩ := parts_at (ev := fun v : Int => Value.int .i64 v) (b := gv) (o := 0) (l := Ls) (fun j hj => by rw [Nat.zero_add]; exact hcelv j hj) hs
          rw [Nat.zero_add, cel_drew] at c0 c1 c2
          simp only [stp, Nat.reduceAdd, Int.reduceLT, Int.reduceLE, Int.reduceEq, Int.reduceNe, ne_eq, bne_self_eq_false, beq_self_eq_true, hli']
          refine jn1 (fun x' w' => Keep (fun _ => False) w5 w' ∧ RM w' (siz w5) x' (mstepP O Ls[i])) (fun J3 hJ3 => ?_) ?_
          · obtain ⟨ax, cx, ex⟩ := o6.form
            have kd := (Keep.refl (fun _ => False) w6).drew
            have o6d : RM w6.drew (siz w5) x O := o6.keep0 kd
            have push : O ++ [Ls[i]] = mstepP O Ls[i] → act Tryz.prog (Builtin.append_ #[92, 92] 92 #[x, .slice (some ⟨siz w6.drew, 0, none⟩) 1 1]) (fun t107 w_91 => J3 t107 w_91) (w6.drew.alloc (.cells #[.int .i64 Ls[i].1.1, .int .i64 Ls[i].1.2, .int .i64 Ls[i].2] 101)) := fun hmm => by
              have sd : siz w6.drew = siz w6 := rfl
              refine pu_92 o6d (by intro u hu; simp only [List.mem_cons, List.not_mem_nil, or_false] at hu; rcases hu with rfl | rfl | rfl <;> exact one_int) (by omega) (by omega) fun v' w' ho hk hr => hJ3 _ _ ⟨k6.drew.trans' hk fun b hb e => by have := (o6.lt e).1; omega, ?_⟩
              unfold RM
              rw [← hmm, flat_append, flat_one, List.length_append]; exact ho
            rcases lastP_cases O with hnil | ⟨o', t, hcons⟩
            · have hO0 : O.length = 0 := by rw [hnil]; rfl
              have h1 : ¬ (0 : Int) < ((0 : Nat) : Int) := by omega
              rw [ex] at push ⊢
              simp only [stp, Nat.reduceAdd, Int.reduceLT, Int.reduceLE, Int.reduceEq, Int.reduceNe, ne_eq, bne_self_eq_false, beq_self_eq_true, stm, hO0, h1]
              rw [ix_92 hli]
              simp only [stp, Nat.reduceAdd, Int.reduceLT, Int.reduceLE, Int.reduceEq, Int.reduceNe, ne_eq, bne_self_eq_false, beq_self_eq_true, stm, c0, c1, c2]
              rw [hO0] at push
              exact push (by rw [hnil]; rfl)
            · have hO0 : O.length = o'.length + 1 := by rw [hcons]; simp
              have h1 : (0 : Int) < (O.length : Int) := by omega
              have hwp := wrap_pred (i := O.length) (by omega) (by omega)
              have h3 : O.length - 1 = o'.length := by omega
              have o6' := o6
              unfold RM at o6'
              rw [hcons] at o6'
              obtain ⟨g, cap, eg, hg1, hg2, hg3, t0, t1, t2⟩ := own_lastI o6'
              rw [← hcons] at eg
              have hlt2 : O.length - 1 < O.length := by omega
              have t1' : cel w6 g ((O.length - 1) * 3 + 1) = some (.int .i64 t.1.2) := by rw [h3]; exact t1
              have t2' : cel w6 g ((O.length - 1) * 3 + 2) = some (.int .i64 t.2) := by rw [h3]; exact t2
              rw [eg] at push ⊢
              simp only [stp, Nat.reduceAdd, Int.reduceLT, Int.reduceLE, Int.reduceEq, Int.reduceNe, ne_eq, bne_self_eq_false, beq_self_eq_true, stm, h1, hwp]
              rw [ix_92 hlt2]
              simp only [stp, Nat.reduceAdd, Int.reduceLT, Int.reduceLE, Int.reduceEq, Int.reduceNe, ne_eq, bne_self_eq_false, beq_self_eq_true, stm, t1']
              rw [ix_92 hli]
              by_cases hin1 : t.1.2 = Ls[i].1.1
              · simp only [stp, Nat.reduceAdd, Int.reduceLT, Int.reduceLE, Int.reduceEq, Int.reduceNe, ne_eq, bne_self_eq_false, beq_self_eq_true, stm, c0, hin1, hwp]
                rw [ix_92 hlt2]
                simp only [stp, Nat.reduceAdd, Int.reduceLT, Int.reduceLE, Int.reduceEq, Int.reduceNe, ne_eq, bne_self_eq_false, beq_self_eq_true, stm, t2']
                rw [ix_92 hli]
                by_cases hin2 : t.2 = Ls[i].2
                · have hin : t.1.2 = Ls[i].1.1 ∧ t.2 = Ls[i].2 := ⟨hin1, hin2⟩
                  have ti : (cel w6 g ((O.length - 1) * 3 + 1)).isSome = true := by rw [t1']; rfl
                  simp only [stp, Nat.reduceAdd, Int.reduceLT, Int.reduceLE, Int.reduceEq, Int.reduceNe, ne_eq, bne_self_eq_false, beq_self_eq_true, stm, c2, hin2, hwp]
                  rw [ix_92 hli]
                  simp only [stp, Nat.reduceAdd, Int.reduceLT, Int.reduceLE, Int.reduceEq, Int.reduceNe, ne_eq, bne_self_eq_false, beq_self_eq_true, stm, c1]
                  rw [ix_92 hlt2]
                  simp only [stp, Nat.reduceAdd, Int.reduceLT, Int.reduceLE, Int.reduceEq, Int.reduceNe, ne_eq, bne_self_eq_false, beq_self_eq_true, stm, ti, hg3]
                  refine hJ3 _ _ ⟨k6.drew.sto (.inr (by omega)) _ _, ?_⟩
                  rw [eg] at o6d
                  have o7 := o6d.setZ (j := (O.length - 1) * 3 + 1) (x := .int .i64 Ls[i].1.2) (by omega)
                  rw [flat_set (enc := encI) (encP_len _) (s := t) (s' := ((t.1.1, Ls[i].1.2), t.2)) (by rw [h3, hcons]; simp) (by omega) rfl] at o7
                  have e8 : O.set (O.length - 1) ((t.1.1, Ls[i].1.2), t.2) = mstepP O Ls[i] := by
                    rw [h3]
                    conv => rhs; rw [hcons, mstepP_in hin]
                    rw [hcons]; simp
                  rw [e8] at o7
                  have e9 : (mstepP O Ls[i]).length = O.length := by rw [← e8, List.length_set]
                  unfold RM
                  rw [e9]; exact o7
                · simp only [stp, Nat.reduceAdd, Int.reduceLT, Int.reduceLE, Int.reduceEq, Int.reduceNe, ne_eq, bne_self_eq_false, beq_self_eq_true, stm, c2, hin2]
                  rw [ix_92 hli]
                  simp only [stp, Nat.reduceAdd, Int.reduceLT, Int.reduceLE, Int.reduceEq, Int.reduceNe, ne_eq, bne_self_eq_false, beq_self_eq_true, stm, c0, c1, c2]
                  exact push (by rw [hcons, mstepP_out fun h => hin2 h.2]; simp)
              · simp only [stp, Nat.reduceAdd, Int.reduceLT, Int.reduceLE, Int.reduceEq, Int.reduceNe, ne_eq, bne_self_eq_false, beq_self_eq_true, stm, c0, hin1]
                rw [ix_92 hli]
                simp only [stp, Nat.reduceAdd, Int.reduceLT, Int.reduceLE, Int.reduceEq, Int.reduceNe, ne_eq, bne_self_eq_false, beq_self_eq_true, stm, c0, c1, c2]
                exact push (by rw [hcons, mstepP_out fun h => hin1 h.1]; simp)
          · rintro x' w7 ⟨k7, o7⟩ _
            simp only [stp, Nat.reduceAdd, Int.reduceLT, Int.reduceLE, Int.reduceEq, Int.reduceNe, ne_eq, bne_self_eq_false, beq_self_eq_true, hwi]
            exact hJ' (Ls.length - (i + 1)) _ _ _ (by omega) ⟨k7, i + 1, _, rfl, by omega, rfl, hO1.symm, o7⟩
        · have hli' : ¬ ((i : Int) < (Ls.length : Int)) := by omega
          have hil : i = Ls.length := by omega
          rw [hil, List.take_length] at hO
          simp only [stp, Nat.reduceAdd, Int.reduceLT, Int.reduceLE, Int.reduceEq, Int.reduceNe, ne_eq, bne_self_eq_false, beq_self_eq_true, hli']
          subst hO
          refine hq _ _ _ (o6.le (by omega)) hcan (fun x => ?_) (((k03.trans k4).trans k5).trans k6)
          rw [hval, hv3]
          by_cases hx : hasB (a, b) x
          · rw [if_pos hx, if_pos hx]
          · rw [if_neg hx, if_neg hx, if_neg hx]
  · simp only [stp, Nat.reduceAdd, Int.reduceLT, Int.reduceLE, Int.reduceEq, Int.reduceNe, ne_eq, bne_self_eq_false, beq_self_eq_true, stm, h0]
    exact hq _ _ l (ho.keep0 k2) hc (fun x => by rw [if_neg fun h => h0 h.1]) k2
theorem rpart_at {i : Nat} {pa : Option Addr} {ca : Nat} (ho : RM w B (.slice pa l.length ca) l) (hi : i < l.length) : ∃ g, pa = some ⟨g, 0, none⟩ ∧
    Sh.cel w g (i * 3) = some (.int .i64 l[i].1.1) ∧ Sh.cel w g (i * 3 + 1) = some (.int .i64 l[i].1.2) ∧ Sh.cel w g (i * 3 + 2) = some (.int .i64 l[i].2) := by
  obtain ⟨g, cg, e, _, _, _, _, _, hcel⟩ := Own.at ho (by omega)
  injection e with e1 _ e2
  subst e1 e2
  obtain ⟨p0, p1, p2⟩ := parts_at (ev := fun v : Int => Value.int .i64 v) (b := g) (o := 0) (l := l) (fun j hj => by rw [Nat.zero_add]; exact hcel j hj) (List.getElem?_eq_getElem hi)
  rw [Nat.zero_add] at p0 p1 p2
  exact ⟨g, rfl, p0, p1, p2⟩
end
end Go.Proofs.YtndjohbbaplekaaGreatX
/- The document's norm of locks; a map held, and the document's. Conditions: as each says. -/
set_option linter.unusedSimpArgs false
set_option linter.unusedVariables false
namespace Go.Proofs.YtndjohbbaplekaaGreatX
open Go.Sh Go.Proofs.YtndjohbbaplekaaGreatX.Mi
set_option maxRecDepth 100000
def Lay (md : Int) (L : List I3) (f g : Int → Option Int) : Prop := ∀ x, ((∃ k ∈ L, k.2.2 = md ∧ hasB (k.1, k.2.1) x) → g x = some md) ∧ ((¬ ∃ k ∈ L, k.2.2 = md ∧ hasB (k.1, k.2.1) x) → g x = f x)
theorem Lay.nil {md : Int} {f : Int → Option Int} : Lay md [] f f := fun x => ⟨fun h => (by obtain ⟨k, hk, _⟩ := h; cases hk), fun _ => rfl⟩
theorem Lay.skip {md : Int} {L : List I3} {f g : Int → Option Int} {k : I3} (h : Lay md L f g) (hk : k.2.2 ≠ md) : Lay md (L ++ [k]) f g := fun x => by
  have e : (∃ q ∈ L ++ [k], q.2.2 = md ∧ hasB (q.1, q.2.1) x) ↔ ∃ q ∈ L, q.2.2 = md ∧ hasB (q.1, q.2.1) x := by
    constructor
    · rintro ⟨q, hq, h1, h2⟩
      rcases List.mem_append.1 hq with hq | hq
      · exact ⟨q, hq, h1, h2⟩
      · simp only [List.mem_cons, List.not_mem_nil, or_false] at hq; subst hq; exact absurd h1 hk
    · rintro ⟨q, hq, h1⟩; exact ⟨q, List.mem_append_left _ hq, h1⟩
  rw [e]; exact h x
theorem Lay.put {md : Int} {L : List I3} {f g g' : Int → Option Int} {k : I3} (h : Lay md L f g) (hk : k.2.2 = md) (hg : ∀ x, g' x = if hasB (k.1, k.2.1) x then some md else g x) : Lay md (L ++ [k]) f g' := fun x => by
  refine ⟨fun ⟨q, hq, h1, h2⟩ => ?_, fun hn => ?_⟩
  · rw [hg]
    by_cases hx : hasB (k.1, k.2.1) x
    · rw [if_pos hx]
    · rw [if_neg hx]
      rcases List.mem_append.1 hq with hq | hq
      · exact (h x).1 ⟨q, hq, h1, h2⟩
      · simp only [List.mem_cons, List.not_mem_nil, or_false] at hq; subst hq; exact absurd h2 hx
  · rw [hg, if_neg fun hx => hn ⟨k, by simp, hk, hx⟩]
    exact (h x).2 fun ⟨q, hq, h1⟩ => hn ⟨q, List.mem_append_left _ hq, h1⟩
def SpN (L : List I3) : Nat → (Int → Option Int) → Prop
  | 0, g => ∀ x, g x = none
  | j + 1, g => ∃ f, SpN L j f ∧ Lay ((j + 1 : Nat) : Int) L f g
theorem SpN_ask {L : List I3} {g : Int → Option Int} (h : SpN L 2 g) (x : Int) : g x = askF L x := by
  obtain ⟨f1, ⟨f0, h0, l1⟩, l2⟩ := h
  refine askIs_unique (L := L) (L' := L) (x := x) (fun _ => Iff.rfl) ?_ (askF_is L x)
  by_cases h2 : ∃ k ∈ L, k.2.2 = ((2 : Nat) : Int) ∧ hasB (k.1, k.2.1) x
  · rw [(l2 x).1 h2]
    obtain ⟨k, hk, h3, h4⟩ := h2
    refine ⟨⟨k, hk, ⟨.inr h3, h4⟩, h3⟩, fun q hq hon => ?_⟩
    have := hon.1
    unfold isM at this
    show q.2.2 ≤ (2 : Int)
    rcases this with h5 | h5 <;> rw [h5] <;> decide
  · rw [(l2 x).2 h2]
    by_cases h1 : ∃ k ∈ L, k.2.2 = ((1 : Nat) : Int) ∧ hasB (k.1, k.2.1) x
    · rw [(l1 x).1 h1]
      obtain ⟨k, hk, h3, h4⟩ := h1
      refine ⟨⟨k, hk, ⟨.inl h3, h4⟩, h3⟩, fun q hq hon => ?_⟩
      have h5 := hon.1
      unfold isM at h5
      rcases h5 with h5 | h5
      · omega
      · exact absurd ⟨q, hq, h5, hon.2⟩ h2
    · rw [(l1 x).2 h1, h0]
      intro q hq hon
      have h5 := hon.1
      unfold isM at h5
      rcases h5 with h5 | h5
      · exact h1 ⟨q, hq, h5, hon.2⟩
      · exact h2 ⟨q, hq, h5, hon.2⟩
section
variable {w : World} {Q : Value → World → Prop} {l : List (Pt Int)} {v : Value} {m : Nat}
def ChgN (l : List (Pt Int)) (n : Nat) : Prop := ∃ E, Chg (valB l) E ∧ E.length ≤ n
theorem ChgN.nil : ChgN [] 0 := ⟨[], fun x hx => absurd rfl hx, Nat.le_refl _⟩
theorem ChgN.len {n : Nat} (h : ChgN l n) (hc : Canon l) : l.length ≤ n := by
  obtain ⟨E, h1, h2⟩ := h
  exact Nat.le_trans (chg_len hc h1) h2
theorem ChgN.put {n : Nat} {s : Sp} {u : Int} {l' : List (Pt Int)} (h : ChgN l n) (hv : ∀ x, valB l' x = if hasB s x then some u else valB l x) : ChgN l' (n + 2) := by
  obtain ⟨E, h1, h2⟩ := h
  exact ⟨_, chg_upd (s := s) (g := fun _ => some u) h1 hv, by simp; omega⟩
theorem rnorm_c {L : List I3} (h : Rd 3 w v L.length (flat enc3 L)) (hL : L.length ≤ 1000)
    (hq : ∀ w' v' l', RM w' (siz w) v' l' → Canon l' → (∀ x, valB l' x = askF L x) → l'.length ≤ 4 * L.length → Keep (fun _ => False) w w' → Q v' w') :
    callS Tryz.prog 71 #[v] Q w := by
  refine ref71 ?_
  unfold S71
  obtain ⟨pa, ca, rfl⟩ := h.form
  refine lp2 (fun mm x y w' => Keep (fun _ => False) w w' ∧ ∃ (j : Nat) (lj : List (Pt Int)), y = .int .i64 ((j + 1 : Nat) : Int) ∧ j ≤ 2 ∧ mm = 2 - j ∧ RM w' (siz w) x lj ∧ Canon lj ∧ SpN L j (valB lj) ∧ ChgN lj (2 * (j * L.length))) 2
    ⟨Keep.refl _ _, 0, [], rfl, by omega, rfl, Own.nil _ _ _ _, Canon.nil, fun x => rfl, by simpa using ChgN.nil⟩ ?_
  rintro mm x y w1 ⟨k1, j, lj, rfl, hj, rfl, o1, hc1, hsp1, hch1⟩ J hJ _
  have s1 := k1.size
  have hwj := wrap_succ (i := j + 1) (by omega)
  have hjL : j * L.length ≤ 2 * L.length := Nat.mul_le_mul_right _ hj
  by_cases hjt : j < 2
  · have hjt' : ((j + 1 : Nat) : Int) ≤ 2 := by omega
    simp only [stp, Nat.reduceAdd, Int.reduceLT, Int.reduceLE, Int.reduceEq, Int.reduceNe, ne_eq, bne_self_eq_false, beq_self_eq_true, hjt']
    refine lp2 (fun mm x y w' => Keep (fun _ => False) w w' ∧ ∃ (i : Nat) (li : List (Pt Int)), y = .int .i64 (i : Int) ∧ i ≤ L.length ∧ mm = L.length - i ∧ RM w' (siz w) x li ∧ Canon li ∧ Lay ((j + 1 : Nat) : Int) (L.take i) (valB lj) (valB li) ∧ ChgN li (2 * (j * L.length) + 2 * i)) L.length
      ⟨k1, 0, lj, rfl, Nat.zero_le _, by omega, o1, hc1, Lay.nil, hch1⟩ ?_
    rintro mm x y w2 ⟨k2, i, li, rfl, hi, rfl, o2, hc2, hlay, hch2⟩ J' hJ' _
    have s2 := k2.size
    have hwi := wrap_succ (i := i) (by omega)
    have hlen2 := hch2.len hc2
    by_cases hlt : i < L.length
    · have hlt' : ((i : Int) < (L.length : Int)) := by omega
      have hsi : L[i]? = some L[i] := List.getElem?_eq_getElem hlt
      have hT : L.take (i + 1) = L.take i ++ [L[i]] := by rw [List.take_add_one, hsi]; rfl
      obtain ⟨g, o, c', e, _, hcel⟩ := (h.keep0 k2).at (by omega)
      injection e with e1 _ e2
      subst e1 e2
      obtain ⟨c0, c1, c2⟩ := locks_at hcel hsi
      simp only [stp, Nat.reduceAdd, Int.reduceLT, Int.reduceLE, Int.reduceEq, Int.reduceNe, ne_eq, bne_self_eq_false, beq_self_eq_true, hlt']
      refine jn1 (fun x' w' => Keep (fun _ => False) w w' ∧ ∃ li' : List (Pt Int), RM w' (siz w) x' li' ∧ Canon li' ∧ Lay ((j + 1 : Nat) : Int) (L.take (i + 1)) (valB lj) (valB li') ∧ ChgN li' (2 * (j * L.length) + 2 * (i + 1))) (fun J2 hJ2 => ?_) ?_
      · rw [ix_109 hlt]
        by_cases hmd : L[i].2.2 = ((j + 1 : Nat) : Int)
        · simp only [stp, Nat.reduceAdd, Int.reduceLT, Int.reduceLE, Int.reduceEq, Int.reduceNe, ne_eq, bne_self_eq_false, beq_self_eq_true, stm, c2, hmd]
          rw [ix_109 hlt]
          simp only [stp, Nat.reduceAdd, Int.reduceLT, Int.reduceLE, Int.reduceEq, Int.reduceNe, ne_eq, bne_self_eq_false, beq_self_eq_true, stm, c0, c1]
          refine rset_c o2 s2 hc2 (by omega) fun w3 v3 l3 o3 hc3 hv3 k3 => ?_
          refine hJ2 _ _ ⟨k2.trans k3, l3, o3, hc3, ?_, ?_⟩
          · rw [hT]; exact hlay.put hmd hv3
          · exact hch2.put hv3
        · simp only [stp, Nat.reduceAdd, Int.reduceLT, Int.reduceLE, Int.reduceEq, Int.reduceNe, ne_eq, bne_self_eq_false, beq_self_eq_true, stm, c2, hmd]
          refine hJ2 _ _ ⟨k2, li, o2, hc2, ?_, ?_⟩
          · rw [hT]; exact hlay.skip hmd
          · obtain ⟨E, h1, h2⟩ := hch2; exact ⟨E, h1, by omega⟩
      · rintro x' w3 ⟨k3, l3, o3, hc3, hlay3, hch3⟩ _
        simp only [stp, Nat.reduceAdd, Int.reduceLT, Int.reduceLE, Int.reduceEq, Int.reduceNe, ne_eq, bne_self_eq_false, beq_self_eq_true, hwi]
        exact hJ' (L.length - (i + 1)) _ _ _ (by omega) ⟨k3, i + 1, l3, rfl, by omega, rfl, o3, hc3, hlay3, hch3⟩
    · have hlt' : ¬ ((i : Int) < (L.length : Int)) := by omega
      have hil : i = L.length := by omega
      rw [hil, List.take_length] at hlay
      subst hil
      simp only [stp, Nat.reduceAdd, Int.reduceLT, Int.reduceLE, Int.reduceEq, Int.reduceNe, ne_eq, bne_self_eq_false, beq_self_eq_true, hlt', hwj]
      refine hJ (2 - (j + 1)) _ _ _ (by omega) ⟨k2, j + 1, li, rfl, by omega, rfl, o2, hc2, ⟨_, hsp1, hlay⟩, ?_⟩
      have e : 2 * ((j + 1) * L.length) = 2 * (j * L.length) + 2 * L.length := by rw [Nat.succ_mul j L.length, Nat.mul_add]
      rw [e]; exact hch2
  · have hjt' : ¬ ((j + 1 : Nat) : Int) ≤ 2 := by omega
    have hj2 : j = 2 := by omega
    subst hj2
    simp only [stp, Nat.reduceAdd, Int.reduceLT, Int.reduceLE, Int.reduceEq, Int.reduceNe, ne_eq, bne_self_eq_false, beq_self_eq_true, hjt']
    exact hq _ _ lj o1 hc1 (SpN_ask hsp1) (by have := hch1.len hc1; omega) k1
end
end Go.Proofs.YtndjohbbaplekaaGreatX
