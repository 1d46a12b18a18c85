/- The document's own maps of blocks: what its functions compute. Conditions: as each says. -/
import Derived.Test.YtndjohbbaplekaaGreatPSpanH
set_option linter.unusedSimpArgs false
set_option linter.unusedVariables false
namespace Go.Proofs.YtndjohbbaplekaaGreatP
open Go.Sh
set_option maxRecDepth 100000
section
variable {w : World} {Q : Value → World → Prop} {a b c d : Int}
theorem rvalid_c (hq : ∀ w', Grw w w' → Q (.bool (decide (ok (a, b)))) w') : callS Tryz.prog 24 #[.agg #[.int .i64 a, .int .i64 b]] Q w := by
  refine ref24 ?_
  unfold S24
  by_cases h0 : 0 ≤ a
  · simp only [stp, Nat.reduceAdd, Int.reduceLT, Int.reduceLE, Int.reduceEq, Int.reduceNe, ne_eq, bne_self_eq_false, beq_self_eq_true, stm, h0]
    have := hq _ ((Grw.refl w).alloc (.cells #[.int .i64 a, .int .i64 b] 72))
    simpa only [ok, h0, true_and] using this
  · simp only [stp, Nat.reduceAdd, Int.reduceLT, Int.reduceLE, Int.reduceEq, Int.reduceNe, ne_eq, bne_self_eq_false, beq_self_eq_true, stm, h0]
    have := hq _ ((Grw.refl w).alloc (.cells #[.int .i64 a, .int .i64 b] 72))
    simpa only [ok, h0, false_and, decide_false] using this

theorem rmeet_c (hq : ∀ w', Grw w w' → Q (.tuple (if ok (a, b) ∧ ok (c, d) ∧ ok (max a c, min b d) then #[.agg #[.int .i64 (max a c), .int .i64 (min b d)], .bool true] else #[.agg #[.int .i64 0, .int .i64 0], .bool false])) w') :
    callS Tryz.prog 29 #[.agg #[.int .i64 a, .int .i64 b], .agg #[.int .i64 c, .int .i64 d]] Q w := by
  refine ref29 ?_
  unfold S29
  simp only [stp, Nat.reduceAdd, Int.reduceLT, Int.reduceLE, Int.reduceEq, Int.reduceNe, ne_eq, bne_self_eq_false, beq_self_eq_true, stm]
  generalize hw1 : w.alloc (.cells #[.int .i64 a, .int .i64 b] 72) = w1
  generalize hw2 : w1.alloc (.cells #[.int .i64 c, .int .i64 d] 72) = w2
  generalize hw3 : w2.alloc (.cells #[.int .i64 0, .int .i64 0] 72) = w3
  have s1 : siz w1 = siz w + 1 := by rw [← hw1, siz_alloc]
  have s2 : siz w2 = siz w + 2 := by rw [← hw2, siz_alloc, s1]
  have s3 : siz w3 = siz w + 3 := by rw [← hw3, siz_alloc, s2]
  have g1 : Grw w w1 := hw1 ▸ (Grw.refl w).alloc _
  have g2 : Grw w w2 := hw2 ▸ g1.alloc _
  have g3 : Grw w w3 := hw3 ▸ g2.alloc _
  have a0 : cel w3 (siz w) 0 = some (.int .i64 a) := by rw [← hw3, cel_alloc_old (by omega), ← hw2, cel_alloc_old (by omega), ← hw1]; exact cel_alloc_new
  have a1 : cel w3 (siz w) 1 = some (.int .i64 b) := by rw [← hw3, cel_alloc_old (by omega), ← hw2, cel_alloc_old (by omega), ← hw1]; exact cel_alloc_new
  have b0 : cel w3 (siz w1) 0 = some (.int .i64 c) := by rw [← hw3, cel_alloc_old (by omega), ← hw2]; exact cel_alloc_new
  have b1 : cel w3 (siz w1) 1 = some (.int .i64 d) := by rw [← hw3, cel_alloc_old (by omega), ← hw2]; exact cel_alloc_new
  have d0 : cel w3 (siz w2) 0 = some (.int .i64 0) := by rw [← hw3]; exact cel_alloc_new
  have d1 : cel w3 (siz w2) 1 = some (.int .i64 0) := by rw [← hw3]; exact cel_alloc_new
  have df : fre w3 (siz w2) = true := by rw [← hw3]; exact fre_alloc_new
  try simp only [stp, Nat.reduceAdd, Int.reduceLT, Int.reduceLE, Int.reduceEq, Int.reduceNe, ne_eq, bne_self_eq_false, beq_self_eq_true, stm, a0, a1, b0, b1]
  generalize hw4 : w3.alloc (.cells #[.int .i64 (max a c), .int .i64 (min b d)] 72) = w4
  have s4 : siz w4 = siz w + 4 := by rw [← hw4, siz_alloc, s3]
  have g4 : Grw w3 w4 := hw4 ▸ (Grw.refl w3).alloc _
  have m0 : cel w4 (siz w3) 0 = some (.int .i64 (max a c)) := by rw [← hw4]; exact cel_alloc_new
  have m1 : cel w4 (siz w3) 1 = some (.int .i64 (min b d)) := by rw [← hw4]; exact cel_alloc_new
  try simp only [stp, Nat.reduceAdd, Int.reduceLT, Int.reduceLE, Int.reduceEq, Int.reduceNe, ne_eq, bne_self_eq_false, beq_self_eq_true, stm, g4.1.cel a0 id, g4.1.cel a1 id]
  -- the end, from whatever world behind w4
  have fin : ∀ {w5 : World}, Grw w4 w5 → ∀ {u v : Int}, Grw w (stoL w5 (siz w2) 0 [.int .i64 u, .int .i64 v]) := fun {w5} g5 {u v} =>
    ⟨Keep.stoL _ 0 ((g3.trans g4).trans g5).1 (.inr (by omega)), Nat.le_trans (g3.trans g4).2 g5.2⟩
  refine rvalid_c fun w5 g5 => ?_
  have c5 : ∀ {o : Nat} {v : Value}, cel w4 (siz w1) o = some v → cel w5 (siz w1) o = some v := fun h => g5.1.cel h id
  by_cases h1 : ok (a, b)
  · simp only [stp, Nat.reduceAdd, Int.reduceLT, Int.reduceLE, Int.reduceEq, Int.reduceNe, ne_eq, bne_self_eq_false, beq_self_eq_true, stm, h1, g5.1.cel (g4.1.cel b0 id) id, g5.1.cel (g4.1.cel b1 id) id]
    refine rvalid_c fun w6 g6 => ?_
    by_cases h2 : ok (c, d)
    · simp only [stp, Nat.reduceAdd, Int.reduceLT, Int.reduceLE, Int.reduceEq, Int.reduceNe, ne_eq, bne_self_eq_false, beq_self_eq_true, stm, h2, g6.1.cel (g5.1.cel m0 id) id, g6.1.cel (g5.1.cel m1 id) id]
      refine rvalid_c fun w7 g7 => ?_
      have gg := (g5.trans g6).trans g7
      have k7 := (g4.trans gg).1
      by_cases h3 : ok (max a c, min b d)
      · simp only [stp, Nat.reduceAdd, Int.reduceLT, Int.reduceLE, Int.reduceEq, Int.reduceNe, ne_eq, bne_self_eq_false, beq_self_eq_true, stm, h3, g7.1.cel (g6.1.cel (g5.1.cel m0 id) id) id, g7.1.cel (g6.1.cel (g5.1.cel m1 id) id) id]
        have e0 := k7.cel d0 id
        have e1 := k7.cel d1 id
        have ef := k7.fre df id
        rw [st_72 one_int one_int (by rw [e0]; rfl) (by rw [Nat.zero_add, e1]; rfl) ef]
        have hq' := hq _ (fin gg (u := max a c) (v := min b d))
        rw [if_pos ⟨h1, h2, h3⟩] at hq'
        have i0 : (cel w7 (siz w2) 0).isSome = true := by rw [e0]; rfl
        have z0 : cel (stoL w7 (siz w2) 0 [.int .i64 (max a c), .int .i64 (min b d)]) (siz w2) 0 = some (.int .i64 (max a c)) := by
          simp only [stoL_cons, stoL_nil]; rw [cel_sto_ne (by omega), cel_sto_same i0]
        have z1 : cel (stoL w7 (siz w2) 0 [.int .i64 (max a c), .int .i64 (min b d)]) (siz w2) 1 = some (.int .i64 (min b d)) := by
          simp only [stoL_cons, stoL_nil]; rw [cel_sto_same (by rw [cel_sto_ne (by omega), e1]; rfl)]
        simp only [stp, Nat.reduceAdd, Int.reduceLT, Int.reduceLE, Int.reduceEq, Int.reduceNe, ne_eq, bne_self_eq_false, beq_self_eq_true, stm, z0, z1]
        exact hq'
      · simp only [stp, Nat.reduceAdd, Int.reduceLT, Int.reduceLE, Int.reduceEq, Int.reduceNe, ne_eq, bne_self_eq_false, beq_self_eq_true, stm, h3]
        have e0 := k7.cel d0 id
        have e1 := k7.cel d1 id
        have ef := k7.fre df id
        rw [st_72 one_int one_int (by rw [e0]; rfl) (by rw [Nat.zero_add, e1]; rfl) ef]
        have hq' := hq _ (fin gg (u := 0) (v := 0))
        rw [if_neg (fun h => h3 h.2.2)] at hq'
        have i0 : (cel w7 (siz w2) 0).isSome = true := by rw [e0]; rfl
        have z0 : cel (stoL w7 (siz w2) 0 [.int .i64 0, .int .i64 0]) (siz w2) 0 = some (.int .i64 0) := by
          simp only [stoL_cons, stoL_nil]; rw [cel_sto_ne (by omega), cel_sto_same i0]
        have z1 : cel (stoL w7 (siz w2) 0 [.int .i64 0, .int .i64 0]) (siz w2) 1 = some (.int .i64 0) := by
          simp only [stoL_cons, stoL_nil]; rw [cel_sto_same (by rw [cel_sto_ne (by omega), e1]; rfl)]
        simp only [stp, Nat.reduceAdd, Int.reduceLT, Int.reduceLE, Int.reduceEq, Int.reduceNe, ne_eq, bne_self_eq_false, beq_self_eq_true, stm, z0, z1]
        exact hq'
    · simp only [stp, Nat.reduceAdd, Int.reduceLT, Int.reduceLE, Int.reduceEq, Int.reduceNe, ne_eq, bne_self_eq_false, beq_self_eq_true, stm, h2]
      have gg := g5.trans g6
      have k7 := (g4.trans gg).1
      have e0 := k7.cel d0 id
      have e1 := k7.cel d1 id
      have ef := k7.fre df id
      rw [st_72 one_int one_int (by rw [e0]; rfl) (by rw [Nat.zero_add, e1]; rfl) ef]
      have hq' := hq _ (fin gg (u := 0) (v := 0))
      rw [if_neg (fun h => h2 h.2.1)] at hq'
      have i0 : (cel w6 (siz w2) 0).isSome = true := by rw [e0]; rfl
      have z0 : cel (stoL w6 (siz w2) 0 [.int .i64 0, .int .i64 0]) (siz w2) 0 = some (.int .i64 0) := by
        simp only [stoL_cons, stoL_nil]; rw [cel_sto_ne (by omega), cel_sto_same i0]
      have z1 : cel (stoL w6 (siz w2) 0 [.int .i64 0, .int .i64 0]) (siz w2) 1 = some (.int .i64 0) := by
        simp only [stoL_cons, stoL_nil]; rw [cel_sto_same (by rw [cel_sto_ne (by omega), e1]; rfl)]
      simp only [stp, Nat.reduceAdd, Int.reduceLT, Int.reduceLE, Int.reduceEq, Int.reduceNe, ne_eq, bne_self_eq_false, beq_self_eq_true, stm, z0, z1]
      exact hq'
  · simp only [stp, Nat.reduceAdd, Int.reduceLT, Int.reduceLE, Int.reduceEq, Int.reduceNe, ne_eq, bne_self_eq_false, beq_self_eq_true, stm, h1]
    have k7 := (g4.trans g5).1
    have e0 := k7.cel d0 id
    have e1 := k7.cel d1 id
    have ef := k7.fre df id
    rw [st_72 one_int one_int (by rw [e0]; rfl) (by rw [Nat.zero_add, e1]; rfl) ef]
    have hq' := hq _ (fin g5 (u := 0) (v := 0))
    rw [if_neg (fun h => h1 h.1)] at hq'
    have i0 : (cel w5 (siz w2) 0).isSome = true := by rw [e0]; rfl
    have z0 : cel (stoL w5 (siz w2) 0 [.int .i64 0, .int .i64 0]) (siz w2) 0 = some (.int .i64 0) := by
      simp only [stoL_cons, stoL_nil]; rw [cel_sto_ne (by omega), cel_sto_same i0]
    have z1 : cel (stoL w5 (siz w2) 0 [.int .i64 0, .int .i64 0]) (siz w2) 1 = some (.int .i64 0) := by
      simp only [stoL_cons, stoL_nil]; rw [cel_sto_same (by rw [cel_sto_ne (by omega), e1]; rfl)]
    simp only [stp, Nat.reduceAdd, Int.reduceLT, Int.reduceLE, Int.reduceEq, Int.reduceNe, ne_eq, bne_self_eq_false, beq_self_eq_true, stm, z0, z1]
    exact hq'
end
/-! ### plain -/
def clrP (s : Sp) (p : Pt Int) : List (Pt Int) := (if p.1.1 < s.1 then [((p.1.1, min p.1.2 s.1), p.2)] else []) ++ (if s.2 < p.1.2 then [((max p.1.1 s.2, p.1.2), p.2)] else [])
def clrL (s : Sp) (l : List (Pt Int)) : List (Pt Int) := l.flatMap (clrP s)
theorem clrP_len (s : Sp) (p : Pt Int) : (clrP s p).length ≤ 2 := by unfold clrP; split <;> split <;> simp
theorem clrL_len (s : Sp) : ∀ l : List (Pt Int), (clrL s l).length ≤ 2 * l.length
  | [] => by simp [clrL]
  | p :: l => by
    have h1 := clrL_len s l
    have h2 := clrP_len s p
    unfold clrL at *
    rw [List.flatMap_cons, List.length_append, List.length_cons]; omega
theorem clrP_in {s : Sp} {p q : Pt Int} (hs : ok s) (hp : ok p.1) (h : q ∈ clrP s p) : ok q.1 ∧ q.2 = p.2 ∧ p.1.1 ≤ q.1.1 ∧ q.1.2 ≤ p.1.2 ∧ (q.1.2 ≤ s.1 ∨ s.2 ≤ q.1.1) := by
  unfold clrP at h
  have hs1 := hs.1
  have hs2 := hs.2
  have hp1 := hp.1
  have hp2 := hp.2
  rcases List.mem_append.1 h with h | h
  · split at h
    · simp only [List.mem_cons, List.not_mem_nil, or_false] at h
      subst h
      refine ⟨⟨by simp only; omega, by simp only; omega⟩, rfl, by simp only; omega, by simp only; omega, .inl (by simp only; omega)⟩
    · cases h
  · split at h
    · simp only [List.mem_cons, List.not_mem_nil, or_false] at h
      subst h
      refine ⟨⟨by simp only; omega, by simp only; omega⟩, rfl, by simp only; omega, by simp only; omega, .inr (by simp only; omega)⟩
    · cases h
theorem clrL_canon {s : Sp} {l : List (Pt Int)} (hs : ok s) (h : Canon l) : Canon (clrL s l) := by
  refine ⟨fun q hq => ?_, ?_⟩
  · obtain ⟨p, hp, hq⟩ := List.mem_flatMap.1 hq
    exact (clrP_in hs (h.1 p hp) hq).1
  · unfold clrL
    rw [List.pairwise_flatMap]
    refine ⟨fun p hp => ?_, h.2.imp_of_mem fun {p q} hp hq hn x hx y hy => ?_⟩
    · have ho := h.1 p hp
      have hs2 := hs.2
      unfold clrP
      rw [List.pairwise_append]
      refine ⟨by split <;> simp, by split <;> simp, fun x hx y hy => ?_⟩
      split at hx
      · split at hy
        · simp only [List.mem_cons, List.not_mem_nil, or_false] at hx hy
          subst hx hy
          left; simp only; omega
        · cases hy
      · cases hx
    · obtain ⟨_, e1, _, h2, _⟩ := clrP_in hs (h.1 p hp) hx
      obtain ⟨_, e2, h3, _, _⟩ := clrP_in hs (h.1 q hq) hy
      unfold nextOk at *
      rw [e1, e2]
      rcases hn with hn | hn
      · left; omega
      · by_cases he : x.1.2 = y.1.1
        · exact .inr ⟨he, hn.2⟩
        · left; omega
theorem clrL_val {s : Sp} {l : List (Pt Int)} (hs : ok s) (h : Canon l) (x : Int) : valB (clrL s l) x = if hasB s x then none else valB l x := by
  have hc := clrL_canon hs h
  by_cases hx : hasB s x
  · rw [if_pos hx, valB_none]
    intro q hq hh
    obtain ⟨p, hp, hq⟩ := List.mem_flatMap.1 hq
    obtain ⟨_, _, _, _, h5⟩ := clrP_in hs (h.1 p hp) hq
    have h1 := hh.2.1
    have h2 := hh.2.2
    have h3 := hx.2.1
    have h4 := hx.2.2
    omega
  · rw [if_neg hx]
    cases hv : valB l x with
    | none =>
      rw [valB_none] at hv ⊢
      intro q hq hh
      obtain ⟨p, hp, hq⟩ := List.mem_flatMap.1 hq
      obtain ⟨_, _, h3, h4, _⟩ := clrP_in hs (h.1 p hp) hq
      exact hv p hp ⟨h.1 p hp, by have := hh.2.1; omega, by have := hh.2.2; omega⟩
    | some v =>
      obtain ⟨p, hp, hh, rfl⟩ := valB_some hv
      have hnx : x < s.1 ∨ s.2 ≤ x := by
        rcases Int.lt_or_le x s.1 with h1 | h1
        · exact .inl h1
        · rcases Int.lt_or_le x s.2 with h2 | h2
          · exact absurd ⟨hs, h1, h2⟩ hx
          · exact .inr h2
      have h1 := hh.2.1
      have h2 := hh.2.2
      have hs2 := hs.2
      rcases hnx with hnx | hnx
      · have hq : (((p.1.1, min p.1.2 s.1), p.2) : Pt Int) ∈ clrL s l := List.mem_flatMap.2 ⟨p, hp, by unfold clrP; rw [if_pos (by omega)]; simp⟩
        exact valB_mem hc.apart hq ⟨hc.1 _ hq, by simp only; omega, by simp only; omega⟩
      · have hq : (((max p.1.1 s.2, p.1.2), p.2) : Pt Int) ∈ clrL s l := List.mem_flatMap.2 ⟨p, hp, by unfold clrP; rw [if_pos (show s.2 < p.1.2 by omega)]; simp⟩
        exact valB_mem hc.apart hq ⟨hc.1 _ hq, by simp only; omega, by simp only; omega⟩
/-- A range put among parts that have no block of it. -/
theorem put_laid {s : Sp} {v : Int} {C : List (Pt Int)} {k : Nat} (hs : ok s) (hc : Canon C) (hno : ∀ x, hasB s x → valB C x = none) (hk : k ≤ C.length) (h1 : ∀ p ∈ C.take k, p.1.1 < s.1) (h2 : ∀ (h : k < C.length), s.1 ≤ C[k].1.1) :
    Canon ((C.take k ++ [(s, v)] ++ C.drop k).foldl mstepP []) ∧ ∀ x, valB ((C.take k ++ [(s, v)] ++ C.drop k).foldl mstepP []) x = if hasB s x then some v else valB C x := by
  have hs2 := hs.2
  have hap := hc.apart
  have before : ∀ p ∈ C.take k, p.1.2 ≤ s.1 := fun p hp => by
    rcases Int.lt_or_le s.1 p.1.2 with h | h
    · have hm := List.mem_of_mem_take hp
      have := valB_mem hap hm (x := s.1) ⟨hc.1 p hm, by have := h1 p hp; omega, h⟩
      rw [hno _ ⟨hs, Int.le_refl _, hs2⟩] at this
      cases this
    · exact h
  have from_ : ∀ p ∈ C.drop k, s.1 ≤ p.1.1 := fun p hp => by
    obtain ⟨j, hj, rfl⟩ := List.mem_iff_getElem.1 hp
    rw [List.length_drop] at hj
    rw [List.getElem_drop]
    have hkl : k < C.length := by omega
    have h3 := h2 hkl
    rcases Nat.eq_zero_or_pos j with h0 | h0
    · subst h0; exact h3
    · have := List.pairwise_iff_getElem.1 hc.2 k (k + j) hkl (by omega) (by omega)
      have ho := (hc.1 C[k] (List.getElem_mem hkl)).2
      rcases this with h | h <;> omega
  have after : ∀ p ∈ C.drop k, s.2 ≤ p.1.1 := fun p hp => by
    rcases Int.lt_or_le p.1.1 s.2 with h | h
    · have hm := List.mem_of_mem_drop hp
      have ho := hc.1 p hm
      have := valB_mem hap hm (x := p.1.1) ⟨ho, Int.le_refl _, ho.2⟩
      rw [hno _ ⟨hs, from_ p hp, h⟩] at this
      cases this
    · exact h
  have hok : ∀ p ∈ C.take k ++ [(s, v)] ++ C.drop k, ok p.1 := fun p hp => by
    simp only [List.mem_append, List.mem_cons, List.not_mem_nil, or_false] at hp
    rcases hp with (hp | rfl) | hp
    · exact hc.1 p (List.mem_of_mem_take hp)
    · exact hs
    · exact hc.1 p (List.mem_of_mem_drop hp)
  have hcp : C.Pairwise (fun p q => p.1.2 ≤ q.1.1) := hc.2.imp fun {p q} h => by rcases h with h | h <;> omega
  have hpw : (C.take k ++ [(s, v)] ++ C.drop k).Pairwise (fun p q => p.1.2 ≤ q.1.1) := by
    rw [List.pairwise_append, List.pairwise_append]
    refine ⟨⟨hcp.sublist (List.take_sublist _ _), by simp, fun p hp q hq => ?_⟩, hcp.sublist (List.drop_sublist _ _), fun p hp q hq => ?_⟩
    · simp only [List.mem_cons, List.not_mem_nil, or_false] at hq
      subst hq
      exact before p hp
    · simp only [List.mem_append, List.mem_cons, List.not_mem_nil, or_false] at hp
      have h5 := after q hq
      rcases hp with hp | rfl
      · have := before p hp; omega
      · exact h5
  obtain ⟨c1, c2⟩ := laid_spec _ [] Canon.nil hok hpw (by simp)
  refine ⟨c1, fun x => ?_⟩
  rw [c2]
  show (none : Option Int).or _ = _
  rw [Option.none_or, valB_append, valB_append]
  have hC : valB C x = (valB (C.take k) x).or (valB (C.drop k) x) := by rw [← valB_append, List.take_append_drop]
  by_cases hx : hasB s x
  · rw [if_pos hx]
    have := hno x hx
    rw [hC] at this
    have h3 : valB (C.take k) x = none := by cases h : valB (C.take k) x with | none => rfl | some u => rw [h] at this; cases this
    rw [h3]
    simp [valB, hx]
  · rw [if_neg hx, hC]
    have : valB [(s, v)] x = none := by simp [valB, hx]
    rw [this, Option.or_none]
/-- A new one's row: what it says of the list of a map. -/
abbrev encI : Pt Int → List Value := encP fun v : Int => Value.int .i64 v
theorem encI_one {l : List (Pt Int)} {u : Value} (h : u ∈ flat encI l) : Go.Sh.one u = true := by
  obtain ⟨p, _, hu⟩ := List.mem_flatMap.1 h
  simp only [encP, List.mem_cons, List.not_mem_nil, or_false] at hu
  rcases hu with rfl | rfl | rfl <;> exact one_int
abbrev RM (w : World) (B : Nat) (v : Value) (l : List (Pt Int)) : Prop := Own w B 101 3 v l.length (flat encI l)
section
variable {w : World} {Q : Value → World → Prop} {B : Nat} {l : List (Pt Int)} {v : Value}
theorem RM.keep0 {w' : World} (h : RM w B v l) (k : Keep (fun _ => False) w w') : RM w' B v l := h.keep k fun _ _ => id

theorem rclear_c {a b : Int} (ho : RM w B v l) (hB : B ≤ siz w) (hc : Canon l) (hl : l.length ≤ 100000)
    (hq : ∀ w' v' l', RM w' B v' l' → Canon l' → (∀ x, valB l' x = if hasB (a, b) x then none else valB l x) → l'.length ≤ 2 * l.length → Keep (fun _ => False) w w' → Q v' w') :
    callS Tryz.prog 50 #[v, .agg #[.int .i64 a, .int .i64 b]] Q w := by
  refine ref50 ?_
  unfold S50
  simp only [act_box, agg_cells]
  have x0 : cel (w.alloc (.cells #[.int .i64 a, .int .i64 b] 72)) (siz w) 0 = some (.int .i64 a) := cel_alloc_new
  have x1 : cel (w.alloc (.cells #[.int .i64 a, .int .i64 b] 72)) (siz w) 1 = some (.int .i64 b) := cel_alloc_new
  have k1 := (Keep.refl (fun _ => False) w).alloc (.cells #[.int .i64 a, .int .i64 b] 72)
  have s1 : siz (w.alloc (.cells #[.int .i64 a, .int .i64 b] 72)) = siz w + 1 := siz_alloc
  generalize w.alloc (.cells #[.int .i64 a, .int .i64 b] 72) = w1 at x0 x1 k1 s1
  simp only [stp, Nat.reduceAdd, Int.reduceLT, Int.reduceLE, Int.reduceEq, Int.reduceNe, ne_eq, bne_self_eq_false, beq_self_eq_true, stm, x0, x1]
  refine rvalid_c fun w2 g2 => ?_
  have k2 := k1.trans g2.1
  have y0 := g2.1.cel x0 id
  have y1 := g2.1.cel x1 id
  have s2 := g2.1.size
  by_cases h0 : ok (a, b)
  · simp only [stp, Nat.reduceAdd, Int.reduceLT, Int.reduceLE, Int.reduceEq, Int.reduceNe, ne_eq, bne_self_eq_false, beq_self_eq_true, stm, h0]
    have o2 := ho.keep0 k2
    refine lp2 (fun mm x y w' => Keep (fun _ => False) w2 w' ∧ ∃ (i : Nat) (L : List (Pt Int)), y = .int .i64 (i : Int) ∧ i ≤ l.length ∧ mm = l.length - i ∧ L = clrL (a, b) (l.take i) ∧ RM w' (siz w2) x L) l.length
      ⟨Keep.refl _ _, 0, [], rfl, Nat.zero_le _, by omega, rfl, Own.nil _ _ _ _⟩ ?_
    rintro mm x y w3 ⟨k3, i, L, rfl, hi, rfl, hL, o3⟩ J hJ _
    have hwi := wrap_succ (i := i) (by omega)
    have s3 := k3.size
    have hLl : L.length ≤ 2 * i := by
      have := clrL_len (a, b) (l.take i)
      rw [← hL, List.length_take] at this
      omega
    obtain ⟨pv, cv, rfl⟩ := o2.form
    by_cases hlt : i < l.length
    · have hlt' : ((i : Int) < (l.length : Int)) := by omega
      have hsi : l[i]? = some l[i] := List.getElem?_eq_getElem hlt
      have hL1 : clrL (a, b) (l.take (i + 1)) = L ++ clrP (a, b) l[i] := by
        rw [List.take_add_one, hsi, Option.toList_some, hL]; unfold clrL; rw [List.flatMap_append]; simp
      obtain ⟨g, cg, e, _, _, _, _, _, hcel⟩ := (o2.keep k3 fun _ _ => id).at (by omega)
      injection e with e1 _ e2
      subst e1 e2
      obtain ⟨p0, p1, p2⟩ := parts_at (ev := fun v : Int => Value.int .i64 v) (b := g) (o := 0) (l := l) (fun j hj => by rw [Nat.zero_add]; exact hcel j hj) hsi
      rw [Nat.zero_add] at p0 p1 p2
      simp only [stp, Nat.reduceAdd, Int.reduceLT, Int.reduceLE, Int.reduceEq, Int.reduceNe, ne_eq, bne_self_eq_false, beq_self_eq_true, hlt']
      refine jn1 (fun x' w' => Keep (fun _ => False) w2 w' ∧ RM w' (siz w2) x' (clrL (a, b) (l.take (i + 1)))) (fun J1 hJ1 => ?_) ?_
      · rw [ix_92 hlt]
        simp only [stp, Nat.reduceAdd, Int.reduceLT, Int.reduceLE, Int.reduceEq, Int.reduceNe, ne_eq, bne_self_eq_false, beq_self_eq_true, stm, p0, p1, p2]
        have k4 := (Keep.refl (fun _ => False) w3).alloc (.cells #[.int .i64 l[i].1.1, .int .i64 l[i].1.2, .int .i64 l[i].2] 101)
        have q0 : cel (w3.alloc (.cells #[.int .i64 l[i].1.1, .int .i64 l[i].1.2, .int .i64 l[i].2] 101)) (siz w3) 0 = some (.int .i64 l[i].1.1) := cel_alloc_new
        have q1 : cel (w3.alloc (.cells #[.int .i64 l[i].1.1, .int .i64 l[i].1.2, .int .i64 l[i].2] 101)) (siz w3) 1 = some (.int .i64 l[i].1.2) := cel_alloc_new
        have q2 : cel (w3.alloc (.cells #[.int .i64 l[i].1.1, .int .i64 l[i].1.2, .int .i64 l[i].2] 101)) (siz w3) 2 = some (.int .i64 l[i].2) := cel_alloc_new
        have s4 : siz (w3.alloc (.cells #[.int .i64 l[i].1.1, .int .i64 l[i].1.2, .int .i64 l[i].2] 101)) = siz w3 + 1 := siz_alloc
        generalize w3.alloc (.cells #[.int .i64 l[i].1.1, .int .i64 l[i].1.2, .int .i64 l[i].2] 101) = w4 at k4 q0 q1 q2 s4
        have o4 := o3.keep k4 fun _ _ => id
        have z0 := k4.cel (k3.cel y0 id) id
        have z1 := k4.cel (k3.cel y1 id) id
        have hx4 : ∀ g, x.ownBlock = some g → g ≠ siz w3 ∧ siz w2 ≤ g := fun g hg => by have := o3.lt hg; omega
        have k24 := k3.trans k4
        clear k4 p0 p1 p2
        let P1 : List (Pt Int) := if l[i].1.1 < a then [((l[i].1.1, min l[i].1.2 a), l[i].2)] else []
        refine jn1 (fun x' w' => Keep (fun _ => False) w2 w' ∧ RM w' (siz w2) x' (L ++ P1) ∧ cel w' (siz w3) 0 = some (.int .i64 l[i].1.1) ∧ cel w' (siz w3) 1 = some (.int .i64 l[i].1.2) ∧ cel w' (siz w3) 2 = some (.int .i64 l[i].2)) (fun J2 hJ2 => ?_) ?_
        · by_cases h1 : l[i].1.1 < a
          · simp only [stp, Nat.reduceAdd, Int.reduceLT, Int.reduceLE, Int.reduceEq, Int.reduceNe, ne_eq, bne_self_eq_false, beq_self_eq_true, stm, q0, q1, q2, z0, h1]
            refine pu_92 o4 (by intro u hu; simp only [List.mem_cons, List.not_mem_nil, or_false] at hu; rcases hu with rfl | rfl | rfl <;> exact one_int) (by omega) (by omega) fun v' w' ho hk hr => hJ2 _ _ ⟨k24.trans' hk fun b hb e => by have := hx4 _ e; omega, ?_, hk.cel q0 (fun e => (hx4 _ e).1 rfl), hk.cel q1 (fun e => (hx4 _ e).1 rfl), hk.cel q2 (fun e => (hx4 _ e).1 rfl)⟩
            show RM w' (siz w2) v' (L ++ (if l[i].1.1 < a then [((l[i].1.1, min l[i].1.2 a), l[i].2)] else []))
            rw [if_pos h1]
            unfold RM
            rw [flat_append, flat_one, List.length_append]; exact ho
          · simp only [stp, Nat.reduceAdd, Int.reduceLT, Int.reduceLE, Int.reduceEq, Int.reduceNe, ne_eq, bne_self_eq_false, beq_self_eq_true, stm, q0, z0, h1]
            refine hJ2 _ _ ⟨k24, ?_, q0, q1, q2⟩
            show RM w4 (siz w2) x (L ++ (if l[i].1.1 < a then [((l[i].1.1, min l[i].1.2 a), l[i].2)] else []))
            rw [if_neg h1, List.append_nil]; exact o4
        · rintro x' w5 ⟨k5, o5, r0, r1, r2⟩ _
          have t1 := k5.cel y1 id
          have s5 := k5.size
          have hfin : clrL (a, b) (l.take (i + 1)) = (L ++ P1) ++ (if b < l[i].1.2 then [((max l[i].1.1 b, l[i].1.2), l[i].2)] else []) := by
            rw [hL1, List.append_assoc]; rfl
          have hP1 : (L ++ P1).length ≤ 2 * i + 1 := by
            have : P1.length ≤ 1 := by show (if l[i].1.1 < a then [((l[i].1.1, min l[i].1.2 a), l[i].2)] else []).length ≤ 1; split <;> simp
            rw [List.length_append]; omega
          by_cases h1 : b < l[i].1.2
          · rw [if_pos h1] at hfin
            simp only [stp, Nat.reduceAdd, Int.reduceLT, Int.reduceLE, Int.reduceEq, Int.reduceNe, ne_eq, bne_self_eq_false, beq_self_eq_true, stm, r0, r1, r2, t1, h1]
            refine pu_92 o5 (by intro u hu; simp only [List.mem_cons, List.not_mem_nil, or_false] at hu; rcases hu with rfl | rfl | rfl <;> exact one_int) (by omega) (by omega) fun v' w' ho hk hr => hJ1 _ _ ⟨k5.trans' hk fun b hb e => by have := (o5.lt e).1; omega, ?_⟩
            rw [hfin]
            unfold RM
            rw [flat_append, flat_one, List.length_append]; exact ho
          · rw [if_neg h1, List.append_nil] at hfin
            simp only [stp, Nat.reduceAdd, Int.reduceLT, Int.reduceLE, Int.reduceEq, Int.reduceNe, ne_eq, bne_self_eq_false, beq_self_eq_true, stm, r1, t1, h1]
            refine hJ1 _ _ ⟨k5, ?_⟩
            rw [hfin]; exact o5
      · rintro x' w5 ⟨k5, o5⟩ _
        simp only [stp, Nat.reduceAdd, Int.reduceLT, Int.reduceLE, Int.reduceEq, Int.reduceNe, ne_eq, bne_self_eq_false, beq_self_eq_true, hwi]
        exact hJ (l.length - (i + 1)) _ _ _ (by omega) ⟨k5, i + 1, _, rfl, by omega, rfl, rfl, o5⟩
    · have hlt' : ¬ ((i : Int) < (l.length : Int)) := by omega
      have hil : i = l.length := by omega
      rw [hil, List.take_length] at hL
      simp only [stp, Nat.reduceAdd, Int.reduceLT, Int.reduceLE, Int.reduceEq, Int.reduceNe, ne_eq, bne_self_eq_false, beq_self_eq_true, hlt']
      subst hL
      exact hq _ _ _ (o3.le (by omega)) (clrL_canon h0 hc) (fun x => clrL_val h0 hc x) (clrL_len _ _) (k2.trans k3)
  · simp only [stp, Nat.reduceAdd, Int.reduceLT, Int.reduceLE, Int.reduceEq, Int.reduceNe, ne_eq, bne_self_eq_false, beq_self_eq_true, stm, h0]
    exact hq _ _ l (ho.keep0 k2) hc (fun x => by rw [if_neg fun h => h0 h.1]) (by omega) k2
end
end Go.Proofs.YtndjohbbaplekaaGreatP
