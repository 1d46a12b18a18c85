/- The table of locks: who waits; what one node is to let go. Conditions: as each says. -/
import Derived.Test.YtiomanikpboclaaTableR
set_option linter.unusedSimpArgs false
set_option linter.unusedVariables false
namespace Go.Proofs.Ytiomanikpboclaa
open Go.Sh Go.Proofs.Ytiomanikpboclaa.Mi
set_option maxRecDepth 100000
section
variable {w w' : World} {Q : Value → World → Prop} {B t : Nat} {s : TS}
theorem wclone_c {v : Value} {n : Nat} {xs : List Value} (h : Rd 5 w v n xs) (h1 : ∀ u ∈ xs, Go.Sh.one u = true) (hn : n ≤ 1000000) (hq : ∀ w' v', Own w' (siz w) 36 5 v' n xs → K0 w w' → Q v' w') :
    callS Try.prog 33 #[v] Q w := by
  refine ref33 ?_
  unfold S33
  obtain ⟨a, c, rfl⟩ := h.form
  cases a with
  | none =>
    simp only [stp, Nat.reduceAdd, Int.reduceLT, Int.reduceLE, Int.reduceEq, Int.reduceNe, ne_eq, bne_self_eq_false, beq_self_eq_true, stm]
    rcases h.2 with ⟨rfl, _⟩ | ⟨b, o, c', e, _⟩
    · have hx : xs = [] := List.length_eq_zero_iff.1 (by simpa using h.1)
      subst hx
      exact hq w _ (Own.nil _ _ _ _) (Keep.refl _ _)
    · cases e
  | some a =>
    simp only [stp, Nat.reduceAdd, Int.reduceLT, Int.reduceLE, Int.reduceEq, Int.reduceNe, ne_eq, bne_self_eq_false, beq_self_eq_true, stm]
    have k1 := (Keep.refl (fun _ => False) w).alloc (.cells #[] 36)
    have s1 : siz (w.alloc (.cells #[] 36)) = siz w + 1 := siz_alloc
    have o1 : Own (w.alloc (.cells #[] 36)) (siz w) 36 5 (.slice (some ⟨siz w, 0, none⟩) 0 0) 0 [] := Own.empty (Nat.le_refl _)
    have r1 := h.keep0 k1
    generalize w.alloc (.cells #[] 36) = w1 at k1 s1 o1 r1
    rcases Nat.eq_zero_or_pos n with rfl | hp
    · have hx : xs = [] := List.length_eq_zero_iff.1 (by simpa using h.1)
      subst hx
      rw [ap0_32 o1]
      exact hq _ _ o1 k1
    · obtain ⟨b, o, c', e, hc', hcel⟩ := r1.at hp
      injection e with e1 _ e2
      injection e1 with e1
      subst e1 e2
      refine ap_32 o1 r1.len hcel h1 (by omega) (by omega) fun v' w' ho hg hr => ?_
      rw [Nat.zero_add] at ho
      exact hq _ _ ho (k1.grown hg fun g hg' => .inr (by cases hg'; exact Nat.le_refl _))
theorem flat5_one {l : List I5} : ∀ u ∈ flat enc5 l, Go.Sh.one u = true := fun u hu => by
  obtain ⟨k, _, hk⟩ := List.mem_flatMap.1 (show u ∈ l.flatMap enc5 from hu)
  have hk : u ∈ [Value.int .i64 k.1, .int .i64 k.2.1, .int .i64 k.2.2.1, .int .i64 k.2.2.2.1, .int .i64 k.2.2.2.2] := hk
  simp only [List.mem_cons, List.not_mem_nil, or_false] at hk
  rcases hk with rfl | rfl | rfl | rfl | rfl <;> exact one_int
theorem twaits_c (h : TL w B t s) (hl : s.ws.length ≤ 1000000) (hq : ∀ w' v', Own w' (siz w) 36 5 v' s.ws.length (flat enc5 s.ws) → K0 w w' → Q v' w') :
    callS Try.prog 13 #[.pointer (some ⟨t, 0, none⟩)] Q w := by
  refine ref13 ?_
  unfold S13
  obtain ⟨ms, wv, h⟩ := h
  have c18 := h.c18
  have o := h.wr
  obtain ⟨pa, ca, rfl⟩ := o.form
  simp only [stp, Nat.reduceAdd, Int.reduceLT, Int.reduceLE, Int.reduceEq, Int.reduceNe, ne_eq, bne_self_eq_false, beq_self_eq_true, stm, c18]
  exact wclone_c o.rd flat5_one hl hq
def keepsF (asked held : Int) : Int := if asked = 1 ∧ held = 2 then 1 else 0
theorem keeps_c {a b : Int} (hq : Q (.int .i64 (keepsF a b)) w) : callS Try.prog 54 #[.int .i64 a, .int .i64 b] Q w := by
  refine ref54 ?_
  unfold S54
  unfold keepsF at hq
  by_cases h1 : a = 1
  · by_cases h2 : b = 2
    · rw [if_pos ⟨h1, h2⟩] at hq
      simp only [stp, Nat.reduceAdd, Int.reduceLT, Int.reduceLE, Int.reduceEq, Int.reduceNe, ne_eq, bne_self_eq_false, beq_self_eq_true, h1, h2]
      exact hq
    · rw [if_neg fun h => h2 h.2] at hq
      simp only [stp, Nat.reduceAdd, Int.reduceLT, Int.reduceLE, Int.reduceEq, Int.reduceNe, ne_eq, bne_self_eq_false, beq_self_eq_true, h1, h2]
      exact hq
  · rw [if_neg fun h => h1 h.1] at hq
    simp only [stp, Nat.reduceAdd, Int.reduceLT, Int.reduceLE, Int.reduceEq, Int.reduceNe, ne_eq, bne_self_eq_false, beq_self_eq_true, h1]
    exact hq
/-- What is told of a block: how much may be kept, where it was not told already. -/
def revV (told : Option Int) (kp : Int) : Option Int := match told with | some q => if q ≤ kp + 1 then none else some kp | none => some kp
def revB (held told : Int → Option Int) (sp : Sp) (md x : Int) : Option Int :=
  if hasB sp x then (match held x with | some v => if fitP v md then none else revV (told x) (keepsF md v) | none => none) else none
def tellG (kp : Int) (h : Option Int) (q : Int) : Option Int := if q ≤ kp + 1 then none else h
def revX (told : Int → Option Int) (md x : Int) (h : Option Int) (v : Int) : Option Int := if fitP v md then h else revV (told x) (keepsF md v)
theorem revB_over (held told : List (Pt Int)) (hc : Canon held) (sp : Sp) (md x : Int) : overX (revX (valB told) md) (fun _ => none) (valB (partsL sp held)) x = revB (valB held) (valB told) sp md x := by
  unfold overX revB
  rw [partsL_val _ _ hc.1]
  by_cases h : hasB sp x
  · rw [if_pos h, if_pos h]
    cases valB held x <;> rfl
  · rw [if_neg h, if_neg h]
theorem K0.ofNew {F : Nat → Prop} (k : Keep F w w') (h : ∀ b, F b → siz w ≤ b) : K0 w w' := k.mono fun b hb e => by have := h b e; omega
theorem revoked_c {i mt : Nat} {a b md : Int} {lt : List (Pt Int)} (h : TL w B t s) (hi : 1 ≤ i) (hi' : (i : Int) ≤ s.nodes) (ht : IM w mt lt) (hlt : Bd 4096 lt)
    (hq : ∀ w' v' lm, Canon lm → Bd 4096 lm → (∀ x, valB lm x = revB (bl s i) (valB lt) (a, b) md x) → Own w' (siz w) 31 3 v' (asLocks lm).length (flat enc3 (asLocks lm)) → K0 w w' → Q v' w') :
    callS Try.prog 39 #[.pointer (some ⟨t, 0, none⟩), .int .i64 (i : Int), .agg #[.int .i64 a, .int .i64 b, .int .i64 md], .pointer (some ⟨mt, 0, none⟩)] Q w := by
  refine ref39 ?_
  unfold S39
  obtain ⟨ms, wv, h⟩ := h
  have hlti : i < 17 := by have := h.nn.2; omega
  simp only [stp, Nat.reduceAdd, Int.reduceLT, Int.reduceLE, Int.reduceEq, Int.reduceNe, ne_eq, bne_self_eq_false, beq_self_eq_true, stm, act_box, agg_cells]
  have b1 : blk (w.alloc (.cells #[.int .i64 a, .int .i64 b, .int .i64 md] 31)) (siz w) = some (.cells #[.int .i64 a, .int .i64 b, .int .i64 md] 31) := blk_alloc_new
  have k1 : K0 w (w.alloc (.cells #[.int .i64 a, .int .i64 b, .int .i64 md] 31)) := (K0.refl w).alloc _
  have s1 : siz w < siz (w.alloc (.cells #[.int .i64 a, .int .i64 b, .int .i64 md] 31)) := blk_lt b1
  generalize w.alloc (.cells #[.int .i64 a, .int .i64 b, .int .i64 md] 31) = w1 at b1 k1 s1
  refine new_c fun w2 m2 k2 => ?_
  have s2 := m2.lt
  have b2 := k2.blk b1 (by exact fun h => h)
  have h2 := (h.keep0 k1).keep0 k2
  obtain ⟨m, l, e1, e2, e3, hm, hd⟩ := h2.node hlti
  have hl := canon_len (n := 4096) hm.canon hd
  have hlm := canon_len (n := 4096) ht.canon hlt
  have hbl : bl s i = valB l := by unfold bl; rw [e2]; rfl
  have x0 : cel w2 (siz w) 0 = some (.int .i64 a) := by rw [cel_b b2]; rfl
  have x1 : cel w2 (siz w) 1 = some (.int .i64 b) := by rw [cel_b b2]; rfl
  rw [ixa hlti]
  simp only [stp, Nat.reduceAdd, Int.reduceLT, Int.reduceLE, Int.reduceEq, Int.reduceNe, ne_eq, bne_self_eq_false, beq_self_eq_true, stm, e3, x0, x1]
  refine parts_c (a := a) (b := b) (w := w2.drew) (hm.keep0 (K0.refl w2).drew) (by omega) fun w3 v3 o3 k3 => ?_
  have k3 : K0 w2 w3 := ((K0.refl w2).drew).trans k3
  have hPl := partsL_len (a, b) l
  have hPc := partsL_canon (s := (a, b)) hm.canon
  have hPd : ∀ p ∈ partsL (a, b) l, p.1.2 ≤ 4096 := fun p hp => by
    obtain ⟨q, hq, _, rfl⟩ := partsL_mem hp
    have := hd q hq
    show min q.1.2 b ≤ 4096
    omega
  have hend : ∀ lm : List (Pt Int), (∀ x, valB lm x = overX (revX (valB lt) md) (fun _ => none) (valB ((partsL (a, b) l).take (partsL (a, b) l).length)) x) → ∀ x, valB lm x = revB (bl s i) (valB lt) (a, b) md x := fun lm h x => by
    rw [h, List.take_length, revB_over l lt hm.canon, hbl]
  generalize partsL (a, b) l = P at *
  obtain ⟨p3, c3, rfl⟩ := o3.form
  have kk3 := (k1.trans k2).trans k3
  have m3 := m2.keep0 k3
  have b3 := k3.blk b2 (by exact fun h => h)
  have t3 := ht.keep0 kk3
  have htlt := ht.lt
  simp only [stp, Nat.reduceAdd, Int.reduceLT, Int.reduceLE, Int.reduceEq, Int.reduceNe, ne_eq, bne_self_eq_false, beq_self_eq_true]
  refine lpc1 P.length (by omega) (fun j w' => ∃ lm, IM w' (siz w1) lm ∧ Bd 4096 lm ∧ (∀ x, valB lm x = overX (revX (valB lt) md) (fun _ => none) (valB (P.take j)) x) ∧ Keep (fun b => b = siz w1) w3 w') ⟨[], m3, fun p hp => (by cases hp), fun x => rfl, Keep.refl _ _⟩ ?_ ?_
  · rintro j w4 hj ⟨lm, m4, hd4, hv4, k4⟩ J hJ _j
    have hj' : (j : Int) < (P.length : Int) := by omega
    have hlm4 := canon_len (n := 4096) m4.canon hd4
    obtain ⟨g, rfl, r0, r1, r2⟩ := part_at (m3.list (o3.keep (K0.refl _) fun _ _ e => e) (by decide) k4) hj
    have b4 := k4.blk b3 (by show ¬ siz w = siz w1; omega)
    simp only [stp, Nat.reduceAdd, Int.reduceLT, Int.reduceLE, Int.reduceEq, Int.reduceNe, ne_eq, bne_self_eq_false, beq_self_eq_true, hj']
    refine jn0 (fun w' => ∃ lm, IM w' (siz w1) lm ∧ Bd 4096 lm ∧ (∀ x, valB lm x = overX (revX (valB lt) md) (fun _ => none) (valB (P.take (j + 1))) x) ∧ Keep (fun b => b = siz w1) w3 w') (fun J1 hJ1 => ?_) ?_
    · rw [ix_65 hj, Nat.zero_add]
      simp only [stp, Nat.reduceAdd, Int.reduceLT, Int.reduceLE, Int.reduceEq, Int.reduceNe, ne_eq, bne_self_eq_false, beq_self_eq_true, stm, r0, r1, r2]
      have hP0 := hPc.1 _ (List.getElem_mem hj)
      have hP1 := hPd _ (List.getElem_mem hj)
      have hT := fun x => overX_take (F := revX (valB lt) md) (H := fun _ => none) hPc.apart hj x
      generalize P[j] = p at *
      have b5 : blk (w4.alloc (.cells #[.int .i64 p.1.1, .int .i64 p.1.2, .int .i64 p.2] 68)) (siz w4) = some (.cells #[.int .i64 p.1.1, .int .i64 p.1.2, .int .i64 p.2] 68) := blk_alloc_new
      have k5 : K0 w4 (w4.alloc (.cells #[.int .i64 p.1.1, .int .i64 p.1.2, .int .i64 p.2] 68)) := (K0.refl w4).alloc _
      have s4 := m4.lt
      generalize w4.alloc (.cells #[.int .i64 p.1.1, .int .i64 p.1.2, .int .i64 p.2] 68) = w5 at b5 k5
      have b45 := k5.blk b4 (by exact fun h => h)
      have d0 : cel w5 (siz w4) 0 = some (.int .i64 p.1.1) := by rw [cel_b b5]; rfl
      have d1 : cel w5 (siz w4) 1 = some (.int .i64 p.1.2) := by rw [cel_b b5]; rfl
      have d2 : cel w5 (siz w4) 2 = some (.int .i64 p.2) := by rw [cel_b b5]; rfl
      have y2 : cel w5 (siz w) 2 = some (.int .i64 md) := by rw [cel_b b45]; rfl
      simp only [stp, Nat.reduceAdd, Int.reduceLT, Int.reduceLE, Int.reduceEq, Int.reduceNe, ne_eq, bne_self_eq_false, beq_self_eq_true, stm, d2, y2]
      refine mfit_c ?_
      by_cases hf : fitP p.2 md
      · rw [decide_eq_true (show isMd p.2 ∧ isMd md ∧ (p.2 = 0 ∨ md = 0 ∨ (p.2 = 1 ∧ md = 1)) from hf)]
        simp only [stp, Nat.reduceAdd, Int.reduceLT, Int.reduceLE, Int.reduceEq, Int.reduceNe, ne_eq, bne_self_eq_false, beq_self_eq_true]
        refine hJ1 _ ⟨lm, m4.keep0 k5, hd4, fun x => ?_, k4.trans k5.none⟩
        rw [hT, ← hv4]
        by_cases hx : hasB p.1 x
        · rw [if_pos hx]; unfold revX; rw [if_pos hf]
        · rw [if_neg hx]
      rw [decide_eq_false (show ¬ (isMd p.2 ∧ isMd md ∧ (p.2 = 0 ∨ md = 0 ∨ (p.2 = 1 ∧ md = 1))) from hf)]
      simp only [stp, Nat.reduceAdd, Int.reduceLT, Int.reduceLE, Int.reduceEq, Int.reduceNe, ne_eq, bne_self_eq_false, beq_self_eq_true, stm, d2, y2]
      refine keeps_c ?_
      simp only [stp, Nat.reduceAdd, Int.reduceLT, Int.reduceLE, Int.reduceEq, Int.reduceNe, ne_eq, bne_self_eq_false, beq_self_eq_true, stm, d0, d1]
      generalize hkp : keepsF md p.2 = kp
      have hkr : kp = 0 ∨ kp = 1 := by rw [← hkp]; unfold keepsF; split <;> omega
      refine set_any (v := kp) (m4.keep0 k5) (by omega) fun w6 l6 r6 m6 hv6 hl6 k6 => ?_
      have hd6 : Bd 4096 l6 := bd_of_val m6.canon fun x hx => by
        rw [hv6]; split
        · rename_i hxx
          have h1 := hxx.2.2
          dsimp only at h1
          omega
        · exact val_of_bd hd4 hx
      have k46 := (k4.trans k5.none).trans k6
      have b6 := k6.blk b5 (by show ¬ siz w4 = siz w1; omega)
      have d0 : cel w6 (siz w4) 0 = some (.int .i64 p.1.1) := by rw [cel_b b6]; rfl
      have d1 : cel w6 (siz w4) 1 = some (.int .i64 p.1.2) := by rw [cel_b b6]; rfl
      have t6 : IM w6 mt lt := t3.keepM m3 (by omega) k46
      simp only [stp, Nat.reduceAdd, Int.reduceLT, Int.reduceLE, Int.reduceEq, Int.reduceNe, ne_eq, bne_self_eq_false, beq_self_eq_true, stm, d0, d1]
      refine parts_c (a := p.1.1) (b := p.1.2) t6 (by omega) fun w7 v7 o7 k7 => ?_
      have hQl := partsL_len p.1 lt
      have hQc := partsL_canon (s := p.1) ht.canon
      have hQv := partsL_val p.1 lt ht.canon.1
      change Own w7 (siz w6) 68 3 v7 (partsL p.1 lt).length (flat enc (partsL p.1 lt)) at o7
      generalize hQ : partsL p.1 lt = R at *
      obtain ⟨p7, c7, rfl⟩ := o7.form
      have m7 := m6.keep0 k7
      have s7 := k7.size
      have s46 := k6.size
      have s45 := k5.size
      simp only [stp, Nat.reduceAdd, Int.reduceLT, Int.reduceLE, Int.reduceEq, Int.reduceNe, ne_eq, bne_self_eq_false, beq_self_eq_true]
      refine lpc1 R.length (by omega) (fun n w' => ∃ l', IM w' (siz w1) l' ∧ Bd 4096 l' ∧ (∀ x, valB l' x = overB (tellG kp) (valB l6) (valB (R.take n)) x) ∧ Keep (fun b => b = siz w1) w7 w') ⟨l6, m7, hd6, fun x => rfl, Keep.refl _ _⟩ ?_ ?_
      · rintro n w8 hn ⟨l8, m8, hd8, hv8, k8⟩ J2 hJ2 _j
        have hn' : (n : Int) < (R.length : Int) := by omega
        have hl8 := canon_len (n := 4096) m8.canon hd8
        obtain ⟨g', rfl, u0, u1, u2⟩ := part_at (m7.list o7 (by decide) k8) hn
        have hT8 := fun x => over_take (F := tellG kp) (H := valB l6) hQc.apart hn x
        simp only [stp, Nat.reduceAdd, Int.reduceLT, Int.reduceLE, Int.reduceEq, Int.reduceNe, ne_eq, bne_self_eq_false, beq_self_eq_true, hn']
        refine jn0 (fun w' => ∃ l', IM w' (siz w1) l' ∧ Bd 4096 l' ∧ (∀ x, valB l' x = overB (tellG kp) (valB l6) (valB (R.take (n + 1))) x) ∧ Keep (fun b => b = siz w1) w7 w') (fun J3 hJ3 => ?_) ?_
        · rw [ix_65 hn, Nat.zero_add]
          simp only [stp, Nat.reduceAdd, Int.reduceLT, Int.reduceLE, Int.reduceEq, Int.reduceNe, ne_eq, bne_self_eq_false, beq_self_eq_true, stm, u0, u1, u2]
          generalize R[n] = q at *
          have b9 : blk (w8.alloc (.cells #[.int .i64 q.1.1, .int .i64 q.1.2, .int .i64 q.2] 68)) (siz w8) = some (.cells #[.int .i64 q.1.1, .int .i64 q.1.2, .int .i64 q.2] 68) := blk_alloc_new
          have k9 : K0 w8 (w8.alloc (.cells #[.int .i64 q.1.1, .int .i64 q.1.2, .int .i64 q.2] 68)) := (K0.refl w8).alloc _
          generalize w8.alloc (.cells #[.int .i64 q.1.1, .int .i64 q.1.2, .int .i64 q.2] 68) = w9 at b9 k9
          have f0 : cel w9 (siz w8) 0 = some (.int .i64 q.1.1) := by rw [cel_b b9]; rfl
          have f1 : cel w9 (siz w8) 1 = some (.int .i64 q.1.2) := by rw [cel_b b9]; rfl
          have f2 : cel w9 (siz w8) 2 = some (.int .i64 q.2) := by rw [cel_b b9]; rfl
          have hw : IntKind.i64.wrap (kp + 1) = kp + 1 := wrap_id (by omega) (by omega)
          by_cases hle : q.2 ≤ kp + 1
          · simp only [stp, Nat.reduceAdd, Int.reduceLT, Int.reduceLE, Int.reduceEq, Int.reduceNe, ne_eq, bne_self_eq_false, beq_self_eq_true, stm, f2, hw, hle, f0, f1]
            refine clear_any (m8.keep0 k9) (by omega) fun w10 l10 r10 m10 hv10 hl10 k10 => ?_
            refine hJ3 _ ⟨l10, m10, bd_of_val m10.canon fun x hx => ?_, fun x => ?_, (k8.trans k9.none).trans k10⟩
            · rw [hv10]; split
              · rfl
              · exact val_of_bd hd8 hx
            · rw [hT8, hv10, hv8]
              unfold tellG
              rw [if_pos hle]
          · simp only [stp, Nat.reduceAdd, Int.reduceLT, Int.reduceLE, Int.reduceEq, Int.reduceNe, ne_eq, bne_self_eq_false, beq_self_eq_true, stm, f2, hw, hle]
            refine hJ3 _ ⟨l8, m8.keep0 k9, hd8, fun x => ?_, k8.trans k9.none⟩
            rw [hT8, ← hv8]
            by_cases hx : hasB q.1 x
            · rw [if_pos hx]; unfold tellG; rw [if_neg hle]
            · rw [if_neg hx]
        · rintro w9 h9 _j
          exact hJ2 _ h9
      · rintro w8 ⟨l8, m8, hd8, hv8, k8⟩ J2 _j
        have hn : ¬ ((R.length : Int) < (R.length : Int)) := by omega
        simp only [stp, Nat.reduceAdd, Int.reduceLT, Int.reduceLE, Int.reduceEq, Int.reduceNe, ne_eq, bne_self_eq_false, beq_self_eq_true, hn]
        refine hJ1 _ ⟨l8, m8, hd8, fun x => ?_, (k46.trans k7.none).trans k8⟩
        rw [hT, hv8, List.take_length]
        unfold overB
        rw [hQv]
        have hv6' : valB l6 x = if hasB p.1 x then some kp else valB lm x := hv6 x
        by_cases hx : hasB p.1 x
        · rw [if_pos hx, if_pos hx]
          unfold revX revV
          rw [if_neg hf, hkp]
          cases hvt : valB lt x with
          | none =>
            show valB l6 x = _
            rw [hv6', if_pos hx]
          | some q =>
            show tellG kp (valB l6 x) q = _
            unfold tellG
            rw [hv6', if_pos hx]
        · rw [if_neg hx, if_neg hx]
          show valB l6 x = _
          rw [hv6', if_neg hx, hv4]
    · rintro w5 h5 _j
      exact hJ _ h5
  · rintro w4 ⟨lm, m4, hd4, hv4, k4⟩ J _j
    have hn : ¬ ((P.length : Int) < (P.length : Int)) := by omega
    have hlm4 := canon_len (n := 4096) m4.canon hd4
    have hcl := m4.canon
    simp only [stp, Nat.reduceAdd, Int.reduceLT, Int.reduceLE, Int.reduceEq, Int.reduceNe, ne_eq, bne_self_eq_false, beq_self_eq_true, hn]
    have k04 : K0 w w4 := K0.ofNew (F := fun b => b = siz w1) (kk3.none.trans k4) (fun b e => by omega)
    refine all_c m4 (by omega) fun w5 v5 o5 k5 => ?_
    have s5 := k5.size
    have s04 := k04.size
    obtain ⟨pa, ca, rfl⟩ := o5.form
    simp only [stp, Nat.reduceAdd, Int.reduceLT, Int.reduceLE, Int.reduceEq, Int.reduceNe, ne_eq, bne_self_eq_false, beq_self_eq_true]
    refine lpc2 lm.length (by omega) (fun i x w' => Own w' (siz w5) 31 3 x i (flat enc3 (asLocks (lm.take i))) ∧ K0 w5 w') ⟨Own.nil _ _ _ _, K0.refl _⟩ ?_ ?_
    · rintro n x w6 hn ⟨o6, k6⟩ J2 hJ2 _j
      have hn' : (n : Int) < (lm.length : Int) := by omega
      have hwi := wrap_succ (i := n) (by omega)
      obtain ⟨g', rfl, u0, u1, u2⟩ := part_at (o5.keep k6 fun _ _ e => e) hn
      simp only [stp, Nat.reduceAdd, Int.reduceLT, Int.reduceLE, Int.reduceEq, Int.reduceNe, ne_eq, bne_self_eq_false, beq_self_eq_true, hn']
      rw [ix_65 hn, Nat.zero_add]
      simp only [stp, Nat.reduceAdd, Int.reduceLT, Int.reduceLE, Int.reduceEq, Int.reduceNe, ne_eq, bne_self_eq_false, beq_self_eq_true, stm, u0, u1, u2]
      have k7 := (K0.refl w6).alloc (.cells #[.int .i64 lm[n].1.1, .int .i64 lm[n].1.2, .int .i64 lm[n].2] 68)
      have o7 := o6.keep k7 fun _ _ e => e
      have s7 := k7.size
      have s56 := k6.size
      refine pu_43 o7 (by intro u hu; simp only [List.mem_cons, List.not_mem_nil, or_false] at hu; rcases hu with rfl | rfl | rfl <;> exact one_int) (by omega) (by omega) fun v' w' ho hk hr => ?_
      refine hJ2 _ _ ⟨?_, (k6.trans k7).trans' hk fun b hb e => ?_⟩
      · have e9 : asLocks (lm.take (n + 1)) = asLocks (lm.take n) ++ [(lm[n].1.1, lm[n].1.2, lm[n].2)] := by
          rw [List.take_add_one, List.getElem?_eq_getElem hn, Option.toList_some]; unfold asLocks; rw [List.map_append]; rfl
        rw [e9, flat_append]
        exact ho
      · have := (o7.lt e).1; omega
    · rintro x w6 ⟨o6, k6⟩ J2 _j
      have hn : ¬ ((lm.length : Int) < (lm.length : Int)) := by omega
      rw [List.take_length] at o6
      simp only [stp, Nat.reduceAdd, Int.reduceLT, Int.reduceLE, Int.reduceEq, Int.reduceNe, ne_eq, bne_self_eq_false, beq_self_eq_true, hn]
      exact hq _ _ lm hcl hd4 (hend lm hv4) (by rw [asLocks_len]; exact o6.le (by omega)) ((k04.trans k5).trans k6)
end
end Go.Proofs.Ytiomanikpboclaa
