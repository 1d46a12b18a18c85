/- Ranges: what the small functions of package span compute; the order of ranges; the sort. Conditions: as each says. -/
import Derived.Test.YtcekmdpiloegcaaGreatT
import Derived.Test.YtcekmdpiloegcaaGreatShL
import Derived.Test.YtcekmdpiloegcaaGreatSpanX
import Derived.Test.YtcekmdpiloegcaaGreatSort
import Derived.Test.YtcekmdpiloegcaaGreatLay
set_option linter.unusedSimpArgs false
set_option linter.unusedVariables false
namespace Go.Proofs.YtcekmdpiloegcaaGreat
open Go.Sh
set_option maxRecDepth 100000
section
variable {w : World} {Q : Value → World → Prop} {a b c d x : Int}

theorem valid_c (hq : ∀ w', Grw w w' → Q (.bool (decide (ok (a, b)))) w') : callS Tryz.prog 22 #[.agg #[.int .i64 a, .int .i64 b]] Q w := by
  refine ref22 ?_
  unfold S22
  by_cases h0 : 0 ≤ a
  · simp only [stp, Nat.reduceAdd, Int.reduceLT, Int.reduceLE, Int.reduceEq, Int.reduceNe, ne_eq, bne_self_eq_false, beq_self_eq_true, stm, h0]
    have := hq _ ((Grw.refl w).alloc (.cells #[.int .i64 a, .int .i64 b] 27))
    simpa only [ok, h0, true_and] using this
  · simp only [stp, Nat.reduceAdd, Int.reduceLT, Int.reduceLE, Int.reduceEq, Int.reduceNe, ne_eq, bne_self_eq_false, beq_self_eq_true, stm, h0]
    have := hq _ ((Grw.refl w).alloc (.cells #[.int .i64 a, .int .i64 b] 27))
    simpa only [ok, h0, false_and, decide_false] using this

theorem has_c (hq : ∀ w', Grw w w' → Q (.bool (decide (hasB (a, b) x))) w') : callS Tryz.prog 62 #[.agg #[.int .i64 a, .int .i64 b], .int .i64 x] Q w := by
  refine ref62 ?_
  unfold S62
  simp only [stp, Nat.reduceAdd, Int.reduceLT, Int.reduceLE, Int.reduceEq, Int.reduceNe, ne_eq, bne_self_eq_false, beq_self_eq_true, stm]
  refine valid_c fun w2 g2 => ?_
  have g1 := ((Grw.refl w).alloc (.cells #[.int .i64 a, .int .i64 b] 27))
  have c0 : cel w2 (siz w) 0 = some (.int .i64 a) := g2.1.cel cel_alloc_new id
  have c1 : cel w2 (siz w) 1 = some (.int .i64 b) := g2.1.cel cel_alloc_new id
  have := hq w2 (g1.trans g2)
  by_cases h0 : ok (a, b)
  · by_cases h1 : a ≤ x
    · simp only [stp, Nat.reduceAdd, Int.reduceLT, Int.reduceLE, Int.reduceEq, Int.reduceNe, ne_eq, bne_self_eq_false, beq_self_eq_true, stm, h0, h1, c0, c1]
      simpa only [hasB, h0, h1, true_and] using this
    · simp only [stp, Nat.reduceAdd, Int.reduceLT, Int.reduceLE, Int.reduceEq, Int.reduceNe, ne_eq, bne_self_eq_false, beq_self_eq_true, stm, h0, h1, c0, c1]
      simpa only [hasB, h0, h1, false_and, true_and, decide_false] using this
  · simp only [stp, Nat.reduceAdd, Int.reduceLT, Int.reduceLE, Int.reduceEq, Int.reduceNe, ne_eq, bne_self_eq_false, beq_self_eq_true, stm, h0]
    simpa only [hasB, h0, false_and, decide_false] using this


theorem meet_c (hq : ∀ w', Grw w w' → Q (.tuple (if ok (a, b) ∧ ok (c, d) ∧ ok (max a c, min b d) then #[.agg #[.int .i64 (max a c), .int .i64 (min b d)], .bool true] else #[.agg #[.int .i64 0, .int .i64 0], .bool false])) w') :
    callS Tryz.prog 40 #[.agg #[.int .i64 a, .int .i64 b], .agg #[.int .i64 c, .int .i64 d]] Q w := by
  refine ref40 ?_
  unfold S40
  simp only [stp, Nat.reduceAdd, Int.reduceLT, Int.reduceLE, Int.reduceEq, Int.reduceNe, ne_eq, bne_self_eq_false, beq_self_eq_true, stm]
  generalize hw1 : w.alloc (.cells #[.int .i64 a, .int .i64 b] 27) = w1
  generalize hw2 : w1.alloc (.cells #[.int .i64 c, .int .i64 d] 27) = w2
  generalize hw3 : w2.alloc (.cells #[.int .i64 0, .int .i64 0] 27) = w3
  have s1 : siz w1 = siz w + 1 := by rw [← hw1, siz_alloc]
  have s2 : siz w2 = siz w + 2 := by rw [← hw2, siz_alloc, s1]
  have s3 : siz w3 = siz w + 3 := by rw [← hw3, siz_alloc, s2]
  have g1 : Grw w w1 := hw1 ▸ (Grw.refl w).alloc _
  have g2 : Grw w w2 := hw2 ▸ g1.alloc _
  have g3 : Grw w w3 := hw3 ▸ g2.alloc _
  have a0 : cel w3 (siz w) 0 = some (.int .i64 a) := by rw [← hw3, cel_alloc_old (by omega), ← hw2, cel_alloc_old (by omega), ← hw1]; exact cel_alloc_new
  have a1 : cel w3 (siz w) 1 = some (.int .i64 b) := by rw [← hw3, cel_alloc_old (by omega), ← hw2, cel_alloc_old (by omega), ← hw1]; exact cel_alloc_new
  have b0 : cel w3 (siz w1) 0 = some (.int .i64 c) := by rw [← hw3, cel_alloc_old (by omega), ← hw2]; exact cel_alloc_new
  have b1 : cel w3 (siz w1) 1 = some (.int .i64 d) := by rw [← hw3, cel_alloc_old (by omega), ← hw2]; exact cel_alloc_new
  have d0 : cel w3 (siz w2) 0 = some (.int .i64 0) := by rw [← hw3]; exact cel_alloc_new
  have d1 : cel w3 (siz w2) 1 = some (.int .i64 0) := by rw [← hw3]; exact cel_alloc_new
  have df : fre w3 (siz w2) = true := by rw [← hw3]; exact fre_alloc_new
  try simp only [stp, Nat.reduceAdd, Int.reduceLT, Int.reduceLE, Int.reduceEq, Int.reduceNe, ne_eq, bne_self_eq_false, beq_self_eq_true, stm, a0, a1, b0, b1]
  generalize hw4 : w3.alloc (.cells #[.int .i64 (max a c), .int .i64 (min b d)] 27) = w4
  have s4 : siz w4 = siz w + 4 := by rw [← hw4, siz_alloc, s3]
  have g4 : Grw w3 w4 := hw4 ▸ (Grw.refl w3).alloc _
  have m0 : cel w4 (siz w3) 0 = some (.int .i64 (max a c)) := by rw [← hw4]; exact cel_alloc_new
  have m1 : cel w4 (siz w3) 1 = some (.int .i64 (min b d)) := by rw [← hw4]; exact cel_alloc_new
  try simp only [stp, Nat.reduceAdd, Int.reduceLT, Int.reduceLE, Int.reduceEq, Int.reduceNe, ne_eq, bne_self_eq_false, beq_self_eq_true, stm, g4.1.cel a0 id, g4.1.cel a1 id]
  -- the end, from whatever world behind w4
  have fin : ∀ {w5 : World}, Grw w4 w5 → ∀ {u v : Int}, Grw w (stoL w5 (siz w2) 0 [.int .i64 u, .int .i64 v]) := fun {w5} g5 {u v} =>
    ⟨Keep.stoL _ 0 ((g3.trans g4).trans g5).1 (.inr (by omega)), Nat.le_trans (g3.trans g4).2 g5.2⟩
  refine valid_c fun w5 g5 => ?_
  have c5 : ∀ {o : Nat} {v : Value}, cel w4 (siz w1) o = some v → cel w5 (siz w1) o = some v := fun h => g5.1.cel h id
  by_cases h1 : ok (a, b)
  · simp only [stp, Nat.reduceAdd, Int.reduceLT, Int.reduceLE, Int.reduceEq, Int.reduceNe, ne_eq, bne_self_eq_false, beq_self_eq_true, stm, h1, g5.1.cel (g4.1.cel b0 id) id, g5.1.cel (g4.1.cel b1 id) id]
    refine valid_c fun w6 g6 => ?_
    by_cases h2 : ok (c, d)
    · simp only [stp, Nat.reduceAdd, Int.reduceLT, Int.reduceLE, Int.reduceEq, Int.reduceNe, ne_eq, bne_self_eq_false, beq_self_eq_true, stm, h2, g6.1.cel (g5.1.cel m0 id) id, g6.1.cel (g5.1.cel m1 id) id]
      refine valid_c fun w7 g7 => ?_
      have gg := (g5.trans g6).trans g7
      have k7 := (g4.trans gg).1
      by_cases h3 : ok (max a c, min b d)
      · simp only [stp, Nat.reduceAdd, Int.reduceLT, Int.reduceLE, Int.reduceEq, Int.reduceNe, ne_eq, bne_self_eq_false, beq_self_eq_true, stm, h3, g7.1.cel (g6.1.cel (g5.1.cel m0 id) id) id, g7.1.cel (g6.1.cel (g5.1.cel m1 id) id) id]
        have e0 := k7.cel d0 id
        have e1 := k7.cel d1 id
        have ef := k7.fre df id
        rw [st_27 one_int one_int (by rw [e0]; rfl) (by rw [Nat.zero_add, e1]; rfl) ef]
        have hq' := hq _ (fin gg (u := max a c) (v := min b d))
        rw [if_pos ⟨h1, h2, h3⟩] at hq'
        have i0 : (cel w7 (siz w2) 0).isSome = true := by rw [e0]; rfl
        have z0 : cel (stoL w7 (siz w2) 0 [.int .i64 (max a c), .int .i64 (min b d)]) (siz w2) 0 = some (.int .i64 (max a c)) := by
          simp only [stoL_cons, stoL_nil]; rw [cel_sto_ne (by omega), cel_sto_same i0]
        have z1 : cel (stoL w7 (siz w2) 0 [.int .i64 (max a c), .int .i64 (min b d)]) (siz w2) 1 = some (.int .i64 (min b d)) := by
          simp only [stoL_cons, stoL_nil]; rw [cel_sto_same (by rw [cel_sto_ne (by omega), e1]; rfl)]
        simp only [stp, Nat.reduceAdd, Int.reduceLT, Int.reduceLE, Int.reduceEq, Int.reduceNe, ne_eq, bne_self_eq_false, beq_self_eq_true, stm, z0, z1]
        exact hq'
      · simp only [stp, Nat.reduceAdd, Int.reduceLT, Int.reduceLE, Int.reduceEq, Int.reduceNe, ne_eq, bne_self_eq_false, beq_self_eq_true, stm, h3]
        have e0 := k7.cel d0 id
        have e1 := k7.cel d1 id
        have ef := k7.fre df id
        rw [st_27 one_int one_int (by rw [e0]; rfl) (by rw [Nat.zero_add, e1]; rfl) ef]
        have hq' := hq _ (fin gg (u := 0) (v := 0))
        rw [if_neg (fun h => h3 h.2.2)] at hq'
        have i0 : (cel w7 (siz w2) 0).isSome = true := by rw [e0]; rfl
        have z0 : cel (stoL w7 (siz w2) 0 [.int .i64 0, .int .i64 0]) (siz w2) 0 = some (.int .i64 0) := by
          simp only [stoL_cons, stoL_nil]; rw [cel_sto_ne (by omega), cel_sto_same i0]
        have z1 : cel (stoL w7 (siz w2) 0 [.int .i64 0, .int .i64 0]) (siz w2) 1 = some (.int .i64 0) := by
          simp only [stoL_cons, stoL_nil]; rw [cel_sto_same (by rw [cel_sto_ne (by omega), e1]; rfl)]
        simp only [stp, Nat.reduceAdd, Int.reduceLT, Int.reduceLE, Int.reduceEq, Int.reduceNe, ne_eq, bne_self_eq_false, beq_self_eq_true, stm, z0, z1]
        exact hq'
    · simp only [stp, Nat.reduceAdd, Int.reduceLT, Int.reduceLE, Int.reduceEq, Int.reduceNe, ne_eq, bne_self_eq_false, beq_self_eq_true, stm, h2]
      have gg := g5.trans g6
      have k7 := (g4.trans gg).1
      have e0 := k7.cel d0 id
      have e1 := k7.cel d1 id
      have ef := k7.fre df id
      rw [st_27 one_int one_int (by rw [e0]; rfl) (by rw [Nat.zero_add, e1]; rfl) ef]
      have hq' := hq _ (fin gg (u := 0) (v := 0))
      rw [if_neg (fun h => h2 h.2.1)] at hq'
      have i0 : (cel w6 (siz w2) 0).isSome = true := by rw [e0]; rfl
      have z0 : cel (stoL w6 (siz w2) 0 [.int .i64 0, .int .i64 0]) (siz w2) 0 = some (.int .i64 0) := by
        simp only [stoL_cons, stoL_nil]; rw [cel_sto_ne (by omega), cel_sto_same i0]
      have z1 : cel (stoL w6 (siz w2) 0 [.int .i64 0, .int .i64 0]) (siz w2) 1 = some (.int .i64 0) := by
        simp only [stoL_cons, stoL_nil]; rw [cel_sto_same (by rw [cel_sto_ne (by omega), e1]; rfl)]
      simp only [stp, Nat.reduceAdd, Int.reduceLT, Int.reduceLE, Int.reduceEq, Int.reduceNe, ne_eq, bne_self_eq_false, beq_self_eq_true, stm, z0, z1]
      exact hq'
  · simp only [stp, Nat.reduceAdd, Int.reduceLT, Int.reduceLE, Int.reduceEq, Int.reduceNe, ne_eq, bne_self_eq_false, beq_self_eq_true, stm, h1]
    have k7 := (g4.trans g5).1
    have e0 := k7.cel d0 id
    have e1 := k7.cel d1 id
    have ef := k7.fre df id
    rw [st_27 one_int one_int (by rw [e0]; rfl) (by rw [Nat.zero_add, e1]; rfl) ef]
    have hq' := hq _ (fin g5 (u := 0) (v := 0))
    rw [if_neg (fun h => h1 h.1)] at hq'
    have i0 : (cel w5 (siz w2) 0).isSome = true := by rw [e0]; rfl
    have z0 : cel (stoL w5 (siz w2) 0 [.int .i64 0, .int .i64 0]) (siz w2) 0 = some (.int .i64 0) := by
      simp only [stoL_cons, stoL_nil]; rw [cel_sto_ne (by omega), cel_sto_same i0]
    have z1 : cel (stoL w5 (siz w2) 0 [.int .i64 0, .int .i64 0]) (siz w2) 1 = some (.int .i64 0) := by
      simp only [stoL_cons, stoL_nil]; rw [cel_sto_same (by rw [cel_sto_ne (by omega), e1]; rfl)]
    simp only [stp, Nat.reduceAdd, Int.reduceLT, Int.reduceLE, Int.reduceEq, Int.reduceNe, ne_eq, bne_self_eq_false, beq_self_eq_true, stm, z0, z1]
    exact hq'

theorem meets_c (hq : ∀ w', Grw w w' → Q (.bool (decide (ok (a, b) ∧ ok (c, d) ∧ ok (max a c, min b d)))) w') : callS Tryz.prog 67 #[.agg #[.int .i64 a, .int .i64 b], .agg #[.int .i64 c, .int .i64 d]] Q w := by
  refine ref67 ?_
  unfold S67
  simp only [stp, Nat.reduceAdd, Int.reduceLT, Int.reduceLE, Int.reduceEq, Int.reduceNe, ne_eq, bne_self_eq_false, beq_self_eq_true, stm]
  have g2 := (((Grw.refl w).alloc (.cells #[.int .i64 a, .int .i64 b] 27)).alloc (.cells #[.int .i64 c, .int .i64 d] 27))
  refine meet_c fun w3 g3 => ?_
  have hq' := hq _ ((g2.trans g3).alloc (.cells #[.int .i64 (if ok (a, b) ∧ ok (c, d) ∧ ok (max a c, min b d) then max a c else 0), .int .i64 (if ok (a, b) ∧ ok (c, d) ∧ ok (max a c, min b d) then min b d else 0)] 27))
  by_cases h : ok (a, b) ∧ ok (c, d) ∧ ok (max a c, min b d)
  · simp only [if_pos h, stp, Nat.reduceAdd, Int.reduceLT, Int.reduceLE, Int.reduceEq, Int.reduceNe, ne_eq, bne_self_eq_false, beq_self_eq_true, stm] at hq' ⊢
    simpa only [h, and_self, decide_true] using hq'
  · simp only [if_neg h, stp, Nat.reduceAdd, Int.reduceLT, Int.reduceLE, Int.reduceEq, Int.reduceNe, ne_eq, bne_self_eq_false, beq_self_eq_true, stm] at hq' ⊢
    simpa only [h, decide_false] using hq'

/-! ### the order of ranges -/
theorem nan_c (hq : Q (.bool false) w) : callS Tryz.prog 65 #[.int .i64 a] Q w := by
  refine ref65 ?_
  unfold S65
  simp only [stp, Nat.reduceAdd, Int.reduceLT, Int.reduceLE, Int.reduceEq, Int.reduceNe, ne_eq, bne_self_eq_false, beq_self_eq_true, stm]
  exact hq
theorem compare_c (hq : Q (.int .i64 (cmpI a b)) w) : callS Tryz.prog 58 #[.int .i64 a, .int .i64 b] Q w := by
  refine ref58 ?_
  unfold S58
  refine nan_c ?_
  refine nan_c ?_
  simp only [cmpI] at hq
  by_cases h1 : a < b
  · simp only [stp, Nat.reduceAdd, Int.reduceLT, Int.reduceLE, Int.reduceEq, Int.reduceNe, ne_eq, bne_self_eq_false, beq_self_eq_true, stm, h1]
    simpa only [h1, if_true] using hq
  · by_cases h2 : b < a
    · simp only [stp, Nat.reduceAdd, Int.reduceLT, Int.reduceLE, Int.reduceEq, Int.reduceNe, ne_eq, bne_self_eq_false, beq_self_eq_true, stm, h1, h2]
      simpa only [h1, h2, if_true, if_false] using hq
    · simp only [stp, Nat.reduceAdd, Int.reduceLT, Int.reduceLE, Int.reduceEq, Int.reduceNe, ne_eq, bne_self_eq_false, beq_self_eq_true, stm, h1, h2]
      simpa only [h1, h2, if_false] using hq
theorem or_c {v : Value} (h : Rd 1 w v 2 [.int .i64 a, .int .i64 b]) (hq : Q (.int .i64 (if a ≠ 0 then a else b)) w) : callS Tryz.prog 83 #[v] Q w := by
  refine ref83 ?_
  unfold S83
  obtain ⟨g, o, c, rfl, _, hc⟩ := h.at (by omega)
  have c0 : cel w g (o + 0) = some (.int .i64 a) := hc 0 (by omega)
  have c1 : cel w g (o + 1) = some (.int .i64 b) := hc 1 (by omega)
  simp only [stp, Nat.reduceAdd, Int.reduceLT, Int.reduceLE, Int.reduceEq, Int.reduceNe, ne_eq, bne_self_eq_false, beq_self_eq_true]
  refine lp1 (fun m x w' => w' = w ∧ ∃ i : Nat, x = .int .i64 (i : Int) ∧ i ≤ 2 ∧ m = 2 - i ∧ (1 ≤ i → a = 0) ∧ (2 ≤ i → b = 0)) 2 ⟨rfl, 0, rfl, by omega, rfl, by omega, by omega⟩ ?_
  rintro m x w' ⟨rfl, i, rfl, hi, rfl, h1, h2⟩ J hJ _
  by_cases hlt : i < 2
  · have hlt' : ((i : Int) < ((2 : Nat) : Int)) := by omega
    simp only [stp, Nat.reduceAdd, Int.reduceLT, Int.reduceLE, Int.reduceEq, Int.reduceNe, ne_eq, bne_self_eq_false, beq_self_eq_true, hlt']
    have : i = 0 ∨ i = 1 := by omega
    have hw : IntKind.i64.wrap ((i : Int) + 1) = ((i + 1 : Nat) : Int) := by rw [wrap_id (by omega) (by omega)]; omega
    rcases this with rfl | rfl
    · rw [ix_126 (i := 0) (by omega)]
      simp only [stp, Nat.reduceAdd, Int.reduceLT, Int.reduceLE, Int.reduceEq, Int.reduceNe, ne_eq, bne_self_eq_false, beq_self_eq_true, c0, Option.isSome_some, Option.getD_some]
      by_cases h0 : a = 0
      · simp only [stp, Nat.reduceAdd, Int.reduceLT, Int.reduceLE, Int.reduceEq, Int.reduceNe, ne_eq, bne_self_eq_false, beq_self_eq_true, h0, hw]
        exact hJ _ _ _ (by omega) ⟨rfl, 1, rfl, by omega, rfl, fun _ => h0, by omega⟩
      · simp only [stp, Nat.reduceAdd, Int.reduceLT, Int.reduceLE, Int.reduceEq, Int.reduceNe, ne_eq, bne_self_eq_false, beq_self_eq_true, h0]
        simpa only [h0, ne_eq, not_false_eq_true, if_true] using hq
    · rw [ix_126 (i := 1) (by omega)]
      simp only [stp, Nat.reduceAdd, Int.reduceLT, Int.reduceLE, Int.reduceEq, Int.reduceNe, ne_eq, bne_self_eq_false, beq_self_eq_true, c1, Option.isSome_some, Option.getD_some]
      have ha := h1 (by omega)
      by_cases h0 : b = 0
      · simp only [stp, Nat.reduceAdd, Int.reduceLT, Int.reduceLE, Int.reduceEq, Int.reduceNe, ne_eq, bne_self_eq_false, beq_self_eq_true, h0, hw]
        exact hJ _ _ _ (by omega) ⟨rfl, 2, rfl, by omega, rfl, fun _ => ha, fun _ => h0⟩
      · simp only [stp, Nat.reduceAdd, Int.reduceLT, Int.reduceLE, Int.reduceEq, Int.reduceNe, ne_eq, bne_self_eq_false, beq_self_eq_true, h0]
        simpa only [ha, ne_eq, not_true_eq_false, if_false] using hq
  · have hlt' : ¬ ((i : Int) < ((2 : Nat) : Int)) := by omega
    simp only [stp, Nat.reduceAdd, Int.reduceLT, Int.reduceLE, Int.reduceEq, Int.reduceNe, ne_eq, bne_self_eq_false, beq_self_eq_true, hlt']
    have ha := h1 (by omega)
    have hb := h2 (by omega)
    simpa only [ha, hb, ne_eq, not_true_eq_false, if_false] using hq

theorem norm2_c (hq : ∀ w', Grw w w' → Q (.int .i64 (cmpS (a, b) (c, d))) w') : callS Tryz.prog 82 #[.agg #[.int .i64 a, .int .i64 b], .agg #[.int .i64 c, .int .i64 d]] Q w := by
  refine ref82 ?_
  unfold S82
  simp only [stp, Nat.reduceAdd, Int.reduceLT, Int.reduceLE, Int.reduceEq, Int.reduceNe, ne_eq, bne_self_eq_false, beq_self_eq_true]
  generalize hw1 : w.alloc (.cells #[.int .i64 a, .int .i64 b] 27) = w1
  generalize hw2 : w1.alloc (.cells #[.int .i64 c, .int .i64 d] 27) = w2
  have s1 : siz w1 = siz w + 1 := by rw [← hw1, siz_alloc]
  have s2 : siz w2 = siz w + 2 := by rw [← hw2, siz_alloc, s1]
  have g1 : Grw w w1 := hw1 ▸ (Grw.refl w).alloc _
  have g2 : Grw w w2 := hw2 ▸ g1.alloc _
  have a0 : cel w2.drew (siz w) 0 = some (.int .i64 a) := by rw [cel_drew, ← hw2, cel_alloc_old (by omega), ← hw1]; exact cel_alloc_new
  have a1 : cel w2.drew (siz w) 1 = some (.int .i64 b) := by rw [cel_drew, ← hw2, cel_alloc_old (by omega), ← hw1]; exact cel_alloc_new
  have b0 : cel w2.drew (siz w1) 0 = some (.int .i64 c) := by rw [cel_drew, ← hw2]; exact cel_alloc_new
  have b1 : cel w2.drew (siz w1) 1 = some (.int .i64 d) := by rw [cel_drew, ← hw2]; exact cel_alloc_new
  refine ⟨fun w' => Grw w2.drew w', Grw.refl _, ?_⟩
  have ld : ∀ {g o : Nat} {v : Value} {k : Value → Prop}, cel w2.drew g o = some v → k v → hld Tryz.prog (fun w' => Grw w2.drew w') (Instr.loadAt 3 (.pointer (some ⟨g, o, none⟩))) k := fun h hk =>
    hld_of _ (fun w' hw' => rl_3 (hw'.1.cel h id)) hk
  refine ld a0 ?_
  try simp only [stp, Nat.reduceAdd, Int.reduceLT, Int.reduceLE, Int.reduceEq, Int.reduceNe, ne_eq, bne_self_eq_false, beq_self_eq_true]
  refine ld b0 ?_
  refine compare_c ⟨Grw.refl _, ?_⟩
  try simp only [stp, Nat.reduceAdd, Int.reduceLT, Int.reduceLE, Int.reduceEq, Int.reduceNe, ne_eq, bne_self_eq_false, beq_self_eq_true]
  refine ld a1 ?_
  try simp only [stp, Nat.reduceAdd, Int.reduceLT, Int.reduceLE, Int.reduceEq, Int.reduceNe, ne_eq, bne_self_eq_false, beq_self_eq_true]
  refine ld b1 ?_
  refine compare_c ⟨Grw.refl _, ?_⟩
  try simp only [stp, Nat.reduceAdd, Int.reduceLT, Int.reduceLE, Int.reduceEq, Int.reduceNe, ne_eq, bne_self_eq_false, beq_self_eq_true, stm]
  refine ⟨(Grw.refl _).alloc _, ?_⟩
  refine or_c (a := cmpI a c) (b := cmpI b d) ⟨rfl, .inr ⟨_, 0, 2, rfl, by omega, fun j hj => by rw [Nat.zero_add]; exact (cel_alloc_new (w := w2.drew)).trans (by simp)⟩⟩ ⟨(Grw.refl _).alloc _, ?_⟩
  exact hq _ ((g2.drew).trans ((Grw.refl _).alloc _))

theorem sort_c {base : Nat} {v : Value} {l : List Sp} (hown : Own w base 27 2 v l.length (flat encS l)) (hlen : l.length ≤ 1000000)
    (hq : ∀ l' w', l'.Perm l → l'.Pairwise (fun s t => s.1 ≤ t.1) → Own w' base 27 2 v l.length (flat encS l') → Keep (fun b => v.ownBlock = some b) w w' → Q (.tuple #[]) w') :
    callS Tryz.prog 81 #[v, .func (.func 82) #[] #[]] Q w := by
  have L := YtcekmdpiloegcaaGreat.sortA
  refine sortFunc_c (ρ := YtcekmdpiloegcaaGreat.sortA_ren) (k := 2) (enc := encS) (cf := cmpS) L (fun w => Tryz.isAgg27 w) (fun w => Tryz.sizeOf27 w) encS_len (fun x v hv => encS_one hv) swo_cmpS (g := 82) (fun a w => Tryz.call82 a w)
    (fun x y w => norm2_c (a := x.1) (b := x.2) (c := y.1) (d := y.2) fun w' g => ⟨rfl, g⟩) (fun a w => Tryz.call81 a w) hown (by omega) fun l' w' hp hs ho hk => hq l' w' hp (hs.imp fun {s t} h => cmpS_le h) ho hk
end
end Go.Proofs.YtcekmdpiloegcaaGreat
