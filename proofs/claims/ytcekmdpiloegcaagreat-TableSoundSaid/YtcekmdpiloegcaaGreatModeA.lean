/- Modes of locks: what the functions of package mode compute. Conditions: as each says. -/
import Derived.Test.YtcekmdpiloegcaaGreatImapCi
import Derived.Test.YtcekmdpiloegcaaGreatModeX
set_option linter.unusedSimpArgs false
set_option linter.unusedVariables false
namespace Go.Proofs.YtcekmdpiloegcaaGreat
open Go.Sh
set_option maxRecDepth 100000
section
variable {w : World} {Q : Value → World → Prop} {a b : Int}
def isMd (a : Int) : Prop := 0 ≤ a ∧ a ≤ 2
instance (a : Int) : Decidable (isMd a) := by unfold isMd; infer_instance
theorem mvalid_c (hq : Q (.bool (decide (isMd a))) w) : callS Tryz.prog 60 #[.int .i64 a] Q w := by
  refine ref60 ?_
  unfold S60
  by_cases h0 : 0 ≤ a
  · simp only [stp, Nat.reduceAdd, Int.reduceLT, Int.reduceLE, Int.reduceEq, Int.reduceNe, ne_eq, bne_self_eq_false, beq_self_eq_true, stm, h0]
    simpa only [isMd, h0, true_and] using hq
  · simp only [stp, Nat.reduceAdd, Int.reduceLT, Int.reduceLE, Int.reduceEq, Int.reduceNe, ne_eq, bne_self_eq_false, beq_self_eq_true, stm, h0]
    simpa only [isMd, h0, false_and, decide_false] using hq
theorem mcovers_c (hq : Q (.bool (decide (isMd a ∧ isMd b ∧ b ≤ a))) w) : callS Tryz.prog 54 #[.int .i64 a, .int .i64 b] Q w := by
  refine ref54 ?_
  unfold S54
  refine mvalid_c ?_
  by_cases h0 : isMd a
  · simp only [stp, Nat.reduceAdd, Int.reduceLT, Int.reduceLE, Int.reduceEq, Int.reduceNe, ne_eq, bne_self_eq_false, beq_self_eq_true, stm, h0]
    refine mvalid_c ?_
    by_cases h1 : isMd b
    · simp only [stp, Nat.reduceAdd, Int.reduceLT, Int.reduceLE, Int.reduceEq, Int.reduceNe, ne_eq, bne_self_eq_false, beq_self_eq_true, stm, h1]
      simpa only [h0, h1, true_and] using hq
    · simp only [stp, Nat.reduceAdd, Int.reduceLT, Int.reduceLE, Int.reduceEq, Int.reduceNe, ne_eq, bne_self_eq_false, beq_self_eq_true, stm, h1]
      simpa only [h0, h1, false_and, true_and, decide_false] using hq
  · simp only [stp, Nat.reduceAdd, Int.reduceLT, Int.reduceLE, Int.reduceEq, Int.reduceNe, ne_eq, bne_self_eq_false, beq_self_eq_true, stm, h0]
    simpa only [h0, false_and, decide_false] using hq
theorem mfit_c (hq : Q (.bool (decide (isMd a ∧ isMd b ∧ (a = 0 ∨ b = 0 ∨ (a = 1 ∧ b = 1))))) w) : callS Tryz.prog 47 #[.int .i64 a, .int .i64 b] Q w := by
  refine ref47 ?_
  unfold S47
  refine mvalid_c ?_
  by_cases h0 : isMd a
  · simp only [stp, Nat.reduceAdd, Int.reduceLT, Int.reduceLE, Int.reduceEq, Int.reduceNe, ne_eq, bne_self_eq_false, beq_self_eq_true, stm, h0]
    refine mvalid_c ?_
    by_cases h1 : isMd b
    · by_cases h2 : a = 0
      · simp only [stp, Nat.reduceAdd, Int.reduceLT, Int.reduceLE, Int.reduceEq, Int.reduceNe, ne_eq, bne_self_eq_false, beq_self_eq_true, stm, h1, h2]
        rw [show decide (isMd a ∧ isMd b ∧ (a = 0 ∨ b = 0 ∨ (a = 1 ∧ b = 1))) = true from decide_eq_true ⟨h0, h1, .inl h2⟩] at hq
        exact hq
      · by_cases h3 : b = 0
        · simp only [stp, Nat.reduceAdd, Int.reduceLT, Int.reduceLE, Int.reduceEq, Int.reduceNe, ne_eq, bne_self_eq_false, beq_self_eq_true, stm, h1, h2, h3]
          rw [show decide (isMd a ∧ isMd b ∧ (a = 0 ∨ b = 0 ∨ (a = 1 ∧ b = 1))) = true from decide_eq_true ⟨h0, h1, .inr (.inl h3)⟩] at hq
          exact hq
        · by_cases h4 : a = 1
          · by_cases h5 : b = 1
            · simp only [stp, Nat.reduceAdd, Int.reduceLT, Int.reduceLE, Int.reduceEq, Int.reduceNe, ne_eq, bne_self_eq_false, beq_self_eq_true, stm, h1, h2, h3, h4, h5]
              rw [show decide (isMd a ∧ isMd b ∧ (a = 0 ∨ b = 0 ∨ (a = 1 ∧ b = 1))) = true from decide_eq_true ⟨h0, h1, .inr (.inr ⟨h4, h5⟩)⟩] at hq
              exact hq
            · simp only [stp, Nat.reduceAdd, Int.reduceLT, Int.reduceLE, Int.reduceEq, Int.reduceNe, ne_eq, bne_self_eq_false, beq_self_eq_true, stm, h1, h2, h3, h4, h5]
              have e : decide (isMd a ∧ isMd b ∧ (a = 0 ∨ b = 0 ∨ (a = 1 ∧ b = 1))) = false := decide_eq_false (by omega)
              rw [e] at hq; exact hq
          · simp only [stp, Nat.reduceAdd, Int.reduceLT, Int.reduceLE, Int.reduceEq, Int.reduceNe, ne_eq, bne_self_eq_false, beq_self_eq_true, stm, h1, h2, h3, h4]
            have e : decide (isMd a ∧ isMd b ∧ (a = 0 ∨ b = 0 ∨ (a = 1 ∧ b = 1))) = false := decide_eq_false (by omega)
            rw [e] at hq; exact hq
    · simp only [stp, Nat.reduceAdd, Int.reduceLT, Int.reduceLE, Int.reduceEq, Int.reduceNe, ne_eq, bne_self_eq_false, beq_self_eq_true, stm, h1]
      simpa only [h0, h1, false_and, true_and, decide_false] using hq
  · simp only [stp, Nat.reduceAdd, Int.reduceLT, Int.reduceLE, Int.reduceEq, Int.reduceNe, ne_eq, bne_self_eq_false, beq_self_eq_true, stm, h0]
    simpa only [h0, false_and, decide_false] using hq
theorem mjoin_c (hq : Q (.int .i64 (max a b)) w) : callS Tryz.prog 39 #[.int .i64 a, .int .i64 b] Q w := by
  refine ref39 ?_
  unfold S39
  simp only [stp, Nat.reduceAdd, Int.reduceLT, Int.reduceLE, Int.reduceEq, Int.reduceNe, ne_eq, bne_self_eq_false, beq_self_eq_true, stm]
  exact hq
end
end Go.Proofs.YtcekmdpiloegcaaGreat
