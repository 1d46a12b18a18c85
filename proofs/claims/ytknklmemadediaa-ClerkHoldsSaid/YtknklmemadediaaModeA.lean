/- Modes of locks: what the functions of package mode compute. Conditions: as each says. -/
import Derived.Test.YtknklmemadediaaImapCi
import Derived.Test.YtknklmemadediaaModeX
set_option linter.unusedSimpArgs false
set_option linter.unusedVariables false
namespace Go.Proofs.Ytknklmemadediaa
open Go.Sh
set_option maxRecDepth 100000
section
variable {w : World} {Q : Value → World → Prop} {a b : Int}
def isMd (a : Int) : Prop := 0 ≤ a ∧ a ≤ 2
instance (a : Int) : Decidable (isMd a) := by unfold isMd; infer_instance
theorem mvalid_c (hq : Q (.bool (decide (isMd a))) w) : callS Try.prog 62 #[.int .i64 a] Q w := by
  refine ref62 ?_
  unfold S62
  by_cases h0 : 0 ≤ a
  · simp only [stp, Nat.reduceAdd, Int.reduceLT, Int.reduceLE, Int.reduceEq, Int.reduceNe, ne_eq, bne_self_eq_false, beq_self_eq_true, stm, h0]
    simpa only [isMd, h0, true_and] using hq
  · simp only [stp, Nat.reduceAdd, Int.reduceLT, Int.reduceLE, Int.reduceEq, Int.reduceNe, ne_eq, bne_self_eq_false, beq_self_eq_true, stm, h0]
    simpa only [isMd, h0, false_and, decide_false] using hq
theorem mcovers_c (hq : Q (.bool (decide (isMd a ∧ isMd b ∧ b ≤ a))) w) : callS Try.prog 64 #[.int .i64 a, .int .i64 b] Q w := by
  refine ref64 ?_
  unfold S64
  refine mvalid_c ?_
  by_cases h0 : isMd a
  · simp only [stp, Nat.reduceAdd, Int.reduceLT, Int.reduceLE, Int.reduceEq, Int.reduceNe, ne_eq, bne_self_eq_false, beq_self_eq_true, stm, h0]
    refine mvalid_c ?_
    by_cases h1 : isMd b
    · simp only [stp, Nat.reduceAdd, Int.reduceLT, Int.reduceLE, Int.reduceEq, Int.reduceNe, ne_eq, bne_self_eq_false, beq_self_eq_true, stm, h1]
      simpa only [h0, h1, true_and] using hq
    · simp only [stp, Nat.reduceAdd, Int.reduceLT, Int.reduceLE, Int.reduceEq, Int.reduceNe, ne_eq, bne_self_eq_false, beq_self_eq_true, stm, h1]
      simpa only [h0, h1, false_and, true_and, decide_false] using hq
  · simp only [stp, Nat.reduceAdd, Int.reduceLT, Int.reduceLE, Int.reduceEq, Int.reduceNe, ne_eq, bne_self_eq_false, beq_self_eq_true, stm, h0]
    simpa only [h0, false_and, decide_false] using hq
theorem mjoin_c (hq : Q (.int .i64 (max a b)) w) : callS Try.prog 63 #[.int .i64 a, .int .i64 b] Q w := by
  refine ref63 ?_
  unfold S63
  simp only [stp, Nat.reduceAdd, Int.reduceLT, Int.reduceLE, Int.reduceEq, Int.reduceNe, ne_eq, bne_self_eq_false, beq_self_eq_true, stm]
  exact hq
end
end Go.Proofs.Ytknklmemadediaa
