/- Modes of locks: what the functions of package mode compute. Conditions: as each says. -/
import Derived.Test.YtndjohbbaplekaaGreatXImapCi
import Derived.Test.YtndjohbbaplekaaGreatXModeX
set_option linter.unusedSimpArgs false
set_option linter.unusedVariables false
namespace Go.Proofs.YtndjohbbaplekaaGreatX
open Go.Sh
set_option maxRecDepth 100000
section
variable {w : World} {Q : Value → World → Prop} {a b : Int}
def isMd (a : Int) : Prop := 0 ≤ a ∧ a ≤ 2
instance (a : Int) : Decidable (isMd a) := by unfold isMd; infer_instance
theorem mjoin_c (hq : Q (.int .i64 (max a b)) w) : callS Tryz.prog 251 #[.int .i64 a, .int .i64 b] Q w := by
  refine ref251 ?_
  unfold S251
  simp only [stp, Nat.reduceAdd, Int.reduceLT, Int.reduceLE, Int.reduceEq, Int.reduceNe, ne_eq, bne_self_eq_false, beq_self_eq_true, stm]
  exact hq
end
end Go.Proofs.YtndjohbbaplekaaGreatX
