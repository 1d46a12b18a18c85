/- What ModeNone and ModeOrder compute: true. Conditions: none. -/
import Derived.Test.YtndjohbbaplekaaGreatVModeC
set_option linter.unusedSimpArgs false
set_option linter.unusedVariables false
namespace Go.Proofs.YtndjohbbaplekaaGreatV
open Go.Sh Go.Proofs.YtndjohbbaplekaaGreatV.Mi
set_option maxRecDepth 100000
section
variable {w : World} {Q : Value → World → Prop}
theorem keepT {w1 w2 : World} (k1 : Keep (fun b => siz w ≤ b) w w1) (k2 : Keep (fun b => siz w1 ≤ b) w1 w2) : Keep (fun b => siz w ≤ b) w w2 := k1.trans' k2 fun b _ e => Nat.le_trans k1.size e
theorem rd_keep {w1 : World} {v : Value} {z n : Nat} {xs : List Value} (h : Rd z w v n xs) (k : Keep (fun b => siz w ≤ b) w w1) : Rd z w1 v n xs := h.keepB k fun _ _ e => e
theorem rmode_c {a : Int} (hq : Q (.bool (decide (isMd a))) w) : callS Tryz.prog 178 #[.int .i64 a] Q w := by
  refine ref178 ?_
  unfold S178
  by_cases h0 : 0 ≤ a
  · simp only [stp, Nat.reduceAdd, Int.reduceLT, Int.reduceLE, Int.reduceEq, Int.reduceNe, ne_eq, bne_self_eq_false, beq_self_eq_true, stm, h0]
    simpa only [isMd, h0, true_and] using hq
  · simp only [stp, Nat.reduceAdd, Int.reduceLT, Int.reduceLE, Int.reduceEq, Int.reduceNe, ne_eq, bne_self_eq_false, beq_self_eq_true, stm, h0]
    simpa only [isMd, h0, false_and, decide_false] using hq
end
end Go.Proofs.YtndjohbbaplekaaGreatV
