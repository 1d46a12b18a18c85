/- The table of locks: of a zero table. Conditions: as each says. -/
import Derived.Test.YtiomanikpboclaaTableE
set_option linter.unusedSimpArgs false
set_option linter.unusedVariables false
namespace Go.Proofs.Ytiomanikpboclaa
open Go.Sh Go.Proofs.Ytiomanikpboclaa.Mi
set_option maxRecDepth 100000
section
variable {w w' : World} {Q : Value → World → Prop} {B t : Nat} {s : TS}
/-- A zero table. -/
def TZ (w : World) (t : Nat) : Prop := blk w t = some (.cells (tcells 0 (List.replicate 17 (.pointer none)) (.slice none 0 0) 0) 49)
theorem TZ.keep0 (h : TZ w t) (k : K0 w w') : TZ w' t := k.blk h id
theorem TZ.c0 (h : TZ w t) : cel w t 0 = some (.int .i64 0) := by rw [cel_b h]; rfl
theorem task_zero {node : Int} {v : Value} (h : TZ w t) (hv : ∃ a b md : Int, v = .agg #[.int .i64 a, .int .i64 b, .int .i64 md]) (hq : ∀ w', K0 w w' → Q (.tuple #[.int .i64 0, .bool false, .int .i64 1]) w') : callS Try.prog 10 #[.pointer (some ⟨t, 0, none⟩), .int .i64 node, v] Q w := by
  refine ref10 ?_
  unfold S10
  obtain ⟨a, b, md, rfl⟩ := hv
  simp only [act_box, agg_cells]
  have k1 : K0 w (w.alloc (.cells #[.int .i64 a, .int .i64 b, .int .i64 md] 31)) := (K0.refl w).alloc _
  refine is_c (h.keep0 k1).c0 ?_
  rw [decide_eq_false (by omega)]
  simp only [stp, Nat.reduceAdd, Int.reduceLT, Int.reduceLE, Int.reduceEq, Int.reduceNe, ne_eq, bne_self_eq_false, beq_self_eq_true]
  exact hq _ k1
theorem tsound_zero (h : TZ w t) (hq : ∀ w', K0 w w' → Q (.bool true) w') : callS Try.prog 19 #[.pointer (some ⟨t, 0, none⟩)] Q w := by
  refine ref19 ?_
  unfold S19
  have c0 := h.c0
  simp only [stp, Nat.reduceAdd, Int.reduceLT, Int.reduceLE, Int.reduceEq, Int.reduceNe, ne_eq, bne_self_eq_false, beq_self_eq_true, stm]
  refine lp1 (fun m x w' => x = .int .i64 1 ∧ w' = w) 0 ⟨rfl, rfl⟩ ?_
  rintro m x w1 ⟨rfl, rfl⟩ J hJ _j
  have hn : ¬ (1 : Int) ≤ 0 := by omega
  simp only [stp, Nat.reduceAdd, Int.reduceLT, Int.reduceLE, Int.reduceEq, Int.reduceNe, ne_eq, bne_self_eq_false, beq_self_eq_true, stm, c0, hn]
  exact hq _ (K0.refl _)
end
end Go.Proofs.Ytiomanikpboclaa
