/- What TableNone computes: true. Conditions: as each says. -/
import Derived.Test.YtiomanikpboclaaTableX
set_option linter.unusedSimpArgs false
set_option linter.unusedVariables false
namespace Go.Proofs.Ytiomanikpboclaa
open Go.Sh Go.Proofs.Ytiomanikpboclaa.Mi
set_option maxRecDepth 100000
section
variable {w w' : World} {Q : Value → World → Prop} {B t : Nat} {s : TS}
theorem twaits_zero (h : TZ w t) (hq : Q (.slice none 0 0) w) : callS Try.prog 13 #[.pointer (some ⟨t, 0, none⟩)] Q w := by
  refine ref13 ?_
  unfold S13
  have c18 : cel w t 18 = some (.slice none 0 0) := by rw [cel_b h]; rfl
  simp only [stp, Nat.reduceAdd, Int.reduceLT, Int.reduceLE, Int.reduceEq, Int.reduceNe, ne_eq, bne_self_eq_false, beq_self_eq_true, stm, c18]
  refine ref33 ?_
  unfold S33
  simp only [stp, Nat.reduceAdd, Int.reduceLT, Int.reduceLE, Int.reduceEq, Int.reduceNe, ne_eq, bne_self_eq_false, beq_self_eq_true, stm]
  exact hq
theorem none_law {n : Int} {l : I3} (_ : (Lit.int .i64 n).wf = true) (_ : good3 l) (hq : ∀ w', Keep (fun b => siz w ≤ b) w w' → Q (.bool true) w') :
    callS Try.prog 7 #[.int .i64 n, .agg (enc3 l).toArray] Q w := by
  obtain ⟨a, b, md⟩ := l
  refine ref7 ?_
  unfold S7
  show act _ (Instr.box _ (.agg #[.int .i64 a, .int .i64 b, .int .i64 md])) _ _
  simp only [act_box, agg_cells]
  have b1 : blk (w.alloc (.cells #[.int .i64 a, .int .i64 b, .int .i64 md] 31)) (siz w) = some (.cells #[.int .i64 a, .int .i64 b, .int .i64 md] 31) := blk_alloc_new
  have k1 : K0 w (w.alloc (.cells #[.int .i64 a, .int .i64 b, .int .i64 md] 31)) := (K0.refl w).alloc _
  generalize w.alloc (.cells #[.int .i64 a, .int .i64 b, .int .i64 md] 31) = w1 at b1 k1
  simp only [stp, Nat.reduceAdd, Int.reduceLT, Int.reduceLE, Int.reduceEq, Int.reduceNe, ne_eq, bne_self_eq_false, beq_self_eq_true]
  have b2 : TZ (w1.alloc (.cells #[.int .i64 0, .pointer none, .pointer none, .pointer none, .pointer none, .pointer none, .pointer none, .pointer none, .pointer none, .pointer none, .pointer none, .pointer none, .pointer none, .pointer none, .pointer none, .pointer none, .pointer none, .pointer none, .slice none 0 0, .int .i64 0] 49)) (siz w1) := blk_alloc_new
  have k2 : K0 w1 (w1.alloc (.cells #[.int .i64 0, .pointer none, .pointer none, .pointer none, .pointer none, .pointer none, .pointer none, .pointer none, .pointer none, .pointer none, .pointer none, .pointer none, .pointer none, .pointer none, .pointer none, .pointer none, .pointer none, .pointer none, .slice none 0 0, .int .i64 0] 49)) := (K0.refl w1).alloc _
  generalize w1.alloc (.cells #[.int .i64 0, .pointer none, .pointer none, .pointer none, .pointer none, .pointer none, .pointer none, .pointer none, .pointer none, .pointer none, .pointer none, .pointer none, .pointer none, .pointer none, .pointer none, .pointer none, .pointer none, .pointer none, .slice none 0 0, .int .i64 0] 49) = w2 at b2 k2
  have cl : ∀ {w'}, K0 w1 w' → cel w' (siz w) 0 = some (.int .i64 a) ∧ cel w' (siz w) 1 = some (.int .i64 b) ∧ cel w' (siz w) 2 = some (.int .i64 md) := fun k => by
    have := k.blk b1 (by exact fun h => h)
    refine ⟨?_, ?_, ?_⟩ <;> (rw [cel_b this]; rfl)
  obtain ⟨x0, x1, x2⟩ := cl k2
  simp only [stp, Nat.reduceAdd, Int.reduceLT, Int.reduceLE, Int.reduceEq, Int.reduceNe, ne_eq, bne_self_eq_false, beq_self_eq_true, stm, x0, x1, x2]
  refine task_nil ⟨a, b, md, rfl⟩ fun w3 k3 => ?_
  obtain ⟨x0, x1, x2⟩ := cl (k2.trans k3)
  simp only [stp, Nat.reduceAdd, Int.reduceLT, Int.reduceLE, Int.reduceEq, Int.reduceNe, ne_eq, bne_self_eq_false, beq_self_eq_true, stm, x0, x1, x2]
  refine task_zero (b2.keep0 k3) ⟨a, b, md, rfl⟩ fun w4 k4 => ?_
  have k34 := k3.trans k4
  obtain ⟨x0, x1, x2⟩ := cl (k2.trans k34)
  simp only [stp, Nat.reduceAdd, Int.reduceLT, Int.reduceLE, Int.reduceEq, Int.reduceNe, ne_eq, bne_self_eq_false, beq_self_eq_true, stm, x0, x1, x2]
  refine trelease_nil ⟨a, b, rfl⟩ fun w5 k5 => ?_
  simp only [stp, Nat.reduceAdd, Int.reduceLT, Int.reduceLE, Int.reduceEq, Int.reduceNe, ne_eq, bne_self_eq_false, beq_self_eq_true]
  refine tcancel_nil fun w6 k6 => ?_
  simp only [stp, Nat.reduceAdd, Int.reduceLT, Int.reduceLE, Int.reduceEq, Int.reduceNe, ne_eq, bne_self_eq_false, beq_self_eq_true]
  have k36 := (k34.trans k5).trans k6
  refine talive_c fun w7 k7 => ?_
  have k7 : K0 w6 w7 := k7.old'
  have k37 := k36.trans k7
  obtain ⟨x0, x1, x2⟩ := cl (k2.trans k37)
  simp only [stp, Nat.reduceAdd, Int.reduceLT, Int.reduceLE, Int.reduceEq, Int.reduceNe, ne_eq, bne_self_eq_false, beq_self_eq_true, stm, x0, x1, x2]
  refine tforce_nil ⟨a, b, md, rfl⟩ fun w8 k8 => ?_
  simp only [stp, Nat.reduceAdd, Int.reduceLT, Int.reduceLE, Int.reduceEq, Int.reduceNe, ne_eq, bne_self_eq_false, beq_self_eq_true, stm]
  refine tdrop_nil fun w9 k9 => ?_
  simp only [stp, Nat.reduceAdd, Int.reduceLT, Int.reduceLE, Int.reduceEq, Int.reduceNe, ne_eq, bne_self_eq_false, beq_self_eq_true, stm]
  refine tholds_nil ?_
  simp only [stp, Nat.reduceAdd, Int.reduceLT, Int.reduceLE, Int.reduceEq, Int.reduceNe, ne_eq, bne_self_eq_false, beq_self_eq_true, stm]
  refine tmode_nil ?_
  simp only [stp, Nat.reduceAdd, Int.reduceLT, Int.reduceLE, Int.reduceEq, Int.reduceNe, ne_eq, bne_self_eq_false, beq_self_eq_true, stm]
  refine twaits_nil ?_
  simp only [stp, Nat.reduceAdd, Int.reduceLT, Int.reduceLE, Int.reduceEq, Int.reduceNe, ne_eq, bne_self_eq_false, beq_self_eq_true, stm]
  refine trevokes_nil ?_
  simp only [stp, Nat.reduceAdd, Int.reduceLT, Int.reduceLE, Int.reduceEq, Int.reduceNe, ne_eq, bne_self_eq_false, beq_self_eq_true, stm]
  have k39 := (k37.trans k8).trans k9
  have z9 := b2.keep0 k39
  refine twaits_zero z9 ?_
  have e0 : IntKind.i64.wrap 0 = 0 := by decide
  simp only [stp, Nat.reduceAdd, Int.reduceLT, Int.reduceLE, Int.reduceEq, Int.reduceNe, ne_eq, bne_self_eq_false, beq_self_eq_true, stm, Int.natCast_zero, Int.ofNat_zero, Int.add_zero, Int.zero_add, e0]
  refine tsound_nil ?_
  simp only [stp, Nat.reduceAdd, Int.reduceLT, Int.reduceLE, Int.reduceEq, Int.reduceNe, ne_eq, bne_self_eq_false, beq_self_eq_true, stm]
  refine tsound_zero z9 fun w10 k10 => ?_
  exact hq _ (Keep.new (((k1.trans k2).trans k39).trans k10))
end
end Go.Proofs.Ytiomanikpboclaa
