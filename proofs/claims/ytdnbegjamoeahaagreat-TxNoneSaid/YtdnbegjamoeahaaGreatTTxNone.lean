/- What TxNone computes: true. Conditions: none. -/
import Derived.Test.YtdnbegjamoeahaaGreatTTxF
set_option linter.unusedSimpArgs false
set_option linter.unusedVariables false
namespace Go.Proofs.YtdnbegjamoeahaaGreatT
open Go.Sh Go.Proofs.YtdnbegjamoeahaaGreatT.Mi
set_option maxRecDepth 100000
section
variable {w w' : World} {Q : Value → World → Prop} {v : Value} {x : Int} {d : ByteArray}
/-- No transaction, or one that nobody has made. -/
def NT (w : World) (v : Value) : Prop := v = .pointer none ∨ ∃ t, v = .pointer (some ⟨t, 0, none⟩) ∧ blk w t = some (.cells #[.int .i64 0, .int .i64 0, .int .i64 0, .int .i64 0, .int .i64 0, .pointer none, .map none, .map none] 179)
theorem NT.keep0 (h : NT w v) (k : K0 w w') : NT w' v := by
  rcases h with h | ⟨t, e, h⟩
  · exact .inl h
  · exact .inr ⟨t, e, k.blk h id⟩
theorem xnone_c (h : NT w v) (hq : Q (.bool true) w) : callS Tryz.prog 211 #[v] Q w := by
  refine ref211 ?_
  unfold S211
  rcases h with rfl | ⟨t, rfl, h⟩
  · simp only [stp, Nat.reduceAdd, Int.reduceLT, Int.reduceLE, Int.reduceEq, Int.reduceNe, ne_eq, bne_self_eq_false, beq_self_eq_true, stm, Option.isNone_none]
    exact hq
  · have c5 : Sh.cel w t 5 = some (.pointer none) := cel_b h 5
    simp only [stp, Nat.reduceAdd, Int.reduceLT, Int.reduceLE, Int.reduceEq, Int.reduceNe, ne_eq, bne_self_eq_false, beq_self_eq_true, stm, c5, Option.isSome_some, Option.getD_some, Option.isNone_some, Option.isNone_none]
    exact hq
theorem xmay_c (h : NT w v) (hq : Q (.int .i64 32) w) : callS Tryz.prog 113 #[v, .int .i64 x] Q w := by
  refine ref113 ?_
  unfold S113
  refine xnone_c h ?_
  simp only [stp, Nat.reduceAdd, Int.reduceLT, Int.reduceLE, Int.reduceEq, Int.reduceNe, ne_eq, bne_self_eq_false, beq_self_eq_true, stm]
  exact hq
theorem xwrite_c (h : NT w v) (hq : Q (.int .i64 32) w) : callS Tryz.prog 97 #[v, .int .i64 x, .string d] Q w := by
  refine ref97 ?_
  unfold S97
  refine xmay_c h ?_
  simp only [stp, Nat.reduceAdd, Int.reduceLT, Int.reduceLE, Int.reduceEq, Int.reduceNe, ne_eq, bne_self_eq_false, beq_self_eq_true, stm]
  exact hq
theorem xwrote_c (h : NT w v) (hq : Q (.tuple #[.string ⟨#[]⟩, .bool false]) w) : callS Tryz.prog 102 #[v, .int .i64 x] Q w := by
  refine ref102 ?_
  unfold S102
  refine xnone_c h ?_
  simp only [stp, Nat.reduceAdd, Int.reduceLT, Int.reduceLE, Int.reduceEq, Int.reduceNe, ne_eq, bne_self_eq_false, beq_self_eq_true, stm]
  exact hq
theorem xmark_c (h : NT w v) (hq : Q (.tuple #[]) w) : callS Tryz.prog 101 #[v, .int .i64 x, .string d] Q w := by
  refine ref101 ?_
  unfold S101
  refine xnone_c h ?_
  simp only [stp, Nat.reduceAdd, Int.reduceLT, Int.reduceLE, Int.reduceEq, Int.reduceNe, ne_eq, bne_self_eq_false, beq_self_eq_true, stm]
  exact hq
theorem xneeds_c (h : NT w v) (hq : ∀ w', K0 w w' → Q (.tuple #[.agg #[.int .i64 0, .int .i64 0, .int .i64 0], .bool false]) w') : callS Tryz.prog 108 #[v, .int .i64 x] Q w := by
  refine ref108 ?_
  unfold S108
  rw [al_148]
  generalize hw1 : w.alloc _ = w1
  have b1 : blk w1 (siz w) = some (.cells #[.int .i64 0, .int .i64 0, .int .i64 0] 148) := by rw [← hw1]; exact blk_alloc_new
  have k1 : K0 w w1 := by rw [← hw1]; exact (K0.refl w).alloc _
  refine xnone_c (h.keep0 k1) ?_
  have e0 : ∀ o, Sh.cel w1 (siz w) o = (#[.int .i64 0, .int .i64 0, .int .i64 0] : Array Value)[o]? := fun o => cel_b b1 o
  have i0 : (Sh.cel w1 (siz w) 0).isSome = true := by rw [e0]; rfl
  have i1 : (Sh.cel w1 (siz w) 1).isSome = true := by rw [e0]; rfl
  have i2 : (Sh.cel w1 (siz w) 2).isSome = true := by rw [e0]; rfl
  simp only [stp, Nat.reduceAdd, Int.reduceLT, Int.reduceLE, Int.reduceEq, Int.reduceNe, ne_eq, bne_self_eq_false, beq_self_eq_true, stm, i0, i1, i2, fre_b b1]
  have kF : K0 w (stoL w1 (siz w) 0 [.int .i64 0, .int .i64 0, .int .i64 0]) := k1.stoL _ 0 (.inr (Nat.le_refl _))
  have bF : blk (stoL w1 (siz w) 0 [.int .i64 0, .int .i64 0, .int .i64 0]) (siz w) = some (.cells #[.int .i64 0, .int .i64 0, .int .i64 0] 148) := blk_stoL_all (zs := [.int .i64 0, .int .i64 0, .int .i64 0]) (xs := [.int .i64 0, .int .i64 0, .int .i64 0]) rfl b1
  generalize stoL w1 (siz w) 0 _ = w3 at kF bF
  have d0 : Sh.cel w3 (siz w) 0 = some (.int .i64 0) := cel_b bF 0
  have d1 : Sh.cel w3 (siz w) 1 = some (.int .i64 0) := cel_b bF 1
  have d2 : Sh.cel w3 (siz w) 2 = some (.int .i64 0) := cel_b bF 2
  simp only [stp, Nat.reduceAdd, Int.reduceLT, Int.reduceLE, Int.reduceEq, Int.reduceNe, ne_eq, bne_self_eq_false, beq_self_eq_true, d0, d1, d2, Option.isSome_some, Option.getD_some]
  exact hq _ kF
theorem xgrow_c (h : NT w v) (hq : ∀ w', K0 w w' → Q (.bool false) w') : callS Tryz.prog 109 #[v, .int .i64 x] Q w := by
  refine ref109 ?_
  unfold S109
  refine xneeds_c h fun w1 k1 => ?_
  simp only [stp, Nat.reduceAdd, Int.reduceLT, Int.reduceLE, Int.reduceEq, Int.reduceNe, ne_eq, bne_self_eq_false, beq_self_eq_true, stm]
  exact hq _ (k1.alloc _).drew
theorem xlocks_c (h : NT w v) (hq : Q (.slice none 0 0) w) : callS Tryz.prog 111 #[v] Q w := by
  refine ref111 ?_
  unfold S111
  refine xnone_c h ?_
  simp only [stp, Nat.reduceAdd, Int.reduceLT, Int.reduceLE, Int.reduceEq, Int.reduceNe, ne_eq, bne_self_eq_false, beq_self_eq_true, stm]
  exact hq
theorem xwrites_c (h : NT w v) (hq : Q (.slice none 0 0) w) : callS Tryz.prog 99 #[v] Q w := by
  refine ref99 ?_
  unfold S99
  refine xnone_c h ?_
  simp only [stp, Nat.reduceAdd, Int.reduceLT, Int.reduceLE, Int.reduceEq, Int.reduceNe, ne_eq, bne_self_eq_false, beq_self_eq_true, stm]
  exact hq
theorem xreads_c (h : NT w v) (hq : Q (.slice none 0 0) w) : callS Tryz.prog 103 #[v] Q w := by
  refine ref103 ?_
  unfold S103
  refine xnone_c h ?_
  simp only [stp, Nat.reduceAdd, Int.reduceLT, Int.reduceLE, Int.reduceEq, Int.reduceNe, ne_eq, bne_self_eq_false, beq_self_eq_true, stm]
  exact hq
theorem xblocks_c (h : NT w v) (hq : Q (.int .i64 0) w) : callS Tryz.prog 98 #[v] Q w := by
  refine ref98 ?_
  unfold S98
  refine xnone_c h ?_
  simp only [stp, Nat.reduceAdd, Int.reduceLT, Int.reduceLE, Int.reduceEq, Int.reduceNe, ne_eq, bne_self_eq_false, beq_self_eq_true, stm]
  exact hq
theorem txnone_law (_ : (Lit.int .i64 x).wf = true) (hd : d.size ≤ maxLen) (hq : ∀ w', Keep (fun b => siz w ≤ b) w w' → Q (.bool true) w') : callS Tryz.prog 11 #[.int .i64 x, .string d] Q w := by
  refine ref11 ?_
  unfold S11
  by_cases hbig : (300 : Int) < (d.size : Int)
  · simp only [stp, Nat.reduceAdd, Int.reduceLT, Int.reduceLE, Int.reduceEq, Int.reduceNe, ne_eq, bne_self_eq_false, beq_self_eq_true, hbig]
    exact alive_c fun w1 k1 => hq _ k1.new
  simp only [stp, Nat.reduceAdd, Int.reduceLT, Int.reduceLE, Int.reduceEq, Int.reduceNe, ne_eq, bne_self_eq_false, beq_self_eq_true, hbig]
  have hN : NT w (.pointer none) := .inl rfl
  generalize hw1 : w.alloc _ = w1
  have k1 : K0 w w1 := by rw [← hw1]; exact (K0.refl w).alloc _
  have hZ : NT w1 (.pointer (some ⟨siz w, 0, none⟩)) := .inr ⟨_, rfl, by rw [← hw1]; exact blk_alloc_new⟩
  refine xmark_c (hN.keep0 k1) ?_
  try simp only [stp, Nat.reduceAdd, Int.reduceLT, Int.reduceLE, Int.reduceEq, Int.reduceNe, ne_eq, bne_self_eq_false, beq_self_eq_true, stm]
  refine xwrote_c (hN.keep0 k1) ?_
  simp only [stp, Nat.reduceAdd, Int.reduceLT, Int.reduceLE, Int.reduceEq, Int.reduceNe, ne_eq, bne_self_eq_false, beq_self_eq_true, stm]
  refine xneeds_c (hN.keep0 k1) fun w2 k2 => ?_
  simp only [stp, Nat.reduceAdd, Int.reduceLT, Int.reduceLE, Int.reduceEq, Int.reduceNe, ne_eq, bne_self_eq_false, beq_self_eq_true, stm]
  generalize hw3 : w2.alloc _ = w3
  have k3 : K0 w2 w3 := by rw [← hw3]; exact (K0.refl w2).alloc _
  refine alive_c fun w4 k4 => ?_
  have k14 := (k2.trans k3).trans k4
  have k04 := k1.trans k14
  have hN := hN.keep0 k04
  have hZ := hZ.keep0 k14
  simp only [stp, Nat.reduceAdd, Int.reduceLT, Int.reduceLE, Int.reduceEq, Int.reduceNe, ne_eq, bne_self_eq_false, beq_self_eq_true, stm]
  refine xmay_c hN ?_
  simp only [stp, Nat.reduceAdd, Int.reduceLT, Int.reduceLE, Int.reduceEq, Int.reduceNe, ne_eq, bne_self_eq_false, beq_self_eq_true, stm]
  refine xmay_c hZ ?_
  simp only [stp, Nat.reduceAdd, Int.reduceLT, Int.reduceLE, Int.reduceEq, Int.reduceNe, ne_eq, bne_self_eq_false, beq_self_eq_true, stm]
  refine xwrite_c hN ?_
  simp only [stp, Nat.reduceAdd, Int.reduceLT, Int.reduceLE, Int.reduceEq, Int.reduceNe, ne_eq, bne_self_eq_false, beq_self_eq_true, stm]
  refine xwrite_c hZ ?_
  simp only [stp, Nat.reduceAdd, Int.reduceLT, Int.reduceLE, Int.reduceEq, Int.reduceNe, ne_eq, bne_self_eq_false, beq_self_eq_true, stm]
  refine xgrow_c hN fun w5 k5 => ?_
  have k05 := k04.trans k5
  have hN := hN.keep0 k5
  have hZ := hZ.keep0 k5
  simp only [stp, Nat.reduceAdd, Int.reduceLT, Int.reduceLE, Int.reduceEq, Int.reduceNe, ne_eq, bne_self_eq_false, beq_self_eq_true, stm]
  refine xlocks_c hN ?_
  simp only [stp, Nat.reduceAdd, Int.reduceLT, Int.reduceLE, Int.reduceEq, Int.reduceNe, ne_eq, bne_self_eq_false, beq_self_eq_true, stm]
  refine xwrites_c hN ?_
  simp only [stp, Nat.reduceAdd, Int.reduceLT, Int.reduceLE, Int.reduceEq, Int.reduceNe, ne_eq, bne_self_eq_false, beq_self_eq_true, stm]
  refine xreads_c hN ?_
  simp only [stp, Nat.reduceAdd, Int.reduceLT, Int.reduceLE, Int.reduceEq, Int.reduceNe, ne_eq, bne_self_eq_false, beq_self_eq_true, stm]
  refine xblocks_c hN ?_
  simp only [stp, Nat.reduceAdd, Int.reduceLT, Int.reduceLE, Int.reduceEq, Int.reduceNe, ne_eq, bne_self_eq_false, beq_self_eq_true, stm]
  refine xblocks_c hZ ?_
  simp only [stp, Nat.reduceAdd, Int.reduceLT, Int.reduceLE, Int.reduceEq, Int.reduceNe, ne_eq, bne_self_eq_false, beq_self_eq_true, stm]
  exact hq _ k05.new
end
end Go.Proofs.YtdnbegjamoeahaaGreatT
