/- CacheNone: of a nil and of a zero cache. Conditions: as it says. -/
import Derived.Test.YtjfookddoaemfaaCacNil
import Derived.Test.YtjfookddoaemfaaShV
set_option linter.unusedSimpArgs false
set_option linter.unusedVariables false
namespace Go.Proofs.Ytjfookddoaemfaa
open Go.Sh Go.Sh.Lrv Go.Proofs.Ytjfookddoaemfaa.Lv
set_option maxRecDepth 100000
section
variable {w w' : World} {Q : Value → World → Prop}
theorem ld_img {t : Nat} {b v : Int} {s : ByteArray} {k : Value → Prop} (h : blk w t = some (imgC b v s)) : rd Try.prog (Instr.loadAt 30 (.pointer (some ⟨t, 0, none⟩))) k w = k (vI b v s) := by
  have y0 : cel w t 0 = some (.int .i64 b) := cel_b h 0
  have y1 : cel w t 1 = some (.int .u64 v) := cel_b h 1
  have y2 : cel w t 2 = some (.string s) := cel_b h 2
  rw [ld_30 (by rw [y0]; rfl) (by rw [y1]; rfl) (by rw [y2]; rfl), y0, y1, y2]; rfl
set_option maxHeartbeats 2000000 in
theorem none_law {cs : List Value} {n : Int} (ho : AllOkW w [Sh.LW.b (.int .i64), Sh.LW.b (.int .u64), Sh.LW.b .str] cs) (_ : (Lit.int .i64 n).wf = true) (hq : ∀ w', Keep (fun b => siz w ≤ b) w w' → Q (.bool true) w') :
    callS Try.prog 6 #[.agg cs.toArray, .int .i64 n] Q w := by
  obtain ⟨v0, vs0, rfl, h0, ho⟩ := ho.cons
  obtain ⟨v1, vs1, rfl, h1, ho⟩ := ho.cons
  obtain ⟨v2, vs2, rfl, h2, ho⟩ := ho.cons
  obtain rfl := ho.nil
  obtain ⟨b, rfl, _⟩ := h0
  obtain ⟨v, rfl, _⟩ := h1
  obtain ⟨s, rfl, hs⟩ := h2
  refine ref6 ?_
  unfold S6
  show act _ (Instr.box _ (.agg #[.int .i64 b, .int .u64 v, .string s])) _ _
  rw [act_box, agg_cells]
  generalize hw1 : w.alloc _ = w1
  have b1 : blk w1 (siz w) = some (imgC b v s) := by rw [← hw1]; exact blk_alloc_new
  have k1 : K0 w w1 := by rw [← hw1]; exact (K0.refl w).alloc _
  have c2 : cel w1 (siz w) 2 = some (.string s) := cel_b b1 2
  have out : callS Try.prog 7 #[] Q w1 := alive_c fun w2 k2 => hq _ (k1.trans k2).new
  by_cases g1 : 300 < (s.size : Int)
  · simp only [stp, Nat.reduceAdd, Int.reduceLT, Int.reduceLE, Int.reduceEq, Int.reduceNe, ne_eq, bne_self_eq_false, beq_self_eq_true, stm, c2, Option.isSome_some, Option.getD_some, g1]
    exact out
  have hs' : s.size ≤ 1000000 := by omega
  simp only [stp, Nat.reduceAdd, Int.reduceLT, Int.reduceLE, Int.reduceEq, Int.reduceNe, ne_eq, bne_self_eq_false, beq_self_eq_true, stm, c2, Option.isSome_some, Option.getD_some, g1]
  generalize hw2 : w1.alloc _ = w2
  have k12 : K0 w1 w2 := by rw [← hw2]; exact (K0.refl w1).alloc _
  have bz : blk w2 (siz w1) = some (.cells #[.pointer none] 54) := by rw [← hw2]; exact blk_alloc_new
  have hz2 : NC w2 (.pointer (some ⟨siz w1, 0, none⟩)) := .inr ⟨_, rfl, cel_b bz 0⟩
  have bi2 := k12.blk b1 fun e => e
  have hn : ∀ w, NC w (.pointer none) := fun w => .inl rfl
  refine nget_c (hn _) fun w3 k23 => ?_
  simp only [stp, Nat.reduceAdd, Int.reduceLT, Int.reduceLE, Int.reduceEq, Int.reduceNe, ne_eq, bne_self_eq_false, beq_self_eq_true]
  generalize hw4 : w3.alloc _ = w4
  have b4 : blk w4 (siz w3) = some (imgC 0 0 ⟨#[]⟩) := by rw [← hw4]; exact blk_alloc_new
  have k34 : K0 w3 w4 := by rw [← hw4]; exact (K0.refl w3).alloc _
  refine st_img b4 fun w5 k45 _ => ?_
  have k25 : K0 w2 w5 := k23.trans (k34.trans' k45 fun b hb e => by omega)
  refine nget_c (hz2.keep0 k25) fun w6 k56 => ?_
  simp only [stp, Nat.reduceAdd, Int.reduceLT, Int.reduceLE, Int.reduceEq, Int.reduceNe, ne_eq, bne_self_eq_false, beq_self_eq_true]
  generalize hw7 : w6.alloc _ = w7
  have b7 : blk w7 (siz w6) = some (imgC 0 0 ⟨#[]⟩) := by rw [← hw7]; exact blk_alloc_new
  have k67 : K0 w6 w7 := by rw [← hw7]; exact (K0.refl w6).alloc _
  refine st_img b7 fun w8 k78 _ => ?_
  have k28 : K0 w2 w8 := k25.trans (k56.trans (k67.trans' k78 fun b hb e => by omega))
  refine alive_c fun w9 k89 => ?_
  have k29 := k28.trans k89
  simp only [stp, Nat.reduceAdd, Int.reduceLT, Int.reduceLE, Int.reduceEq, Int.reduceNe, ne_eq, bne_self_eq_false, beq_self_eq_true]
  rw [ld_img (k29.blk bi2 fun e => e)]
  refine nfill_c (hn _) hs' fun w10 k => ?_
  have k2a := k29.trans k
  simp only [stp, Nat.reduceAdd, Int.reduceLT, Int.reduceLE, Int.reduceEq, Int.reduceNe, ne_eq, bne_self_eq_false, beq_self_eq_true]
  rw [ld_img (k2a.blk bi2 fun e => e)]
  refine nfill_c (hz2.keep0 k2a) hs' fun w11 k => ?_
  have k2b := k2a.trans k
  simp only [stp, Nat.reduceAdd, Int.reduceLT, Int.reduceLE, Int.reduceEq, Int.reduceNe, ne_eq, bne_self_eq_false, beq_self_eq_true]
  rw [ld_img (k2b.blk bi2 fun e => e)]
  refine nchange_c (hn _) fun w12 k => ?_
  have k2c := k2b.trans k
  simp only [stp, Nat.reduceAdd, Int.reduceLT, Int.reduceLE, Int.reduceEq, Int.reduceNe, ne_eq, bne_self_eq_false, beq_self_eq_true]
  rw [ld_img (k2c.blk bi2 fun e => e)]
  refine nchange_c (hz2.keep0 k2c) fun w13 k => ?_
  have k2d := k2c.trans k
  simp only [stp, Nat.reduceAdd, Int.reduceLT, Int.reduceLE, Int.reduceEq, Int.reduceNe, ne_eq, bne_self_eq_false, beq_self_eq_true]
  refine ndirty_c (hn _) fun w14 k => ?_
  have k2e := k2d.trans k
  try simp only [stp, Nat.reduceAdd, Int.reduceLT, Int.reduceLE, Int.reduceEq, Int.reduceNe, ne_eq, bne_self_eq_false, beq_self_eq_true]
  refine naLL_c (hn _) fun w15 k => ?_
  have k2f := k2e.trans k
  have ha : IntKind.i64.wrap (((0 : Nat) : Int) + ((0 : Nat) : Int)) = 0 := by decide
  have hb : IntKind.i64.wrap ((0 : Int) + 0) = 0 := by decide
  have hu : IntKind.u64.wrap ((0 : Int) + 0) = 0 := by decide
  simp only [stp, Nat.reduceAdd, Int.reduceLT, Int.reduceLE, Int.reduceEq, Int.reduceNe, ne_eq, bne_self_eq_false, beq_self_eq_true, stm, ha, hb]
  refine nclen_c (hn _) ?_
  simp only [stp, Nat.reduceAdd, Int.reduceLT, Int.reduceLE, Int.reduceEq, Int.reduceNe, ne_eq, bne_self_eq_false, beq_self_eq_true, stm, hb]
  refine ncroom_c (hn _) fun w16 k => ?_
  have k2g := k2f.trans k
  simp only [stp, Nat.reduceAdd, Int.reduceLT, Int.reduceLE, Int.reduceEq, Int.reduceNe, ne_eq, bne_self_eq_false, beq_self_eq_true, stm, hb]
  refine nclen_c (hz2.keep0 k2g) ?_
  simp only [stp, Nat.reduceAdd, Int.reduceLT, Int.reduceLE, Int.reduceEq, Int.reduceNe, ne_eq, bne_self_eq_false, beq_self_eq_true, stm, hb]
  refine ncroom_c (hz2.keep0 k2g) fun w17 k => ?_
  have k2h := k2g.trans k
  simp only [stp, Nat.reduceAdd, Int.reduceLT, Int.reduceLE, Int.reduceEq, Int.reduceNe, ne_eq, bne_self_eq_false, beq_self_eq_true, stm, hb]
  refine ndrop_c (hn _) fun w18 k => ?_
  have k2i := k2h.trans k
  simp only [stp, Nat.reduceAdd, Int.reduceLT, Int.reduceLE, Int.reduceEq, Int.reduceNe, ne_eq, bne_self_eq_false, beq_self_eq_true, stm, hb]
  refine nclean_c (hn _) fun w19 k => ?_
  have k2j := k2i.trans k
  simp only [stp, Nat.reduceAdd, Int.reduceLT, Int.reduceLE, Int.reduceEq, Int.reduceNe, ne_eq, bne_self_eq_false, beq_self_eq_true, stm, hb]
  refine noldest_c (hn _) fun w20 k => ?_
  have k2k := k2j.trans k
  try simp only [stp, Nat.reduceAdd, Int.reduceLT, Int.reduceLE, Int.reduceEq, Int.reduceNe, ne_eq, bne_self_eq_false, beq_self_eq_true, stm, hb]
  refine noldest_c (hz2.keep0 k2k) fun w21 k => ?_
  have k2l := k2k.trans k
  simp only [stp, Nat.reduceAdd, Int.reduceLT, Int.reduceLE, Int.reduceEq, Int.reduceNe, ne_eq, bne_self_eq_false, beq_self_eq_true, stm, hu]
  exact hq _ ((k1.trans k12).trans k2l).new
end
end Go.Proofs.Ytjfookddoaemfaa
