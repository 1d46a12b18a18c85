/- The first call of the statements of chapter 5: 'alive' is true. Conditions: none. -/
import Derived.Test.YtkdanklgcgjijaaLruIiG
import Derived.Test.YtkdanklgcgjijaaLruIiM
import Derived.Test.YtkdanklgcgjijaaLruIiD
set_option linter.unusedSimpArgs false
set_option linter.unusedVariables false
namespace Go.Proofs.Ytkdanklgcgjijaa
open Go.Sh Go.Sh.Lru

theorem alive_c {w : World} {Q : Value → World → Prop} (hq : ∀ w', Keep (fun _ => False) w w' → Q (.bool true) w') : callS Try.prog 7 #[] Q w := by
  refine ref7 ?_
  unfold S7
  refine Lii.new_c (B := siz w) (Nat.le_refl _) fun w1 h1 k1 => ?_
  have s1 := k1.size
  have K1 : Keep (fun b => siz w ≤ b) w w1 := k1.none
  rw [show Lii.clampR 2 = 2 from rfl] at h1
  simp only [pur_add, pur_sub, pur_mul, pur_eql, pur_neq, pur_lss, pur_leq, pur_gtr, pur_geq, pur_seql, pur_sneq, pur_max, pur_min, pur_nil, pur_pick_t, pur_pick_f, pur_not, pur_pure, pur_ext2_0, pur_ext2_1, pur_ext3_0, pur_ext3_1, pur_ext3_2, pur_ext4_0, pur_ext4_1, pur_ext4_2, pur_ext4_3, gd_hit, gd_tf, gd_ft, gd_undef, condS_true, condS_false, one_int, one_ptr, one_str, one_bool, one_map, one_slice, act_box, act_makeMap, agg_cells, Nat.zero_add, Nat.reduceAdd, decide_true, decide_false, Bool.not_true, Bool.not_false, not_true_eq_false, not_false_eq_true, ne_eq, Bool.bne_true, Bool.bne_false, Bool.true_bne, Bool.false_bne, Bool.true_beq, Bool.false_beq, bne_self_eq_false, beq_self_eq_true, Int.reduceLT, Int.reduceLE, Int.reduceEq, Int.reduceNe, fa_53_0, fa_53_1, fa_53_2, fa_53_3, fa_53_4, fa_55_0, fa_55_1, fa_55_2, fa_62_0, fa_62_1, fa_62_2, fa_62_3, fa_62_4, fa_64_0, fa_64_1, fa_64_2, fa_71_0, fa_71_1, fa_71_2, fa_71_3, fa_71_4, fa_73_0, fa_73_1, fa_73_2, ld_3, ld_9, ld_50, ld_51, ld_59, ld_60, ld_68, ld_69, st_3, st_9, st_51, st_60, st_69, al_53, al_62, al_71, bd_53_0_1, bd_55_0_2, bd_62_0_1, bd_64_0_2, bd_71_0_1, bd_73_0_2, pe0_24, pe1_24, pe2_24, pe0_33, pe1_33, pe2_33, pe0_41, pe1_41, pe2_41, pe0_51, pe1_51, pe2_51, pe0_60, pe1_60, pe2_60, pe0_69, pe1_69, pe2_69, bn_4, pn0_51, pn1_51, pn2_51, pn0_60, pn1_60, pn2_60, pn0_69, pn1_69, pn2_69, ln_22, ln_32, ix_22, ix_32, bs_22, bs_32]
  refine Lii.put_miss h1 s1 ⟨1, rfl⟩ rfl (by simp) (fun w' hr => absurd hr (by simp)) (fun A n C hL => by simp at hL) (fun _ w2 b1 _ h2 k2 => ?_)
  have K2 := h1.onward K1 k2
  refine Lii.put_miss h2 K2.size ⟨2, rfl⟩ rfl (by simp) (fun w' hr => absurd hr (by simp)) (fun A n C hL _ _ hf => absurd hf (by simp)) (fun _ w3 b2 _ h3 k3 => ?_)
  have K3 := h2.onward K2 k3
  refine Lii.get_hit (A := [⟨b2, .int .i64 2, .int .i64 20, 0⟩]) (n := ⟨b1, .int .i64 1, .int .i64 10, 0⟩) (C := []) h3 fun w4 h4 k4 => ?_
  have K4 := h3.onward K3 k4
  simp only [pur_add, pur_sub, pur_mul, pur_eql, pur_neq, pur_lss, pur_leq, pur_gtr, pur_geq, pur_seql, pur_sneq, pur_max, pur_min, pur_nil, pur_pick_t, pur_pick_f, pur_not, pur_pure, pur_ext2_0, pur_ext2_1, pur_ext3_0, pur_ext3_1, pur_ext3_2, pur_ext4_0, pur_ext4_1, pur_ext4_2, pur_ext4_3, gd_hit, gd_tf, gd_ft, gd_undef, condS_true, condS_false, one_int, one_ptr, one_str, one_bool, one_map, one_slice, act_box, act_makeMap, agg_cells, Nat.zero_add, Nat.reduceAdd, decide_true, decide_false, Bool.not_true, Bool.not_false, not_true_eq_false, not_false_eq_true, ne_eq, Bool.bne_true, Bool.bne_false, Bool.true_bne, Bool.false_bne, Bool.true_beq, Bool.false_beq, bne_self_eq_false, beq_self_eq_true, Int.reduceLT, Int.reduceLE, Int.reduceEq, Int.reduceNe, fa_53_0, fa_53_1, fa_53_2, fa_53_3, fa_53_4, fa_55_0, fa_55_1, fa_55_2, fa_62_0, fa_62_1, fa_62_2, fa_62_3, fa_62_4, fa_64_0, fa_64_1, fa_64_2, fa_71_0, fa_71_1, fa_71_2, fa_71_3, fa_71_4, fa_73_0, fa_73_1, fa_73_2, ld_3, ld_9, ld_50, ld_51, ld_59, ld_60, ld_68, ld_69, st_3, st_9, st_51, st_60, st_69, al_53, al_62, al_71, bd_53_0_1, bd_55_0_2, bd_62_0_1, bd_64_0_2, bd_71_0_1, bd_73_0_2, pe0_24, pe1_24, pe2_24, pe0_33, pe1_33, pe2_33, pe0_41, pe1_41, pe2_41, pe0_51, pe1_51, pe2_51, pe0_60, pe1_60, pe2_60, pe0_69, pe1_69, pe2_69, bn_4, pn0_51, pn1_51, pn2_51, pn0_60, pn1_60, pn2_60, pn0_69, pn1_69, pn2_69, ln_22, ln_32, ix_22, ix_32, bs_22, bs_32]
  refine Lii.put_miss h4 K4.size ⟨3, rfl⟩ rfl (by simp) (fun w' hr => absurd hr (by simp)) (fun A n C hL hp hC _ w5 b3 _ h5 k5 => ?_) (fun hlt => absurd hlt (by simp))
  have K5 := h4.onward K4 k5
  -- the last one goes
  have hCn : C = [] ∧ A = [⟨b1, .int .i64 1, .int .i64 10, 0⟩] ∧ n = ⟨b2, .int .i64 2, .int .i64 20, 0⟩ := by
    rcases A with _ | ⟨a, A⟩
    · simp at hL
      obtain ⟨h1, h2⟩ := hL
      subst h2
      exact absurd rfl (hC _ (List.mem_singleton.2 rfl))
    · simp at hL
      obtain ⟨h1, hL⟩ := hL
      rcases A with _ | ⟨a', A⟩
      · simp at hL; exact ⟨hL.2, by rw [← h1], hL.1.symm⟩
      · simp at hL
  obtain ⟨rfl, rfl, rfl⟩ := hCn
  simp only [pur_add, pur_sub, pur_mul, pur_eql, pur_neq, pur_lss, pur_leq, pur_gtr, pur_geq, pur_seql, pur_sneq, pur_max, pur_min, pur_nil, pur_pick_t, pur_pick_f, pur_not, pur_pure, pur_ext2_0, pur_ext2_1, pur_ext3_0, pur_ext3_1, pur_ext3_2, pur_ext4_0, pur_ext4_1, pur_ext4_2, pur_ext4_3, gd_hit, gd_tf, gd_ft, gd_undef, condS_true, condS_false, one_int, one_ptr, one_str, one_bool, one_map, one_slice, act_box, act_makeMap, agg_cells, Nat.zero_add, Nat.reduceAdd, decide_true, decide_false, Bool.not_true, Bool.not_false, not_true_eq_false, not_false_eq_true, ne_eq, Bool.bne_true, Bool.bne_false, Bool.true_bne, Bool.false_bne, Bool.true_beq, Bool.false_beq, bne_self_eq_false, beq_self_eq_true, Int.reduceLT, Int.reduceLE, Int.reduceEq, Int.reduceNe, fa_53_0, fa_53_1, fa_53_2, fa_53_3, fa_53_4, fa_55_0, fa_55_1, fa_55_2, fa_62_0, fa_62_1, fa_62_2, fa_62_3, fa_62_4, fa_64_0, fa_64_1, fa_64_2, fa_71_0, fa_71_1, fa_71_2, fa_71_3, fa_71_4, fa_73_0, fa_73_1, fa_73_2, ld_3, ld_9, ld_50, ld_51, ld_59, ld_60, ld_68, ld_69, st_3, st_9, st_51, st_60, st_69, al_53, al_62, al_71, bd_53_0_1, bd_55_0_2, bd_62_0_1, bd_64_0_2, bd_71_0_1, bd_73_0_2, pe0_24, pe1_24, pe2_24, pe0_33, pe1_33, pe2_33, pe0_41, pe1_41, pe2_41, pe0_51, pe1_51, pe2_51, pe0_60, pe1_60, pe2_60, pe0_69, pe1_69, pe2_69, bn_4, pn0_51, pn1_51, pn2_51, pn0_60, pn1_60, pn2_60, pn0_69, pn1_69, pn2_69, ln_22, ln_32, ix_22, ix_32, bs_22, bs_32]
  refine Lii.len_c h5 ?_
  simp only [List.length_append, List.length_cons, List.length_nil, pur_add, pur_sub, pur_mul, pur_eql, pur_neq, pur_lss, pur_leq, pur_gtr, pur_geq, pur_seql, pur_sneq, pur_max, pur_min, pur_nil, pur_pick_t, pur_pick_f, pur_not, pur_pure, pur_ext2_0, pur_ext2_1, pur_ext3_0, pur_ext3_1, pur_ext3_2, pur_ext4_0, pur_ext4_1, pur_ext4_2, pur_ext4_3, gd_hit, gd_tf, gd_ft, gd_undef, condS_true, condS_false, one_int, one_ptr, one_str, one_bool, one_map, one_slice, act_box, act_makeMap, agg_cells, Nat.zero_add, Nat.reduceAdd, decide_true, decide_false, Bool.not_true, Bool.not_false, not_true_eq_false, not_false_eq_true, ne_eq, Bool.bne_true, Bool.bne_false, Bool.true_bne, Bool.false_bne, Bool.true_beq, Bool.false_beq, bne_self_eq_false, beq_self_eq_true, Int.reduceLT, Int.reduceLE, Int.reduceEq, Int.reduceNe, fa_53_0, fa_53_1, fa_53_2, fa_53_3, fa_53_4, fa_55_0, fa_55_1, fa_55_2, fa_62_0, fa_62_1, fa_62_2, fa_62_3, fa_62_4, fa_64_0, fa_64_1, fa_64_2, fa_71_0, fa_71_1, fa_71_2, fa_71_3, fa_71_4, fa_73_0, fa_73_1, fa_73_2, ld_3, ld_9, ld_50, ld_51, ld_59, ld_60, ld_68, ld_69, st_3, st_9, st_51, st_60, st_69, al_53, al_62, al_71, bd_53_0_1, bd_55_0_2, bd_62_0_1, bd_64_0_2, bd_71_0_1, bd_73_0_2, pe0_24, pe1_24, pe2_24, pe0_33, pe1_33, pe2_33, pe0_41, pe1_41, pe2_41, pe0_51, pe1_51, pe2_51, pe0_60, pe1_60, pe2_60, pe0_69, pe1_69, pe2_69, bn_4, pn0_51, pn1_51, pn2_51, pn0_60, pn1_60, pn2_60, pn0_69, pn1_69, pn2_69, ln_22, ln_32, ix_22, ix_32, bs_22, bs_32]
  refine hq _ ⟨K5.os, K5.tape, K5.output, K5.size, fun b hb _ => K5.block b hb (by omega)⟩
end Go.Proofs.Ytkdanklgcgjijaa
