/- Ranges: lists joined; what SpanJoins computes: true. Conditions: as each says. -/
import Derived.Test.YtalkoelpibiboaaSpanC
import Derived.Test.YtalkoelpibiboaaSpanD
set_option linter.unusedSimpArgs false
set_option linter.unusedVariables false
namespace Go.Proofs.Ytalkoelpibiboaa
open Go.Sh
set_option maxRecDepth 100000
section
variable {w : World} {Q : Value → World → Prop}

theorem grow_c {n : Nat} (hn : n ≤ 1000000) (hq : ∀ w' v', Own w' (siz w) 27 2 v' 0 [] → Keep (fun _ => False) w w' → Q v' w') :
    callS Try.prog 33 #[.slice none 0 0, .int .i64 (n : Int)] Q w := by
  refine ref33 ?_
  unfold S33
  have h0 : ¬ ((n : Int) < 0) := by omega
  simp only [pur_add, pur_sub, pur_mul, pur_eql, pur_neq, pur_lss, pur_leq, pur_gtr, pur_geq, pur_seql, pur_sneq, pur_max, pur_min, pur_nil, pur_pick_t, pur_pick_f, pur_not, pur_pure, pur_ext2_0, pur_ext2_1, pur_ext3_0, pur_ext3_1, pur_ext3_2, pur_ext4_0, pur_ext4_1, pur_ext4_2, pur_ext4_3, gd_hit, gd_tf, gd_ft, gd_undef, condS_true, condS_false, one_int, one_ptr, one_str, one_bool, one_map, one_slice, act_box, act_makeMap, agg_cells, Nat.zero_add, Nat.reduceAdd, decide_true, decide_false, Bool.not_true, Bool.not_false, not_true_eq_false, not_false_eq_true, ne_eq, Bool.bne_true, Bool.bne_false, Bool.true_bne, Bool.false_bne, Bool.true_beq, Bool.false_beq, bne_self_eq_false, beq_self_eq_true, Int.reduceLT, Int.reduceLE, Int.reduceEq, Int.reduceNe, fa_27_0, fa_27_1, ld_3, ld_22, ld_27, ld_67, st_3, st_27, st_67, al_3, al_27, al_67, bd_27_, bd_27_0_1, be_4, bn_4, ln_22, ln_35, ln_53, ix_22, ix_35, ix_53, slt_22, bs_22, bs_35, bs2_35, bs2_53, cv_3_51, cv_3_67, cv_5_3, cv_51_3, cv_51_64, cv_64_5, cv_66_5, callF_plain, nw1, nw2, nw3, nw4, nw5, nw6, nw7, nw8, nw9, nw10, nw11, nw12, resL_ptr, cel_alloc_new, cel_alloc_old, siz_lt1, siz_lt2, siz_lt3, siz_lt4, fre_alloc_new, fre_alloc_old, cel_drew, fre_drew, siz_drew, List.getElem?_toArray, List.getElem?_cons_zero, List.getElem?_cons_succ, Option.isSome_some, Option.getD_some, Option.isNone_none, Option.isNone_some, Option.isSome_none, sq_22, se_27, sn_27, bz_22_0, bz_22_1, bz_22_2, bz_22_3, bz_35_1, bz_35_2, bz_53_2, slt0_22, slf0_22, cp_22, stn_3, stn_27, stn_67, h0]
  refine jn0 (fun w' => w' = w) (fun J hJ => hJ w rfl) ?_
  rintro w' rfl _
  have z0 : ((0 : Nat) : Int) = 0 := rfl
  have e0 : IntKind.i64.wrap (0 - 0) = 0 := wrap_id (by omega) (by omega)
  have e1 : IntKind.i64.wrap ((n : Int) - 0) = (n : Int) := by rw [wrap_id (by omega) (by omega)]; omega
  refine jn1 (fun x w'' => Own w'' (siz w') 27 2 x 0 [] ∧ Keep (fun _ => False) w' w'') (fun J hJ => ?_) fun x w'' h _ => hq w'' x h.1 h.2
  simp only [pur_add, pur_sub, pur_mul, pur_eql, pur_neq, pur_lss, pur_leq, pur_gtr, pur_geq, pur_seql, pur_sneq, pur_max, pur_min, pur_nil, pur_pick_t, pur_pick_f, pur_not, pur_pure, pur_ext2_0, pur_ext2_1, pur_ext3_0, pur_ext3_1, pur_ext3_2, pur_ext4_0, pur_ext4_1, pur_ext4_2, pur_ext4_3, gd_hit, gd_tf, gd_ft, gd_undef, condS_true, condS_false, one_int, one_ptr, one_str, one_bool, one_map, one_slice, act_box, act_makeMap, agg_cells, Nat.zero_add, Nat.reduceAdd, decide_true, decide_false, Bool.not_true, Bool.not_false, not_true_eq_false, not_false_eq_true, ne_eq, Bool.bne_true, Bool.bne_false, Bool.true_bne, Bool.false_bne, Bool.true_beq, Bool.false_beq, bne_self_eq_false, beq_self_eq_true, Int.reduceLT, Int.reduceLE, Int.reduceEq, Int.reduceNe, fa_27_0, fa_27_1, ld_3, ld_22, ld_27, ld_67, st_3, st_27, st_67, al_3, al_27, al_67, bd_27_, bd_27_0_1, be_4, bn_4, ln_22, ln_35, ln_53, ix_22, ix_35, ix_53, slt_22, bs_22, bs_35, bs2_35, bs2_53, cv_3_51, cv_3_67, cv_5_3, cv_51_3, cv_51_64, cv_64_5, cv_66_5, callF_plain, nw1, nw2, nw3, nw4, nw5, nw6, nw7, nw8, nw9, nw10, nw11, nw12, resL_ptr, cel_alloc_new, cel_alloc_old, siz_lt1, siz_lt2, siz_lt3, siz_lt4, fre_alloc_new, fre_alloc_old, cel_drew, fre_drew, siz_drew, List.getElem?_toArray, List.getElem?_cons_zero, List.getElem?_cons_succ, Option.isSome_some, Option.getD_some, Option.isNone_none, Option.isNone_some, Option.isSome_none, sq_22, se_27, sn_27, bz_22_0, bz_22_1, bz_22_2, bz_22_3, bz_35_1, bz_35_2, bz_53_2, slt0_22, slf0_22, cp_22, stn_3, stn_27, stn_67, z0, e0, e1]
  by_cases hp : (0 : Int) < (n : Int)
  · simp only [pur_add, pur_sub, pur_mul, pur_eql, pur_neq, pur_lss, pur_leq, pur_gtr, pur_geq, pur_seql, pur_sneq, pur_max, pur_min, pur_nil, pur_pick_t, pur_pick_f, pur_not, pur_pure, pur_ext2_0, pur_ext2_1, pur_ext3_0, pur_ext3_1, pur_ext3_2, pur_ext4_0, pur_ext4_1, pur_ext4_2, pur_ext4_3, gd_hit, gd_tf, gd_ft, gd_undef, condS_true, condS_false, one_int, one_ptr, one_str, one_bool, one_map, one_slice, act_box, act_makeMap, agg_cells, Nat.zero_add, Nat.reduceAdd, decide_true, decide_false, Bool.not_true, Bool.not_false, not_true_eq_false, not_false_eq_true, ne_eq, Bool.bne_true, Bool.bne_false, Bool.true_bne, Bool.false_bne, Bool.true_beq, Bool.false_beq, bne_self_eq_false, beq_self_eq_true, Int.reduceLT, Int.reduceLE, Int.reduceEq, Int.reduceNe, fa_27_0, fa_27_1, ld_3, ld_22, ld_27, ld_67, st_3, st_27, st_67, al_3, al_27, al_67, bd_27_, bd_27_0_1, be_4, bn_4, ln_22, ln_35, ln_53, ix_22, ix_35, ix_53, slt_22, bs_22, bs_35, bs2_35, bs2_53, cv_3_51, cv_3_67, cv_5_3, cv_51_3, cv_51_64, cv_64_5, cv_66_5, callF_plain, nw1, nw2, nw3, nw4, nw5, nw6, nw7, nw8, nw9, nw10, nw11, nw12, resL_ptr, cel_alloc_new, cel_alloc_old, siz_lt1, siz_lt2, siz_lt3, siz_lt4, fre_alloc_new, fre_alloc_old, cel_drew, fre_drew, siz_drew, List.getElem?_toArray, List.getElem?_cons_zero, List.getElem?_cons_succ, Option.isSome_some, Option.getD_some, Option.isNone_none, Option.isNone_some, Option.isSome_none, sq_22, se_27, sn_27, bz_22_0, bz_22_1, bz_22_2, bz_22_3, bz_35_1, bz_35_2, bz_53_2, slt0_22, slf0_22, cp_22, stn_3, stn_27, stn_67, hp]
    refine apz_22 (by omega) (by omega) fun cap w2 o2 hc k2 => ?_
    rw [show (0 : Int) = ((0 : Nat) : Int) from rfl, slt_22 (Nat.zero_le _)]
    exact hJ _ _ ⟨o2, k2⟩
  · simp only [pur_add, pur_sub, pur_mul, pur_eql, pur_neq, pur_lss, pur_leq, pur_gtr, pur_geq, pur_seql, pur_sneq, pur_max, pur_min, pur_nil, pur_pick_t, pur_pick_f, pur_not, pur_pure, pur_ext2_0, pur_ext2_1, pur_ext3_0, pur_ext3_1, pur_ext3_2, pur_ext4_0, pur_ext4_1, pur_ext4_2, pur_ext4_3, gd_hit, gd_tf, gd_ft, gd_undef, condS_true, condS_false, one_int, one_ptr, one_str, one_bool, one_map, one_slice, act_box, act_makeMap, agg_cells, Nat.zero_add, Nat.reduceAdd, decide_true, decide_false, Bool.not_true, Bool.not_false, not_true_eq_false, not_false_eq_true, ne_eq, Bool.bne_true, Bool.bne_false, Bool.true_bne, Bool.false_bne, Bool.true_beq, Bool.false_beq, bne_self_eq_false, beq_self_eq_true, Int.reduceLT, Int.reduceLE, Int.reduceEq, Int.reduceNe, fa_27_0, fa_27_1, ld_3, ld_22, ld_27, ld_67, st_3, st_27, st_67, al_3, al_27, al_67, bd_27_, bd_27_0_1, be_4, bn_4, ln_22, ln_35, ln_53, ix_22, ix_35, ix_53, slt_22, bs_22, bs_35, bs2_35, bs2_53, cv_3_51, cv_3_67, cv_5_3, cv_51_3, cv_51_64, cv_64_5, cv_66_5, callF_plain, nw1, nw2, nw3, nw4, nw5, nw6, nw7, nw8, nw9, nw10, nw11, nw12, resL_ptr, cel_alloc_new, cel_alloc_old, siz_lt1, siz_lt2, siz_lt3, siz_lt4, fre_alloc_new, fre_alloc_old, cel_drew, fre_drew, siz_drew, List.getElem?_toArray, List.getElem?_cons_zero, List.getElem?_cons_succ, Option.isSome_some, Option.getD_some, Option.isNone_none, Option.isNone_some, Option.isSome_none, sq_22, se_27, sn_27, bz_22_0, bz_22_1, bz_22_2, bz_22_3, bz_35_1, bz_35_2, bz_53_2, slt0_22, slf0_22, cp_22, stn_3, stn_27, stn_67, hp]
    exact hJ _ _ ⟨Own.nil _ _ _ _, Keep.refl _ _⟩

theorem concat_c {vs va vb : Value} {a b : List Sp} (hs : Rd 1 w vs 2 [va, vb]) (ha : Rd 2 w va a.length (flat encS a)) (hb : Rd 2 w vb b.length (flat encS b)) (hl : a.length + b.length ≤ 400000)
    (hq : ∀ w' v', Own w' (siz w) 27 2 v' (a ++ b).length (flat encS (a ++ b)) → Keep (fun _ => False) w w' → Q v' w') :
    callS Try.prog 28 #[vs] Q w := by
  refine ref28 ?_
  unfold S28
  obtain ⟨g, o, c, rfl, _, hcel⟩ := hs.at (by omega)
  obtain ⟨pa, ca, rfl⟩ := ha.form
  obtain ⟨pb, cb, rfl⟩ := hb.form
  have c0 : cel w g (o + 0) = some (.slice pa a.length ca) := hcel 0 (by omega)
  have c1 : cel w g (o + 1) = some (.slice pb b.length cb) := hcel 1 (by omega)
  simp only [pur_add, pur_sub, pur_mul, pur_eql, pur_neq, pur_lss, pur_leq, pur_gtr, pur_geq, pur_seql, pur_sneq, pur_max, pur_min, pur_nil, pur_pick_t, pur_pick_f, pur_not, pur_pure, pur_ext2_0, pur_ext2_1, pur_ext3_0, pur_ext3_1, pur_ext3_2, pur_ext4_0, pur_ext4_1, pur_ext4_2, pur_ext4_3, gd_hit, gd_tf, gd_ft, gd_undef, condS_true, condS_false, one_int, one_ptr, one_str, one_bool, one_map, one_slice, act_box, act_makeMap, agg_cells, Nat.zero_add, Nat.reduceAdd, decide_true, decide_false, Bool.not_true, Bool.not_false, not_true_eq_false, not_false_eq_true, ne_eq, Bool.bne_true, Bool.bne_false, Bool.true_bne, Bool.false_bne, Bool.true_beq, Bool.false_beq, bne_self_eq_false, beq_self_eq_true, Int.reduceLT, Int.reduceLE, Int.reduceEq, Int.reduceNe, fa_27_0, fa_27_1, ld_3, ld_22, ld_27, ld_67, st_3, st_27, st_67, al_3, al_27, al_67, bd_27_, bd_27_0_1, be_4, bn_4, ln_22, ln_35, ln_53, ix_22, ix_35, ix_53, slt_22, bs_22, bs_35, bs2_35, bs2_53, cv_3_51, cv_3_67, cv_5_3, cv_51_3, cv_51_64, cv_64_5, cv_66_5]
  let tot : Nat → Nat := fun i => if i = 0 then 0 else if i = 1 then a.length else a.length + b.length
  refine lp2 (fun m x y w' => w' = w ∧ ∃ i : Nat, x = .int .i64 ((tot i : Nat) : Int) ∧ y = .int .i64 (i : Int) ∧ i ≤ 2 ∧ m = 2 - i) 2 ⟨rfl, 0, rfl, rfl, by omega, rfl⟩ ?_
  rintro m x y w' ⟨rfl, i, rfl, rfl, hi, rfl⟩ J hJ _
  have hwi := wrap_succ (i := i) (by omega)
  by_cases hlt : i < 2
  · have hlt' : ((i : Int) < ((2 : Nat) : Int)) := by omega
    simp only [pur_add, pur_sub, pur_mul, pur_eql, pur_neq, pur_lss, pur_leq, pur_gtr, pur_geq, pur_seql, pur_sneq, pur_max, pur_min, pur_nil, pur_pick_t, pur_pick_f, pur_not, pur_pure, pur_ext2_0, pur_ext2_1, pur_ext3_0, pur_ext3_1, pur_ext3_2, pur_ext4_0, pur_ext4_1, pur_ext4_2, pur_ext4_3, gd_hit, gd_tf, gd_ft, gd_undef, condS_true, condS_false, one_int, one_ptr, one_str, one_bool, one_map, one_slice, act_box, act_makeMap, agg_cells, Nat.zero_add, Nat.reduceAdd, decide_true, decide_false, Bool.not_true, Bool.not_false, not_true_eq_false, not_false_eq_true, ne_eq, Bool.bne_true, Bool.bne_false, Bool.true_bne, Bool.false_bne, Bool.true_beq, Bool.false_beq, bne_self_eq_false, beq_self_eq_true, Int.reduceLT, Int.reduceLE, Int.reduceEq, Int.reduceNe, fa_27_0, fa_27_1, ld_3, ld_22, ld_27, ld_67, st_3, st_27, st_67, al_3, al_27, al_67, bd_27_, bd_27_0_1, be_4, bn_4, ln_22, ln_35, ln_53, ix_22, ix_35, ix_53, slt_22, bs_22, bs_35, bs2_35, bs2_53, cv_3_51, cv_3_67, cv_5_3, cv_51_3, cv_51_64, cv_64_5, cv_66_5, hlt']
    refine jn1 (fun x w'' => w'' = w' ∧ x = .int .i64 ((tot (i + 1) : Nat) : Int)) (fun J' hJ' => ?_) ?_
    · rw [ix_53 hlt]
      have : i = 0 ∨ i = 1 := by omega
      rcases this with rfl | rfl
      · have e1 : IntKind.i64.wrap (((tot 0 : Nat) : Int) + (a.length : Int)) = ((tot 1 : Nat) : Int) := by
          have t0 : tot 0 = 0 := rfl
          have t1 : tot 1 = a.length := rfl
          have t2 : tot 2 = a.length + b.length := rfl
          rw [wrap_id (by omega) (by omega)]; omega
        have e2 : ¬ (((tot 1 : Nat) : Int) < 0) := by omega
        simp only [pur_add, pur_sub, pur_mul, pur_eql, pur_neq, pur_lss, pur_leq, pur_gtr, pur_geq, pur_seql, pur_sneq, pur_max, pur_min, pur_nil, pur_pick_t, pur_pick_f, pur_not, pur_pure, pur_ext2_0, pur_ext2_1, pur_ext3_0, pur_ext3_1, pur_ext3_2, pur_ext4_0, pur_ext4_1, pur_ext4_2, pur_ext4_3, gd_hit, gd_tf, gd_ft, gd_undef, condS_true, condS_false, one_int, one_ptr, one_str, one_bool, one_map, one_slice, act_box, act_makeMap, agg_cells, Nat.zero_add, Nat.reduceAdd, decide_true, decide_false, Bool.not_true, Bool.not_false, not_true_eq_false, not_false_eq_true, ne_eq, Bool.bne_true, Bool.bne_false, Bool.true_bne, Bool.false_bne, Bool.true_beq, Bool.false_beq, bne_self_eq_false, beq_self_eq_true, Int.reduceLT, Int.reduceLE, Int.reduceEq, Int.reduceNe, fa_27_0, fa_27_1, ld_3, ld_22, ld_27, ld_67, st_3, st_27, st_67, al_3, al_27, al_67, bd_27_, bd_27_0_1, be_4, bn_4, ln_22, ln_35, ln_53, ix_22, ix_35, ix_53, slt_22, bs_22, bs_35, bs2_35, bs2_53, cv_3_51, cv_3_67, cv_5_3, cv_51_3, cv_51_64, cv_64_5, cv_66_5, c0, Option.isSome_some, Option.getD_some, e1, e2]
        exact hJ' _ _ ⟨rfl, rfl⟩
      · have e1 : IntKind.i64.wrap (((tot 1 : Nat) : Int) + (b.length : Int)) = ((tot 2 : Nat) : Int) := by
          have t0 : tot 0 = 0 := rfl
          have t1 : tot 1 = a.length := rfl
          have t2 : tot 2 = a.length + b.length := rfl
          rw [wrap_id (by omega) (by omega)]; omega
        have e2 : ¬ (((tot 2 : Nat) : Int) < 0) := by omega
        simp only [pur_add, pur_sub, pur_mul, pur_eql, pur_neq, pur_lss, pur_leq, pur_gtr, pur_geq, pur_seql, pur_sneq, pur_max, pur_min, pur_nil, pur_pick_t, pur_pick_f, pur_not, pur_pure, pur_ext2_0, pur_ext2_1, pur_ext3_0, pur_ext3_1, pur_ext3_2, pur_ext4_0, pur_ext4_1, pur_ext4_2, pur_ext4_3, gd_hit, gd_tf, gd_ft, gd_undef, condS_true, condS_false, one_int, one_ptr, one_str, one_bool, one_map, one_slice, act_box, act_makeMap, agg_cells, Nat.zero_add, Nat.reduceAdd, decide_true, decide_false, Bool.not_true, Bool.not_false, not_true_eq_false, not_false_eq_true, ne_eq, Bool.bne_true, Bool.bne_false, Bool.true_bne, Bool.false_bne, Bool.true_beq, Bool.false_beq, bne_self_eq_false, beq_self_eq_true, Int.reduceLT, Int.reduceLE, Int.reduceEq, Int.reduceNe, fa_27_0, fa_27_1, ld_3, ld_22, ld_27, ld_67, st_3, st_27, st_67, al_3, al_27, al_67, bd_27_, bd_27_0_1, be_4, bn_4, ln_22, ln_35, ln_53, ix_22, ix_35, ix_53, slt_22, bs_22, bs_35, bs2_35, bs2_53, cv_3_51, cv_3_67, cv_5_3, cv_51_3, cv_51_64, cv_64_5, cv_66_5, c1, Option.isSome_some, Option.getD_some, e1, e2]
        exact hJ' _ _ ⟨rfl, rfl⟩
    · rintro x w'' ⟨rfl, rfl⟩ _
      simp only [pur_add, pur_sub, pur_mul, pur_eql, pur_neq, pur_lss, pur_leq, pur_gtr, pur_geq, pur_seql, pur_sneq, pur_max, pur_min, pur_nil, pur_pick_t, pur_pick_f, pur_not, pur_pure, pur_ext2_0, pur_ext2_1, pur_ext3_0, pur_ext3_1, pur_ext3_2, pur_ext4_0, pur_ext4_1, pur_ext4_2, pur_ext4_3, gd_hit, gd_tf, gd_ft, gd_undef, condS_true, condS_false, one_int, one_ptr, one_str, one_bool, one_map, one_slice, act_box, act_makeMap, agg_cells, Nat.zero_add, Nat.reduceAdd, decide_true, decide_false, Bool.not_true, Bool.not_false, not_true_eq_false, not_false_eq_true, ne_eq, Bool.bne_true, Bool.bne_false, Bool.true_bne, Bool.false_bne, Bool.true_beq, Bool.false_beq, bne_self_eq_false, beq_self_eq_true, Int.reduceLT, Int.reduceLE, Int.reduceEq, Int.reduceNe, fa_27_0, fa_27_1, ld_3, ld_22, ld_27, ld_67, st_3, st_27, st_67, al_3, al_27, al_67, bd_27_, bd_27_0_1, be_4, bn_4, ln_22, ln_35, ln_53, ix_22, ix_35, ix_53, slt_22, bs_22, bs_35, bs2_35, bs2_53, cv_3_51, cv_3_67, cv_5_3, cv_51_3, cv_51_64, cv_64_5, cv_66_5, hwi]
      exact hJ (2 - (i + 1)) _ _ _ (by omega) ⟨rfl, i + 1, rfl, rfl, by omega, rfl⟩
  · have hlt' : ¬ ((i : Int) < ((2 : Nat) : Int)) := by omega
    have hi2 : i = 2 := by omega
    subst hi2
    simp only [pur_add, pur_sub, pur_mul, pur_eql, pur_neq, pur_lss, pur_leq, pur_gtr, pur_geq, pur_seql, pur_sneq, pur_max, pur_min, pur_nil, pur_pick_t, pur_pick_f, pur_not, pur_pure, pur_ext2_0, pur_ext2_1, pur_ext3_0, pur_ext3_1, pur_ext3_2, pur_ext4_0, pur_ext4_1, pur_ext4_2, pur_ext4_3, gd_hit, gd_tf, gd_ft, gd_undef, condS_true, condS_false, one_int, one_ptr, one_str, one_bool, one_map, one_slice, act_box, act_makeMap, agg_cells, Nat.zero_add, Nat.reduceAdd, decide_true, decide_false, Bool.not_true, Bool.not_false, not_true_eq_false, not_false_eq_true, ne_eq, Bool.bne_true, Bool.bne_false, Bool.true_bne, Bool.false_bne, Bool.true_beq, Bool.false_beq, bne_self_eq_false, beq_self_eq_true, Int.reduceLT, Int.reduceLE, Int.reduceEq, Int.reduceNe, fa_27_0, fa_27_1, ld_3, ld_22, ld_27, ld_67, st_3, st_27, st_67, al_3, al_27, al_67, bd_27_, bd_27_0_1, be_4, bn_4, ln_22, ln_35, ln_53, ix_22, ix_35, ix_53, slt_22, bs_22, bs_35, bs2_35, bs2_53, cv_3_51, cv_3_67, cv_5_3, cv_51_3, cv_51_64, cv_64_5, cv_66_5, hlt']
    have et : tot 2 = a.length + b.length := rfl
    rw [et]
    refine grow_c (by omega) fun w1 v1 o1 k1 => ?_
    try simp only [pur_add, pur_sub, pur_mul, pur_eql, pur_neq, pur_lss, pur_leq, pur_gtr, pur_geq, pur_seql, pur_sneq, pur_max, pur_min, pur_nil, pur_pick_t, pur_pick_f, pur_not, pur_pure, pur_ext2_0, pur_ext2_1, pur_ext3_0, pur_ext3_1, pur_ext3_2, pur_ext4_0, pur_ext4_1, pur_ext4_2, pur_ext4_3, gd_hit, gd_tf, gd_ft, gd_undef, condS_true, condS_false, one_int, one_ptr, one_str, one_bool, one_map, one_slice, act_box, act_makeMap, agg_cells, Nat.zero_add, Nat.reduceAdd, decide_true, decide_false, Bool.not_true, Bool.not_false, not_true_eq_false, not_false_eq_true, ne_eq, Bool.bne_true, Bool.bne_false, Bool.true_bne, Bool.false_bne, Bool.true_beq, Bool.false_beq, bne_self_eq_false, beq_self_eq_true, Int.reduceLT, Int.reduceLE, Int.reduceEq, Int.reduceNe, fa_27_0, fa_27_1, ld_3, ld_22, ld_27, ld_67, st_3, st_27, st_67, al_3, al_27, al_67, bd_27_, bd_27_0_1, be_4, bn_4, ln_22, ln_35, ln_53, ix_22, ix_35, ix_53, slt_22, bs_22, bs_35, bs2_35, bs2_53, cv_3_51, cv_3_67, cv_5_3, cv_51_3, cv_51_64, cv_64_5, cv_66_5]
    have s1 := k1.size
    let acc : Nat → List Sp := fun i => if i = 0 then [] else if i = 1 then a else a ++ b
    refine lp2 (fun m x y w2 => Keep (fun _ => False) w' w2 ∧ ∃ i : Nat, y = .int .i64 (i : Int) ∧ i ≤ 2 ∧ m = 2 - i ∧ Own w2 (siz w') 27 2 x (acc i).length (flat encS (acc i))) 2 ⟨k1, 0, rfl, by omega, rfl, o1⟩ ?_
    rintro m x y w2 ⟨k2, i, rfl, hi, rfl, o2⟩ J' hJ' _
    have hwi := wrap_succ (i := i) (by omega)
    have s2 := k2.size
    by_cases hlt : i < 2
    · have hlt' : ((i : Int) < ((2 : Nat) : Int)) := by omega
      simp only [pur_add, pur_sub, pur_mul, pur_eql, pur_neq, pur_lss, pur_leq, pur_gtr, pur_geq, pur_seql, pur_sneq, pur_max, pur_min, pur_nil, pur_pick_t, pur_pick_f, pur_not, pur_pure, pur_ext2_0, pur_ext2_1, pur_ext3_0, pur_ext3_1, pur_ext3_2, pur_ext4_0, pur_ext4_1, pur_ext4_2, pur_ext4_3, gd_hit, gd_tf, gd_ft, gd_undef, condS_true, condS_false, one_int, one_ptr, one_str, one_bool, one_map, one_slice, act_box, act_makeMap, agg_cells, Nat.zero_add, Nat.reduceAdd, decide_true, decide_false, Bool.not_true, Bool.not_false, not_true_eq_false, not_false_eq_true, ne_eq, Bool.bne_true, Bool.bne_false, Bool.true_bne, Bool.false_bne, Bool.true_beq, Bool.false_beq, bne_self_eq_false, beq_self_eq_true, Int.reduceLT, Int.reduceLE, Int.reduceEq, Int.reduceNe, fa_27_0, fa_27_1, ld_3, ld_22, ld_27, ld_67, st_3, st_27, st_67, al_3, al_27, al_67, bd_27_, bd_27_0_1, be_4, bn_4, ln_22, ln_35, ln_53, ix_22, ix_35, ix_53, slt_22, bs_22, bs_35, bs2_35, bs2_53, cv_3_51, cv_3_67, cv_5_3, cv_51_3, cv_51_64, cv_64_5, cv_66_5, hlt']
      rw [ix_53 hlt]
      have app : ∀ {p : Option Addr} {cp : Nat} {l : List Sp}, Rd 2 w' (.slice p l.length cp) l.length (flat encS l) → acc (i + 1) = acc i ++ l → (acc i).length + l.length ≤ 400000 →
          act Try.prog (Builtin.append_ #[22, 22] 22 #[x, .slice p l.length cp]) (fun t33 w_7 => J' t33 (.int .i64 ((i + 1 : Nat) : Int)) w_7) w2 := fun {p cp l} hr he hb => by
        have hr2 := hr.keep0 k2
        have done : ∀ v' w3, Own w3 (siz w') 27 2 v' (acc (i + 1)).length (flat encS (acc (i + 1))) → Keep (fun _ => False) w' w3 → J' v' (.int .i64 ((i + 1 : Nat) : Int)) w3 := fun v' w3 ho hk =>
          hJ' (2 - (i + 1)) _ _ _ (by omega) ⟨hk, i + 1, rfl, by omega, rfl, ho⟩
        rcases Nat.eq_zero_or_pos l.length with h0 | hp
        · have hl0 := List.length_eq_zero_iff.1 h0
          rw [h0, ap0_22 o2]
          refine done _ _ ?_ k2
          rw [he, hl0, List.append_nil]; exact o2
        · obtain ⟨b', o', c', e, _, hc'⟩ := hr2.at hp
          injection e with e1 _ e2
          subst e1 e2
          refine ap_22 o2 hr2.len hc' flatS_one (by omega) (by omega) fun v' w3 ho hg hr => done _ _ ?_ (k2.grown hg fun g hg' => .inr (o2.lt hg').1)
          rw [he, flat_append, List.length_append]; exact ho
      have : i = 0 ∨ i = 1 := by omega
      rcases this with rfl | rfl
      · simp only [pur_add, pur_sub, pur_mul, pur_eql, pur_neq, pur_lss, pur_leq, pur_gtr, pur_geq, pur_seql, pur_sneq, pur_max, pur_min, pur_nil, pur_pick_t, pur_pick_f, pur_not, pur_pure, pur_ext2_0, pur_ext2_1, pur_ext3_0, pur_ext3_1, pur_ext3_2, pur_ext4_0, pur_ext4_1, pur_ext4_2, pur_ext4_3, gd_hit, gd_tf, gd_ft, gd_undef, condS_true, condS_false, one_int, one_ptr, one_str, one_bool, one_map, one_slice, act_box, act_makeMap, agg_cells, Nat.zero_add, Nat.reduceAdd, decide_true, decide_false, Bool.not_true, Bool.not_false, not_true_eq_false, not_false_eq_true, ne_eq, Bool.bne_true, Bool.bne_false, Bool.true_bne, Bool.false_bne, Bool.true_beq, Bool.false_beq, bne_self_eq_false, beq_self_eq_true, Int.reduceLT, Int.reduceLE, Int.reduceEq, Int.reduceNe, fa_27_0, fa_27_1, ld_3, ld_22, ld_27, ld_67, st_3, st_27, st_67, al_3, al_27, al_67, bd_27_, bd_27_0_1, be_4, bn_4, ln_22, ln_35, ln_53, ix_22, ix_35, ix_53, slt_22, bs_22, bs_35, bs2_35, bs2_53, cv_3_51, cv_3_67, cv_5_3, cv_51_3, cv_51_64, cv_64_5, cv_66_5, k2.cel c0 id, Option.isSome_some, Option.getD_some, hwi]
        exact app ha rfl (by simp [acc]; omega)
      · simp only [pur_add, pur_sub, pur_mul, pur_eql, pur_neq, pur_lss, pur_leq, pur_gtr, pur_geq, pur_seql, pur_sneq, pur_max, pur_min, pur_nil, pur_pick_t, pur_pick_f, pur_not, pur_pure, pur_ext2_0, pur_ext2_1, pur_ext3_0, pur_ext3_1, pur_ext3_2, pur_ext4_0, pur_ext4_1, pur_ext4_2, pur_ext4_3, gd_hit, gd_tf, gd_ft, gd_undef, condS_true, condS_false, one_int, one_ptr, one_str, one_bool, one_map, one_slice, act_box, act_makeMap, agg_cells, Nat.zero_add, Nat.reduceAdd, decide_true, decide_false, Bool.not_true, Bool.not_false, not_true_eq_false, not_false_eq_true, ne_eq, Bool.bne_true, Bool.bne_false, Bool.true_bne, Bool.false_bne, Bool.true_beq, Bool.false_beq, bne_self_eq_false, beq_self_eq_true, Int.reduceLT, Int.reduceLE, Int.reduceEq, Int.reduceNe, fa_27_0, fa_27_1, ld_3, ld_22, ld_27, ld_67, st_3, st_27, st_67, al_3, al_27, al_67, bd_27_, bd_27_0_1, be_4, bn_4, ln_22, ln_35, ln_53, ix_22, ix_35, ix_53, slt_22, bs_22, bs_35, bs2_35, bs2_53, cv_3_51, cv_3_67, cv_5_3, cv_51_3, cv_51_64, cv_64_5, cv_66_5, k2.cel c1 id, Option.isSome_some, Option.getD_some, hwi]
        exact app hb rfl (by simp [acc]; omega)
    · have hlt' : ¬ ((i : Int) < ((2 : Nat) : Int)) := by omega
      have hi2 : i = 2 := by omega
      subst hi2
      simp only [pur_add, pur_sub, pur_mul, pur_eql, pur_neq, pur_lss, pur_leq, pur_gtr, pur_geq, pur_seql, pur_sneq, pur_max, pur_min, pur_nil, pur_pick_t, pur_pick_f, pur_not, pur_pure, pur_ext2_0, pur_ext2_1, pur_ext3_0, pur_ext3_1, pur_ext3_2, pur_ext4_0, pur_ext4_1, pur_ext4_2, pur_ext4_3, gd_hit, gd_tf, gd_ft, gd_undef, condS_true, condS_false, one_int, one_ptr, one_str, one_bool, one_map, one_slice, act_box, act_makeMap, agg_cells, Nat.zero_add, Nat.reduceAdd, decide_true, decide_false, Bool.not_true, Bool.not_false, not_true_eq_false, not_false_eq_true, ne_eq, Bool.bne_true, Bool.bne_false, Bool.true_bne, Bool.false_bne, Bool.true_beq, Bool.false_beq, bne_self_eq_false, beq_self_eq_true, Int.reduceLT, Int.reduceLE, Int.reduceEq, Int.reduceNe, fa_27_0, fa_27_1, ld_3, ld_22, ld_27, ld_67, st_3, st_27, st_67, al_3, al_27, al_67, bd_27_, bd_27_0_1, be_4, bn_4, ln_22, ln_35, ln_53, ix_22, ix_35, ix_53, slt_22, bs_22, bs_35, bs2_35, bs2_53, cv_3_51, cv_3_67, cv_5_3, cv_51_3, cv_51_64, cv_64_5, cv_66_5, hlt']
      exact hq _ _ o2 k2

theorem join_c {va vb : Value} {a b : List Sp} (ha : Rd 2 w va a.length (flat encS a)) (hb : Rd 2 w vb b.length (flat encS b)) (hl : a.length + b.length ≤ 400000)
    (hq : ∀ w' v' out, Nrm out → (∀ y, memB out y ↔ memB a y ∨ memB b y) → out.length ≤ a.length + b.length → Own w' (siz w) 27 2 v' out.length (flat encS out) → Keep (fun _ => False) w w' → Q v' w') :
    callS Try.prog 15 #[va, vb] Q w := by
  refine ref15 ?_
  unfold S15
  obtain ⟨pa, ca, rfl⟩ := ha.form
  obtain ⟨pb, cb, rfl⟩ := hb.form
  simp only [pur_add, pur_sub, pur_mul, pur_eql, pur_neq, pur_lss, pur_leq, pur_gtr, pur_geq, pur_seql, pur_sneq, pur_max, pur_min, pur_nil, pur_pick_t, pur_pick_f, pur_not, pur_pure, pur_ext2_0, pur_ext2_1, pur_ext3_0, pur_ext3_1, pur_ext3_2, pur_ext4_0, pur_ext4_1, pur_ext4_2, pur_ext4_3, gd_hit, gd_tf, gd_ft, gd_undef, condS_true, condS_false, one_int, one_ptr, one_str, one_bool, one_map, one_slice, act_box, act_makeMap, agg_cells, Nat.zero_add, Nat.reduceAdd, decide_true, decide_false, Bool.not_true, Bool.not_false, not_true_eq_false, not_false_eq_true, ne_eq, Bool.bne_true, Bool.bne_false, Bool.true_bne, Bool.false_bne, Bool.true_beq, Bool.false_beq, bne_self_eq_false, beq_self_eq_true, Int.reduceLT, Int.reduceLE, Int.reduceEq, Int.reduceNe, fa_27_0, fa_27_1, ld_3, ld_22, ld_27, ld_67, st_3, st_27, st_67, al_3, al_27, al_67, bd_27_, bd_27_0_1, be_4, bn_4, ln_22, ln_35, ln_53, ix_22, ix_35, ix_53, slt_22, bs_22, bs_35, bs2_35, bs2_53, cv_3_51, cv_3_67, cv_5_3, cv_51_3, cv_51_64, cv_64_5, cv_66_5, callF_plain, nw1, nw2, nw3, nw4, nw5, nw6, nw7, nw8, nw9, nw10, nw11, nw12, resL_ptr, cel_alloc_new, cel_alloc_old, siz_lt1, siz_lt2, siz_lt3, siz_lt4, fre_alloc_new, fre_alloc_old, cel_drew, fre_drew, siz_drew, List.getElem?_toArray, List.getElem?_cons_zero, List.getElem?_cons_succ, Option.isSome_some, Option.getD_some, Option.isNone_none, Option.isNone_some, Option.isSome_none, sq_22, se_27, sn_27, bz_22_0, bz_22_1, bz_22_2, bz_22_3, bz_35_1, bz_35_2, bz_53_2, slt0_22, slf0_22, cp_22, stn_3, stn_27, stn_67]
  have k1 := (Keep.refl (fun _ => False) w).alloc (.cells #[.slice pa a.length ca, .slice pb b.length cb] 22)
  have r1 : Rd 1 (w.alloc (.cells #[.slice pa a.length ca, .slice pb b.length cb] 22)) (.slice (some ⟨siz w, 0, none⟩) 2 2) 2 [.slice pa a.length ca, .slice pb b.length cb] :=
    ⟨rfl, .inr ⟨siz w, 0, 2, rfl, by omega, fun j hj => by rw [Nat.zero_add, cel_alloc_new, List.getElem?_toArray]⟩⟩
  generalize w.alloc (.cells #[.slice pa a.length ca, .slice pb b.length cb] 22) = w1 at k1 r1
  have s1 := k1.size
  refine concat_c r1 (ha.keep0 k1) (hb.keep0 k1) hl fun w2 v2 o2 k2 => ?_
  have s2 := k2.size
  have hab : (a ++ b).length = a.length + b.length := List.length_append
  refine norm_c o2.rd (by omega) fun w3 v3 O hn hlO o3 k3 => ?_
  have := List.length_filter_le (fun s => decide (ok s)) (a ++ b)
  exact hq _ _ O hn.1 (fun y => by rw [hn.2, memB_append]) (by omega) (o3.le (by omega)) ((k1.trans k2).trans k3)

theorem hasl_c {v : Value} {l : List Sp} {x : Int} (h : Rd 2 w v l.length (flat encS l)) (hl : l.length ≤ 1000000) (hq : ∀ w', Keep (fun _ => False) w w' → Q (.bool (decide (memB l x))) w') :
    callS Try.prog 18 #[v, .int .i64 x] Q w := by
  refine ref18 ?_
  unfold S18
  obtain ⟨a, c, rfl⟩ := h.form
  refine lp1 (fun m y w' => Keep (fun _ => False) w w' ∧ ∃ i : Nat, y = .int .i64 (i : Int) ∧ i ≤ l.length ∧ m = l.length - i ∧ ¬ memB (l.take i) x) l.length ⟨Keep.refl _ _, 0, rfl, Nat.zero_le _, by omega, by simp [memB]⟩ ?_
  rintro m y w' ⟨k, i, rfl, hi, rfl, hno⟩ J hJ _
  simp only [pur_add, pur_sub, pur_mul, pur_eql, pur_neq, pur_lss, pur_leq, pur_gtr, pur_geq, pur_seql, pur_sneq, pur_max, pur_min, pur_nil, pur_pick_t, pur_pick_f, pur_not, pur_pure, pur_ext2_0, pur_ext2_1, pur_ext3_0, pur_ext3_1, pur_ext3_2, pur_ext4_0, pur_ext4_1, pur_ext4_2, pur_ext4_3, gd_hit, gd_tf, gd_ft, gd_undef, condS_true, condS_false, one_int, one_ptr, one_str, one_bool, one_map, one_slice, act_box, act_makeMap, agg_cells, Nat.zero_add, Nat.reduceAdd, decide_true, decide_false, Bool.not_true, Bool.not_false, not_true_eq_false, not_false_eq_true, ne_eq, Bool.bne_true, Bool.bne_false, Bool.true_bne, Bool.false_bne, Bool.true_beq, Bool.false_beq, bne_self_eq_false, beq_self_eq_true, Int.reduceLT, Int.reduceLE, Int.reduceEq, Int.reduceNe, fa_27_0, fa_27_1, ld_3, ld_22, ld_27, ld_67, st_3, st_27, st_67, al_3, al_27, al_67, bd_27_, bd_27_0_1, be_4, bn_4, ln_22, ln_35, ln_53, ix_22, ix_35, ix_53, slt_22, bs_22, bs_35, bs2_35, bs2_53, cv_3_51, cv_3_67, cv_5_3, cv_51_3, cv_51_64, cv_64_5, cv_66_5]
  by_cases hlt : i < l.length
  · have hlt' : ((i : Int) < (l.length : Int)) := by omega
    have hs : l[i]? = some l[i] := List.getElem?_eq_getElem hlt
    obtain ⟨b, o, c', e, _, hcel⟩ := (h.keep0 k).at (by omega)
    injection e with e1 _ e2
    subst e1 e2
    obtain ⟨c0, c1⟩ := spans_at hcel hs
    have hwi := wrap_succ (i := i) (by omega)
    simp only [pur_add, pur_sub, pur_mul, pur_eql, pur_neq, pur_lss, pur_leq, pur_gtr, pur_geq, pur_seql, pur_sneq, pur_max, pur_min, pur_nil, pur_pick_t, pur_pick_f, pur_not, pur_pure, pur_ext2_0, pur_ext2_1, pur_ext3_0, pur_ext3_1, pur_ext3_2, pur_ext4_0, pur_ext4_1, pur_ext4_2, pur_ext4_3, gd_hit, gd_tf, gd_ft, gd_undef, condS_true, condS_false, one_int, one_ptr, one_str, one_bool, one_map, one_slice, act_box, act_makeMap, agg_cells, Nat.zero_add, Nat.reduceAdd, decide_true, decide_false, Bool.not_true, Bool.not_false, not_true_eq_false, not_false_eq_true, ne_eq, Bool.bne_true, Bool.bne_false, Bool.true_bne, Bool.false_bne, Bool.true_beq, Bool.false_beq, bne_self_eq_false, beq_self_eq_true, Int.reduceLT, Int.reduceLE, Int.reduceEq, Int.reduceNe, fa_27_0, fa_27_1, ld_3, ld_22, ld_27, ld_67, st_3, st_27, st_67, al_3, al_27, al_67, bd_27_, bd_27_0_1, be_4, bn_4, ln_22, ln_35, ln_53, ix_22, ix_35, ix_53, slt_22, bs_22, bs_35, bs2_35, bs2_53, cv_3_51, cv_3_67, cv_5_3, cv_51_3, cv_51_64, cv_64_5, cv_66_5, hlt']
    rw [ix_22 hlt]
    simp only [pur_add, pur_sub, pur_mul, pur_eql, pur_neq, pur_lss, pur_leq, pur_gtr, pur_geq, pur_seql, pur_sneq, pur_max, pur_min, pur_nil, pur_pick_t, pur_pick_f, pur_not, pur_pure, pur_ext2_0, pur_ext2_1, pur_ext3_0, pur_ext3_1, pur_ext3_2, pur_ext4_0, pur_ext4_1, pur_ext4_2, pur_ext4_3, gd_hit, gd_tf, gd_ft, gd_undef, condS_true, condS_false, one_int, one_ptr, one_str, one_bool, one_map, one_slice, act_box, act_makeMap, agg_cells, Nat.zero_add, Nat.reduceAdd, decide_true, decide_false, Bool.not_true, Bool.not_false, not_true_eq_false, not_false_eq_true, ne_eq, Bool.bne_true, Bool.bne_false, Bool.true_bne, Bool.false_bne, Bool.true_beq, Bool.false_beq, bne_self_eq_false, beq_self_eq_true, Int.reduceLT, Int.reduceLE, Int.reduceEq, Int.reduceNe, fa_27_0, fa_27_1, ld_3, ld_22, ld_27, ld_67, st_3, st_27, st_67, al_3, al_27, al_67, bd_27_, bd_27_0_1, be_4, bn_4, ln_22, ln_35, ln_53, ix_22, ix_35, ix_53, slt_22, bs_22, bs_35, bs2_35, bs2_53, cv_3_51, cv_3_67, cv_5_3, cv_51_3, cv_51_64, cv_64_5, cv_66_5, callF_plain, nw1, nw2, nw3, nw4, nw5, nw6, nw7, nw8, nw9, nw10, nw11, nw12, resL_ptr, cel_alloc_new, cel_alloc_old, siz_lt1, siz_lt2, siz_lt3, siz_lt4, fre_alloc_new, fre_alloc_old, cel_drew, fre_drew, siz_drew, List.getElem?_toArray, List.getElem?_cons_zero, List.getElem?_cons_succ, Option.isSome_some, Option.getD_some, Option.isNone_none, Option.isNone_some, Option.isSome_none, sq_22, se_27, sn_27, bz_22_0, bz_22_1, bz_22_2, bz_22_3, bz_35_1, bz_35_2, bz_53_2, slt0_22, slf0_22, cp_22, stn_3, stn_27, stn_67, c0, c1]
    refine has_c fun w2 g2 => ?_
    by_cases hin : hasB (l[i].1, l[i].2) x
    · simp only [pur_add, pur_sub, pur_mul, pur_eql, pur_neq, pur_lss, pur_leq, pur_gtr, pur_geq, pur_seql, pur_sneq, pur_max, pur_min, pur_nil, pur_pick_t, pur_pick_f, pur_not, pur_pure, pur_ext2_0, pur_ext2_1, pur_ext3_0, pur_ext3_1, pur_ext3_2, pur_ext4_0, pur_ext4_1, pur_ext4_2, pur_ext4_3, gd_hit, gd_tf, gd_ft, gd_undef, condS_true, condS_false, one_int, one_ptr, one_str, one_bool, one_map, one_slice, act_box, act_makeMap, agg_cells, Nat.zero_add, Nat.reduceAdd, decide_true, decide_false, Bool.not_true, Bool.not_false, not_true_eq_false, not_false_eq_true, ne_eq, Bool.bne_true, Bool.bne_false, Bool.true_bne, Bool.false_bne, Bool.true_beq, Bool.false_beq, bne_self_eq_false, beq_self_eq_true, Int.reduceLT, Int.reduceLE, Int.reduceEq, Int.reduceNe, fa_27_0, fa_27_1, ld_3, ld_22, ld_27, ld_67, st_3, st_27, st_67, al_3, al_27, al_67, bd_27_, bd_27_0_1, be_4, bn_4, ln_22, ln_35, ln_53, ix_22, ix_35, ix_53, slt_22, bs_22, bs_35, bs2_35, bs2_53, cv_3_51, cv_3_67, cv_5_3, cv_51_3, cv_51_64, cv_64_5, cv_66_5, hin]
      have := hq _ (k.trans g2.1)
      rwa [decide_eq_true (show memB l x from ⟨l[i], List.getElem_mem hlt, hin⟩)] at this
    · simp only [pur_add, pur_sub, pur_mul, pur_eql, pur_neq, pur_lss, pur_leq, pur_gtr, pur_geq, pur_seql, pur_sneq, pur_max, pur_min, pur_nil, pur_pick_t, pur_pick_f, pur_not, pur_pure, pur_ext2_0, pur_ext2_1, pur_ext3_0, pur_ext3_1, pur_ext3_2, pur_ext4_0, pur_ext4_1, pur_ext4_2, pur_ext4_3, gd_hit, gd_tf, gd_ft, gd_undef, condS_true, condS_false, one_int, one_ptr, one_str, one_bool, one_map, one_slice, act_box, act_makeMap, agg_cells, Nat.zero_add, Nat.reduceAdd, decide_true, decide_false, Bool.not_true, Bool.not_false, not_true_eq_false, not_false_eq_true, ne_eq, Bool.bne_true, Bool.bne_false, Bool.true_bne, Bool.false_bne, Bool.true_beq, Bool.false_beq, bne_self_eq_false, beq_self_eq_true, Int.reduceLT, Int.reduceLE, Int.reduceEq, Int.reduceNe, fa_27_0, fa_27_1, ld_3, ld_22, ld_27, ld_67, st_3, st_27, st_67, al_3, al_27, al_67, bd_27_, bd_27_0_1, be_4, bn_4, ln_22, ln_35, ln_53, ix_22, ix_35, ix_53, slt_22, bs_22, bs_35, bs2_35, bs2_53, cv_3_51, cv_3_67, cv_5_3, cv_51_3, cv_51_64, cv_64_5, cv_66_5, hin, hwi]
      exact hJ (l.length - (i + 1)) _ _ (by omega) ⟨k.trans g2.1, i + 1, rfl, by omega, rfl, fun h5 => ((memB_take hs).1 h5).elim hno hin⟩
  · have hlt' : ¬ ((i : Int) < (l.length : Int)) := by omega
    simp only [pur_add, pur_sub, pur_mul, pur_eql, pur_neq, pur_lss, pur_leq, pur_gtr, pur_geq, pur_seql, pur_sneq, pur_max, pur_min, pur_nil, pur_pick_t, pur_pick_f, pur_not, pur_pure, pur_ext2_0, pur_ext2_1, pur_ext3_0, pur_ext3_1, pur_ext3_2, pur_ext4_0, pur_ext4_1, pur_ext4_2, pur_ext4_3, gd_hit, gd_tf, gd_ft, gd_undef, condS_true, condS_false, one_int, one_ptr, one_str, one_bool, one_map, one_slice, act_box, act_makeMap, agg_cells, Nat.zero_add, Nat.reduceAdd, decide_true, decide_false, Bool.not_true, Bool.not_false, not_true_eq_false, not_false_eq_true, ne_eq, Bool.bne_true, Bool.bne_false, Bool.true_bne, Bool.false_bne, Bool.true_beq, Bool.false_beq, bne_self_eq_false, beq_self_eq_true, Int.reduceLT, Int.reduceLE, Int.reduceEq, Int.reduceNe, fa_27_0, fa_27_1, ld_3, ld_22, ld_27, ld_67, st_3, st_27, st_67, al_3, al_27, al_67, bd_27_, bd_27_0_1, be_4, bn_4, ln_22, ln_35, ln_53, ix_22, ix_35, ix_53, slt_22, bs_22, bs_35, bs2_35, bs2_53, cv_3_51, cv_3_67, cv_5_3, cv_51_3, cv_51_64, cv_64_5, cv_66_5, hlt']
    rw [List.take_of_length_le (by omega)] at hno
    have := hq _ k
    rwa [decide_eq_false hno] at this

theorem joins_c {va vb vc : Value} {a b c : List Sp} {x : Int} (ha : Rd 2 w va a.length (flat encS a)) (hb : Rd 2 w vb b.length (flat encS b)) (hc : Rd 2 w vc c.length (flat encS c)) (hq : ∀ w', Keep (fun _ => False) w w' → Q (.bool true) w') :
    callS Try.prog 6 #[va, vb, vc, .int .i64 x] Q w := by
  refine ref6 ?_
  unfold S6
  have go : ∀ {P : Prop}, (a.length ≤ 30 → b.length ≤ 30 → c.length ≤ 30 → P) → (¬ (a.length ≤ 30 ∧ b.length ≤ 30 ∧ c.length ≤ 30) → P) → P := fun h1 h2 => by
    by_cases h : a.length ≤ 30 ∧ b.length ≤ 30 ∧ c.length ≤ 30
    · exact h1 h.1 h.2.1 h.2.2
    · exact h2 h
  refine go (fun la lb lc => ?_) (fun hbig => ?_)
  · have ga : ¬ ((30 : Int) < (a.length : Int)) := by omega
    have gb : ¬ ((30 : Int) < (b.length : Int)) := by omega
    have gc : ¬ ((30 : Int) < (c.length : Int)) := by omega
    obtain ⟨pa, ca, ea⟩ := ha.form
    obtain ⟨pb, cb, eb⟩ := hb.form
    obtain ⟨pc, cc, ec⟩ := hc.form
    rw [ea, eb, ec]
    simp only [pur_add, pur_sub, pur_mul, pur_eql, pur_neq, pur_lss, pur_leq, pur_gtr, pur_geq, pur_seql, pur_sneq, pur_max, pur_min, pur_nil, pur_pick_t, pur_pick_f, pur_not, pur_pure, pur_ext2_0, pur_ext2_1, pur_ext3_0, pur_ext3_1, pur_ext3_2, pur_ext4_0, pur_ext4_1, pur_ext4_2, pur_ext4_3, gd_hit, gd_tf, gd_ft, gd_undef, condS_true, condS_false, one_int, one_ptr, one_str, one_bool, one_map, one_slice, act_box, act_makeMap, agg_cells, Nat.zero_add, Nat.reduceAdd, decide_true, decide_false, Bool.not_true, Bool.not_false, not_true_eq_false, not_false_eq_true, ne_eq, Bool.bne_true, Bool.bne_false, Bool.true_bne, Bool.false_bne, Bool.true_beq, Bool.false_beq, bne_self_eq_false, beq_self_eq_true, Int.reduceLT, Int.reduceLE, Int.reduceEq, Int.reduceNe, fa_27_0, fa_27_1, ld_3, ld_22, ld_27, ld_67, st_3, st_27, st_67, al_3, al_27, al_67, bd_27_, bd_27_0_1, be_4, bn_4, ln_22, ln_35, ln_53, ix_22, ix_35, ix_53, slt_22, bs_22, bs_35, bs2_35, bs2_53, cv_3_51, cv_3_67, cv_5_3, cv_51_3, cv_51_64, cv_64_5, cv_66_5, ga, gb, gc]
    rw [← ea, ← eb, ← ec]
    refine join_c ha hb (by omega) fun w1 vj Jn nJ mJ lJ oJ k1 => ?_
    refine both_c (ha.keep0 k1) (hb.keep0 k1) (by omega) fun w2 vm M nM mM lM oM k2 => ?_
    have k02 := k1.trans k2
    refine join_c (hb.keep0 k02) (ha.keep0 k02) (by omega) fun w3 v3 J3 n3 m3 l3 o3 k3 => ?_
    have e3 : Jn = J3 := nrm_unique _ _ nJ n3 fun y => by rw [mJ, m3, or_comm]
    have k03 := k02.trans k3
    refine sames_c ((oJ.keep (k2.trans k3) fun _ _ => id).rd) o3.rd (by omega) fun w4 k4 => ?_
    have k04 := k03.trans k4
    simp only [pur_add, pur_sub, pur_mul, pur_eql, pur_neq, pur_lss, pur_leq, pur_gtr, pur_geq, pur_seql, pur_sneq, pur_max, pur_min, pur_nil, pur_pick_t, pur_pick_f, pur_not, pur_pure, pur_ext2_0, pur_ext2_1, pur_ext3_0, pur_ext3_1, pur_ext3_2, pur_ext4_0, pur_ext4_1, pur_ext4_2, pur_ext4_3, gd_hit, gd_tf, gd_ft, gd_undef, condS_true, condS_false, one_int, one_ptr, one_str, one_bool, one_map, one_slice, act_box, act_makeMap, agg_cells, Nat.zero_add, Nat.reduceAdd, decide_true, decide_false, Bool.not_true, Bool.not_false, not_true_eq_false, not_false_eq_true, ne_eq, Bool.bne_true, Bool.bne_false, Bool.true_bne, Bool.false_bne, Bool.true_beq, Bool.false_beq, bne_self_eq_false, beq_self_eq_true, Int.reduceLT, Int.reduceLE, Int.reduceEq, Int.reduceNe, fa_27_0, fa_27_1, ld_3, ld_22, ld_27, ld_67, st_3, st_27, st_67, al_3, al_27, al_67, bd_27_, bd_27_0_1, be_4, bn_4, ln_22, ln_35, ln_53, ix_22, ix_35, ix_53, slt_22, bs_22, bs_35, bs2_35, bs2_53, cv_3_51, cv_3_67, cv_5_3, cv_51_3, cv_51_64, cv_64_5, cv_66_5, e3]
    refine both_c (hb.keep0 k04) (ha.keep0 k04) (by omega) fun w5 v5 M5 n5 m5 l5 o5 k5 => ?_
    have e5 : M = M5 := nrm_unique _ _ nM n5 fun y => by rw [mM, m5, and_comm]
    have k05 := k04.trans k5
    have oM5 := oM.keep ((k3.trans k4).trans k5) fun _ _ => id
    refine sames_c oM5.rd o5.rd (by omega) fun w6 k6 => ?_
    have k06 := k05.trans k6
    simp only [pur_add, pur_sub, pur_mul, pur_eql, pur_neq, pur_lss, pur_leq, pur_gtr, pur_geq, pur_seql, pur_sneq, pur_max, pur_min, pur_nil, pur_pick_t, pur_pick_f, pur_not, pur_pure, pur_ext2_0, pur_ext2_1, pur_ext3_0, pur_ext3_1, pur_ext3_2, pur_ext4_0, pur_ext4_1, pur_ext4_2, pur_ext4_3, gd_hit, gd_tf, gd_ft, gd_undef, condS_true, condS_false, one_int, one_ptr, one_str, one_bool, one_map, one_slice, act_box, act_makeMap, agg_cells, Nat.zero_add, Nat.reduceAdd, decide_true, decide_false, Bool.not_true, Bool.not_false, not_true_eq_false, not_false_eq_true, ne_eq, Bool.bne_true, Bool.bne_false, Bool.true_bne, Bool.false_bne, Bool.true_beq, Bool.false_beq, bne_self_eq_false, beq_self_eq_true, Int.reduceLT, Int.reduceLE, Int.reduceEq, Int.reduceNe, fa_27_0, fa_27_1, ld_3, ld_22, ld_27, ld_67, st_3, st_27, st_67, al_3, al_27, al_67, bd_27_, bd_27_0_1, be_4, bn_4, ln_22, ln_35, ln_53, ix_22, ix_35, ix_53, slt_22, bs_22, bs_35, bs2_35, bs2_53, cv_3_51, cv_3_67, cv_5_3, cv_51_3, cv_51_64, cv_64_5, cv_66_5, e5]
    have oJ6 := oJ.keep ((((k2.trans k3).trans k4).trans k5).trans k6) fun _ _ => id
    refine join_c oJ6.rd (hc.keep0 k06) (by omega) fun w7 v7 J7 n7 m7 l7 o7 k7 => ?_
    have k07 := k06.trans k7
    refine join_c (hb.keep0 k07) (hc.keep0 k07) (by omega) fun w8 v8 J8 n8 m8 l8 o8 k8 => ?_
    have k08 := k07.trans k8
    refine join_c (ha.keep0 k08) o8.rd (by omega) fun w9 v9 J9 n9 m9 l9 o9 k9 => ?_
    have k09 := k08.trans k9
    have e9 : J7 = J9 := nrm_unique _ _ n7 n9 fun y => by rw [m7, m9, m8, mJ, or_assoc]
    refine sames_c ((o7.keep (k8.trans k9) fun _ _ => id).rd) o9.rd (by omega) fun w10 k10 => ?_
    have k010 := k09.trans k10
    simp only [pur_add, pur_sub, pur_mul, pur_eql, pur_neq, pur_lss, pur_leq, pur_gtr, pur_geq, pur_seql, pur_sneq, pur_max, pur_min, pur_nil, pur_pick_t, pur_pick_f, pur_not, pur_pure, pur_ext2_0, pur_ext2_1, pur_ext3_0, pur_ext3_1, pur_ext3_2, pur_ext4_0, pur_ext4_1, pur_ext4_2, pur_ext4_3, gd_hit, gd_tf, gd_ft, gd_undef, condS_true, condS_false, one_int, one_ptr, one_str, one_bool, one_map, one_slice, act_box, act_makeMap, agg_cells, Nat.zero_add, Nat.reduceAdd, decide_true, decide_false, Bool.not_true, Bool.not_false, not_true_eq_false, not_false_eq_true, ne_eq, Bool.bne_true, Bool.bne_false, Bool.true_bne, Bool.false_bne, Bool.true_beq, Bool.false_beq, bne_self_eq_false, beq_self_eq_true, Int.reduceLT, Int.reduceLE, Int.reduceEq, Int.reduceNe, fa_27_0, fa_27_1, ld_3, ld_22, ld_27, ld_67, st_3, st_27, st_67, al_3, al_27, al_67, bd_27_, bd_27_0_1, be_4, bn_4, ln_22, ln_35, ln_53, ix_22, ix_35, ix_53, slt_22, bs_22, bs_35, bs2_35, bs2_53, cv_3_51, cv_3_67, cv_5_3, cv_51_3, cv_51_64, cv_64_5, cv_66_5, e9]
    have oM10 := oM5.keep ((((k6.trans k7).trans k8).trans k9).trans k10) fun _ _ => id
    refine both_c oM10.rd (hc.keep0 k010) (by omega) fun w11 v11 M11 n11 m11 l11 o11 k11 => ?_
    have k011 := k010.trans k11
    refine both_c (hb.keep0 k011) (hc.keep0 k011) (by omega) fun w12 v12 M12 n12 m12 l12 o12 k12 => ?_
    have k012 := k011.trans k12
    refine both_c (ha.keep0 k012) o12.rd (by omega) fun w13 v13 M13 n13 m13 l13 o13 k13 => ?_
    have k013 := k012.trans k13
    have e13 : M11 = M13 := nrm_unique _ _ n11 n13 fun y => by rw [m11, m13, m12, mM, and_assoc]
    refine sames_c ((o11.keep (k12.trans k13) fun _ _ => id).rd) o13.rd (by omega) fun w14 k14 => ?_
    have k014 := k013.trans k14
    simp only [pur_add, pur_sub, pur_mul, pur_eql, pur_neq, pur_lss, pur_leq, pur_gtr, pur_geq, pur_seql, pur_sneq, pur_max, pur_min, pur_nil, pur_pick_t, pur_pick_f, pur_not, pur_pure, pur_ext2_0, pur_ext2_1, pur_ext3_0, pur_ext3_1, pur_ext3_2, pur_ext4_0, pur_ext4_1, pur_ext4_2, pur_ext4_3, gd_hit, gd_tf, gd_ft, gd_undef, condS_true, condS_false, one_int, one_ptr, one_str, one_bool, one_map, one_slice, act_box, act_makeMap, agg_cells, Nat.zero_add, Nat.reduceAdd, decide_true, decide_false, Bool.not_true, Bool.not_false, not_true_eq_false, not_false_eq_true, ne_eq, Bool.bne_true, Bool.bne_false, Bool.true_bne, Bool.false_bne, Bool.true_beq, Bool.false_beq, bne_self_eq_false, beq_self_eq_true, Int.reduceLT, Int.reduceLE, Int.reduceEq, Int.reduceNe, fa_27_0, fa_27_1, ld_3, ld_22, ld_27, ld_67, st_3, st_27, st_67, al_3, al_27, al_67, bd_27_, bd_27_0_1, be_4, bn_4, ln_22, ln_35, ln_53, ix_22, ix_35, ix_53, slt_22, bs_22, bs_35, bs2_35, bs2_53, cv_3_51, cv_3_67, cv_5_3, cv_51_3, cv_51_64, cv_64_5, cv_66_5, e13]
    have oJ14 := oJ6.keep (((((((k7.trans k8).trans k9).trans k10).trans k11).trans k12).trans k13).trans k14) fun _ _ => id
    have oM14 := oM10.keep (((k11.trans k12).trans k13).trans k14) fun _ _ => id
    refine hasl_c oJ14.rd (by omega) fun w15 k15 => ?_
    have k015 := k014.trans k15
    have eJ : decide (memB Jn x) = (decide (memB a x) || decide (memB b x)) := by
      have := mJ x
      by_cases h1 : memB a x <;> by_cases h2 : memB b x <;> simp [h1, h2, this]
    rw [eJ]
    have oJ15 := oJ14.keep k15 fun _ _ => id
    have oM15 := oM14.keep k15 fun _ _ => id
    have eM : decide (memB M x) = (decide (memB a x) && decide (memB b x)) := by
      have := mM x
      by_cases h1 : memB a x <;> by_cases h2 : memB b x <;> simp [h1, h2, this]
    refine hasl_c (ha.keep0 k015) (by omega) fun w16 k16 => ?_
    have k016 := k015.trans k16
    by_cases h1 : memB a x
    · simp only [pur_add, pur_sub, pur_mul, pur_eql, pur_neq, pur_lss, pur_leq, pur_gtr, pur_geq, pur_seql, pur_sneq, pur_max, pur_min, pur_nil, pur_pick_t, pur_pick_f, pur_not, pur_pure, pur_ext2_0, pur_ext2_1, pur_ext3_0, pur_ext3_1, pur_ext3_2, pur_ext4_0, pur_ext4_1, pur_ext4_2, pur_ext4_3, gd_hit, gd_tf, gd_ft, gd_undef, condS_true, condS_false, one_int, one_ptr, one_str, one_bool, one_map, one_slice, act_box, act_makeMap, agg_cells, Nat.zero_add, Nat.reduceAdd, decide_true, decide_false, Bool.not_true, Bool.not_false, not_true_eq_false, not_false_eq_true, ne_eq, Bool.bne_true, Bool.bne_false, Bool.true_bne, Bool.false_bne, Bool.true_beq, Bool.false_beq, bne_self_eq_false, beq_self_eq_true, Int.reduceLT, Int.reduceLE, Int.reduceEq, Int.reduceNe, fa_27_0, fa_27_1, ld_3, ld_22, ld_27, ld_67, st_3, st_27, st_67, al_3, al_27, al_67, bd_27_, bd_27_0_1, be_4, bn_4, ln_22, ln_35, ln_53, ix_22, ix_35, ix_53, slt_22, bs_22, bs_35, bs2_35, bs2_53, cv_3_51, cv_3_67, cv_5_3, cv_51_3, cv_51_64, cv_64_5, cv_66_5, h1, Bool.true_or]
      refine alive_c fun w17 k17 => ?_
      have k017 := k016.trans k17
      try simp only [pur_add, pur_sub, pur_mul, pur_eql, pur_neq, pur_lss, pur_leq, pur_gtr, pur_geq, pur_seql, pur_sneq, pur_max, pur_min, pur_nil, pur_pick_t, pur_pick_f, pur_not, pur_pure, pur_ext2_0, pur_ext2_1, pur_ext3_0, pur_ext3_1, pur_ext3_2, pur_ext4_0, pur_ext4_1, pur_ext4_2, pur_ext4_3, gd_hit, gd_tf, gd_ft, gd_undef, condS_true, condS_false, one_int, one_ptr, one_str, one_bool, one_map, one_slice, act_box, act_makeMap, agg_cells, Nat.zero_add, Nat.reduceAdd, decide_true, decide_false, Bool.not_true, Bool.not_false, not_true_eq_false, not_false_eq_true, ne_eq, Bool.bne_true, Bool.bne_false, Bool.true_bne, Bool.false_bne, Bool.true_beq, Bool.false_beq, bne_self_eq_false, beq_self_eq_true, Int.reduceLT, Int.reduceLE, Int.reduceEq, Int.reduceNe, fa_27_0, fa_27_1, ld_3, ld_22, ld_27, ld_67, st_3, st_27, st_67, al_3, al_27, al_67, bd_27_, bd_27_0_1, be_4, bn_4, ln_22, ln_35, ln_53, ix_22, ix_35, ix_53, slt_22, bs_22, bs_35, bs2_35, bs2_53, cv_3_51, cv_3_67, cv_5_3, cv_51_3, cv_51_64, cv_64_5, cv_66_5]
      refine hasl_c ((oM15.keep (k16.trans k17) fun _ _ => id).rd) (by omega) fun w18 k18 => ?_
      have k018 := k017.trans k18
      rw [eM]
      simp only [pur_add, pur_sub, pur_mul, pur_eql, pur_neq, pur_lss, pur_leq, pur_gtr, pur_geq, pur_seql, pur_sneq, pur_max, pur_min, pur_nil, pur_pick_t, pur_pick_f, pur_not, pur_pure, pur_ext2_0, pur_ext2_1, pur_ext3_0, pur_ext3_1, pur_ext3_2, pur_ext4_0, pur_ext4_1, pur_ext4_2, pur_ext4_3, gd_hit, gd_tf, gd_ft, gd_undef, condS_true, condS_false, one_int, one_ptr, one_str, one_bool, one_map, one_slice, act_box, act_makeMap, agg_cells, Nat.zero_add, Nat.reduceAdd, decide_true, decide_false, Bool.not_true, Bool.not_false, not_true_eq_false, not_false_eq_true, ne_eq, Bool.bne_true, Bool.bne_false, Bool.true_bne, Bool.false_bne, Bool.true_beq, Bool.false_beq, bne_self_eq_false, beq_self_eq_true, Int.reduceLT, Int.reduceLE, Int.reduceEq, Int.reduceNe, fa_27_0, fa_27_1, ld_3, ld_22, ld_27, ld_67, st_3, st_27, st_67, al_3, al_27, al_67, bd_27_, bd_27_0_1, be_4, bn_4, ln_22, ln_35, ln_53, ix_22, ix_35, ix_53, slt_22, bs_22, bs_35, bs2_35, bs2_53, cv_3_51, cv_3_67, cv_5_3, cv_51_3, cv_51_64, cv_64_5, cv_66_5, h1, Bool.true_and]
      refine hasl_c (ha.keep0 k018) (by omega) fun w19 k19 => ?_
      have k019 := k018.trans k19
      try simp only [pur_add, pur_sub, pur_mul, pur_eql, pur_neq, pur_lss, pur_leq, pur_gtr, pur_geq, pur_seql, pur_sneq, pur_max, pur_min, pur_nil, pur_pick_t, pur_pick_f, pur_not, pur_pure, pur_ext2_0, pur_ext2_1, pur_ext3_0, pur_ext3_1, pur_ext3_2, pur_ext4_0, pur_ext4_1, pur_ext4_2, pur_ext4_3, gd_hit, gd_tf, gd_ft, gd_undef, condS_true, condS_false, one_int, one_ptr, one_str, one_bool, one_map, one_slice, act_box, act_makeMap, agg_cells, Nat.zero_add, Nat.reduceAdd, decide_true, decide_false, Bool.not_true, Bool.not_false, not_true_eq_false, not_false_eq_true, ne_eq, Bool.bne_true, Bool.bne_false, Bool.true_bne, Bool.false_bne, Bool.true_beq, Bool.false_beq, bne_self_eq_false, beq_self_eq_true, Int.reduceLT, Int.reduceLE, Int.reduceEq, Int.reduceNe, fa_27_0, fa_27_1, ld_3, ld_22, ld_27, ld_67, st_3, st_27, st_67, al_3, al_27, al_67, bd_27_, bd_27_0_1, be_4, bn_4, ln_22, ln_35, ln_53, ix_22, ix_35, ix_53, slt_22, bs_22, bs_35, bs2_35, bs2_53, cv_3_51, cv_3_67, cv_5_3, cv_51_3, cv_51_64, cv_64_5, cv_66_5, h1]
      refine hasl_c (hb.keep0 k019) (by omega) fun w20 k20 => ?_
      have kW := k019.trans k20
      try simp only [pur_add, pur_sub, pur_mul, pur_eql, pur_neq, pur_lss, pur_leq, pur_gtr, pur_geq, pur_seql, pur_sneq, pur_max, pur_min, pur_nil, pur_pick_t, pur_pick_f, pur_not, pur_pure, pur_ext2_0, pur_ext2_1, pur_ext3_0, pur_ext3_1, pur_ext3_2, pur_ext4_0, pur_ext4_1, pur_ext4_2, pur_ext4_3, gd_hit, gd_tf, gd_ft, gd_undef, condS_true, condS_false, one_int, one_ptr, one_str, one_bool, one_map, one_slice, act_box, act_makeMap, agg_cells, Nat.zero_add, Nat.reduceAdd, decide_true, decide_false, Bool.not_true, Bool.not_false, not_true_eq_false, not_false_eq_true, ne_eq, Bool.bne_true, Bool.bne_false, Bool.true_bne, Bool.false_bne, Bool.true_beq, Bool.false_beq, bne_self_eq_false, beq_self_eq_true, Int.reduceLT, Int.reduceLE, Int.reduceEq, Int.reduceNe, fa_27_0, fa_27_1, ld_3, ld_22, ld_27, ld_67, st_3, st_27, st_67, al_3, al_27, al_67, bd_27_, bd_27_0_1, be_4, bn_4, ln_22, ln_35, ln_53, ix_22, ix_35, ix_53, slt_22, bs_22, bs_35, bs2_35, bs2_53, cv_3_51, cv_3_67, cv_5_3, cv_51_3, cv_51_64, cv_64_5, cv_66_5]
      have kk := (((k16.trans k17).trans k18).trans k19).trans k20
      have oMW := oM15.keep kk fun _ _ => id
      have oJW := oJ15.keep kk fun _ _ => id
      refine minus_c (ha.keep0 kW) (hb.keep0 kW) (by omega) fun wa vn N nN mN lN oN ka => ?_
      have kA := kW.trans ka
      refine join_c oN.rd ((oMW.keep ka fun _ _ => id).rd) (by omega) fun wb vq R nR mR lR oR kb => ?_
      have kB := kA.trans kb
      refine norm_c (ha.keep0 kB) (by omega) fun wc vr S nS lS oS kc => ?_
      have kC := kB.trans kc
      have eR : R = S := nrm_unique _ _ nR nS.1 fun y => by
        rw [mR, mN, mM, nS.2]
        by_cases h5 : memB b y <;> simp [h5]
      have := List.length_filter_le (fun s => decide (ok s)) a
      refine sames_c ((oR.keep kc fun _ _ => id).rd) oS.rd (by omega) fun wd kd => ?_
      have kD := kC.trans kd
      simp only [pur_add, pur_sub, pur_mul, pur_eql, pur_neq, pur_lss, pur_leq, pur_gtr, pur_geq, pur_seql, pur_sneq, pur_max, pur_min, pur_nil, pur_pick_t, pur_pick_f, pur_not, pur_pure, pur_ext2_0, pur_ext2_1, pur_ext3_0, pur_ext3_1, pur_ext3_2, pur_ext4_0, pur_ext4_1, pur_ext4_2, pur_ext4_3, gd_hit, gd_tf, gd_ft, gd_undef, condS_true, condS_false, one_int, one_ptr, one_str, one_bool, one_map, one_slice, act_box, act_makeMap, agg_cells, Nat.zero_add, Nat.reduceAdd, decide_true, decide_false, Bool.not_true, Bool.not_false, not_true_eq_false, not_false_eq_true, ne_eq, Bool.bne_true, Bool.bne_false, Bool.true_bne, Bool.false_bne, Bool.true_beq, Bool.false_beq, bne_self_eq_false, beq_self_eq_true, Int.reduceLT, Int.reduceLE, Int.reduceEq, Int.reduceNe, fa_27_0, fa_27_1, ld_3, ld_22, ld_27, ld_67, st_3, st_27, st_67, al_3, al_27, al_67, bd_27_, bd_27_0_1, be_4, bn_4, ln_22, ln_35, ln_53, ix_22, ix_35, ix_53, slt_22, bs_22, bs_35, bs2_35, bs2_53, cv_3_51, cv_3_67, cv_5_3, cv_51_3, cv_51_64, cv_64_5, cv_66_5, eR]
      have kWD := ((ka.trans kb).trans kc).trans kd
      refine covers_c ((oJW.keep kWD fun _ _ => id).rd) (ha.keep0 kD) (by omega) fun we r hr ke => ?_
      have hr1 : r = true := hr.2 fun y hy => (mJ y).2 (.inl hy)
      subst hr1
      try simp only [pur_add, pur_sub, pur_mul, pur_eql, pur_neq, pur_lss, pur_leq, pur_gtr, pur_geq, pur_seql, pur_sneq, pur_max, pur_min, pur_nil, pur_pick_t, pur_pick_f, pur_not, pur_pure, pur_ext2_0, pur_ext2_1, pur_ext3_0, pur_ext3_1, pur_ext3_2, pur_ext4_0, pur_ext4_1, pur_ext4_2, pur_ext4_3, gd_hit, gd_tf, gd_ft, gd_undef, condS_true, condS_false, one_int, one_ptr, one_str, one_bool, one_map, one_slice, act_box, act_makeMap, agg_cells, Nat.zero_add, Nat.reduceAdd, decide_true, decide_false, Bool.not_true, Bool.not_false, not_true_eq_false, not_false_eq_true, ne_eq, Bool.bne_true, Bool.bne_false, Bool.true_bne, Bool.false_bne, Bool.true_beq, Bool.false_beq, bne_self_eq_false, beq_self_eq_true, Int.reduceLT, Int.reduceLE, Int.reduceEq, Int.reduceNe, fa_27_0, fa_27_1, ld_3, ld_22, ld_27, ld_67, st_3, st_27, st_67, al_3, al_27, al_67, bd_27_, bd_27_0_1, be_4, bn_4, ln_22, ln_35, ln_53, ix_22, ix_35, ix_53, slt_22, bs_22, bs_35, bs2_35, bs2_53, cv_3_51, cv_3_67, cv_5_3, cv_51_3, cv_51_64, cv_64_5, cv_66_5]
      refine covers_c (ha.keep0 (kD.trans ke)) ((oMW.keep (kWD.trans ke) fun _ _ => id).rd) (by omega) fun wf r hr kf => ?_
      have hr1 : r = true := hr.2 fun y hy => ((mM y).1 hy).1
      subst hr1
      try simp only [pur_add, pur_sub, pur_mul, pur_eql, pur_neq, pur_lss, pur_leq, pur_gtr, pur_geq, pur_seql, pur_sneq, pur_max, pur_min, pur_nil, pur_pick_t, pur_pick_f, pur_not, pur_pure, pur_ext2_0, pur_ext2_1, pur_ext3_0, pur_ext3_1, pur_ext3_2, pur_ext4_0, pur_ext4_1, pur_ext4_2, pur_ext4_3, gd_hit, gd_tf, gd_ft, gd_undef, condS_true, condS_false, one_int, one_ptr, one_str, one_bool, one_map, one_slice, act_box, act_makeMap, agg_cells, Nat.zero_add, Nat.reduceAdd, decide_true, decide_false, Bool.not_true, Bool.not_false, not_true_eq_false, not_false_eq_true, ne_eq, Bool.bne_true, Bool.bne_false, Bool.true_bne, Bool.false_bne, Bool.true_beq, Bool.false_beq, bne_self_eq_false, beq_self_eq_true, Int.reduceLT, Int.reduceLE, Int.reduceEq, Int.reduceNe, fa_27_0, fa_27_1, ld_3, ld_22, ld_27, ld_67, st_3, st_27, st_67, al_3, al_27, al_67, bd_27_, bd_27_0_1, be_4, bn_4, ln_22, ln_35, ln_53, ix_22, ix_35, ix_53, slt_22, bs_22, bs_35, bs2_35, bs2_53, cv_3_51, cv_3_67, cv_5_3, cv_51_3, cv_51_64, cv_64_5, cv_66_5]
      exact hq _ ((kD.trans ke).trans kf)
    · simp only [pur_add, pur_sub, pur_mul, pur_eql, pur_neq, pur_lss, pur_leq, pur_gtr, pur_geq, pur_seql, pur_sneq, pur_max, pur_min, pur_nil, pur_pick_t, pur_pick_f, pur_not, pur_pure, pur_ext2_0, pur_ext2_1, pur_ext3_0, pur_ext3_1, pur_ext3_2, pur_ext4_0, pur_ext4_1, pur_ext4_2, pur_ext4_3, gd_hit, gd_tf, gd_ft, gd_undef, condS_true, condS_false, one_int, one_ptr, one_str, one_bool, one_map, one_slice, act_box, act_makeMap, agg_cells, Nat.zero_add, Nat.reduceAdd, decide_true, decide_false, Bool.not_true, Bool.not_false, not_true_eq_false, not_false_eq_true, ne_eq, Bool.bne_true, Bool.bne_false, Bool.true_bne, Bool.false_bne, Bool.true_beq, Bool.false_beq, bne_self_eq_false, beq_self_eq_true, Int.reduceLT, Int.reduceLE, Int.reduceEq, Int.reduceNe, fa_27_0, fa_27_1, ld_3, ld_22, ld_27, ld_67, st_3, st_27, st_67, al_3, al_27, al_67, bd_27_, bd_27_0_1, be_4, bn_4, ln_22, ln_35, ln_53, ix_22, ix_35, ix_53, slt_22, bs_22, bs_35, bs2_35, bs2_53, cv_3_51, cv_3_67, cv_5_3, cv_51_3, cv_51_64, cv_64_5, cv_66_5, h1, Bool.false_or]
      refine hasl_c (hb.keep0 k016) (by omega) fun w17 k17 => ?_
      have k017 := k016.trans k17
      try simp only [pur_add, pur_sub, pur_mul, pur_eql, pur_neq, pur_lss, pur_leq, pur_gtr, pur_geq, pur_seql, pur_sneq, pur_max, pur_min, pur_nil, pur_pick_t, pur_pick_f, pur_not, pur_pure, pur_ext2_0, pur_ext2_1, pur_ext3_0, pur_ext3_1, pur_ext3_2, pur_ext4_0, pur_ext4_1, pur_ext4_2, pur_ext4_3, gd_hit, gd_tf, gd_ft, gd_undef, condS_true, condS_false, one_int, one_ptr, one_str, one_bool, one_map, one_slice, act_box, act_makeMap, agg_cells, Nat.zero_add, Nat.reduceAdd, decide_true, decide_false, Bool.not_true, Bool.not_false, not_true_eq_false, not_false_eq_true, ne_eq, Bool.bne_true, Bool.bne_false, Bool.true_bne, Bool.false_bne, Bool.true_beq, Bool.false_beq, bne_self_eq_false, beq_self_eq_true, Int.reduceLT, Int.reduceLE, Int.reduceEq, Int.reduceNe, fa_27_0, fa_27_1, ld_3, ld_22, ld_27, ld_67, st_3, st_27, st_67, al_3, al_27, al_67, bd_27_, bd_27_0_1, be_4, bn_4, ln_22, ln_35, ln_53, ix_22, ix_35, ix_53, slt_22, bs_22, bs_35, bs2_35, bs2_53, cv_3_51, cv_3_67, cv_5_3, cv_51_3, cv_51_64, cv_64_5, cv_66_5]
      refine alive_c fun w18 k18 => ?_
      have k018 := k017.trans k18
      simp only [pur_add, pur_sub, pur_mul, pur_eql, pur_neq, pur_lss, pur_leq, pur_gtr, pur_geq, pur_seql, pur_sneq, pur_max, pur_min, pur_nil, pur_pick_t, pur_pick_f, pur_not, pur_pure, pur_ext2_0, pur_ext2_1, pur_ext3_0, pur_ext3_1, pur_ext3_2, pur_ext4_0, pur_ext4_1, pur_ext4_2, pur_ext4_3, gd_hit, gd_tf, gd_ft, gd_undef, condS_true, condS_false, one_int, one_ptr, one_str, one_bool, one_map, one_slice, act_box, act_makeMap, agg_cells, Nat.zero_add, Nat.reduceAdd, decide_true, decide_false, Bool.not_true, Bool.not_false, not_true_eq_false, not_false_eq_true, ne_eq, Bool.bne_true, Bool.bne_false, Bool.true_bne, Bool.false_bne, Bool.true_beq, Bool.false_beq, bne_self_eq_false, beq_self_eq_true, Int.reduceLT, Int.reduceLE, Int.reduceEq, Int.reduceNe, fa_27_0, fa_27_1, ld_3, ld_22, ld_27, ld_67, st_3, st_27, st_67, al_3, al_27, al_67, bd_27_, bd_27_0_1, be_4, bn_4, ln_22, ln_35, ln_53, ix_22, ix_35, ix_53, slt_22, bs_22, bs_35, bs2_35, bs2_53, cv_3_51, cv_3_67, cv_5_3, cv_51_3, cv_51_64, cv_64_5, cv_66_5]
      refine hasl_c ((oM15.keep ((k16.trans k17).trans k18) fun _ _ => id).rd) (by omega) fun w19 k19 => ?_
      have k019 := k018.trans k19
      rw [eM]
      simp only [pur_add, pur_sub, pur_mul, pur_eql, pur_neq, pur_lss, pur_leq, pur_gtr, pur_geq, pur_seql, pur_sneq, pur_max, pur_min, pur_nil, pur_pick_t, pur_pick_f, pur_not, pur_pure, pur_ext2_0, pur_ext2_1, pur_ext3_0, pur_ext3_1, pur_ext3_2, pur_ext4_0, pur_ext4_1, pur_ext4_2, pur_ext4_3, gd_hit, gd_tf, gd_ft, gd_undef, condS_true, condS_false, one_int, one_ptr, one_str, one_bool, one_map, one_slice, act_box, act_makeMap, agg_cells, Nat.zero_add, Nat.reduceAdd, decide_true, decide_false, Bool.not_true, Bool.not_false, not_true_eq_false, not_false_eq_true, ne_eq, Bool.bne_true, Bool.bne_false, Bool.true_bne, Bool.false_bne, Bool.true_beq, Bool.false_beq, bne_self_eq_false, beq_self_eq_true, Int.reduceLT, Int.reduceLE, Int.reduceEq, Int.reduceNe, fa_27_0, fa_27_1, ld_3, ld_22, ld_27, ld_67, st_3, st_27, st_67, al_3, al_27, al_67, bd_27_, bd_27_0_1, be_4, bn_4, ln_22, ln_35, ln_53, ix_22, ix_35, ix_53, slt_22, bs_22, bs_35, bs2_35, bs2_53, cv_3_51, cv_3_67, cv_5_3, cv_51_3, cv_51_64, cv_64_5, cv_66_5, h1, Bool.false_and]
      refine hasl_c (ha.keep0 k019) (by omega) fun w20 k20 => ?_
      have kW := k019.trans k20
      try simp only [pur_add, pur_sub, pur_mul, pur_eql, pur_neq, pur_lss, pur_leq, pur_gtr, pur_geq, pur_seql, pur_sneq, pur_max, pur_min, pur_nil, pur_pick_t, pur_pick_f, pur_not, pur_pure, pur_ext2_0, pur_ext2_1, pur_ext3_0, pur_ext3_1, pur_ext3_2, pur_ext4_0, pur_ext4_1, pur_ext4_2, pur_ext4_3, gd_hit, gd_tf, gd_ft, gd_undef, condS_true, condS_false, one_int, one_ptr, one_str, one_bool, one_map, one_slice, act_box, act_makeMap, agg_cells, Nat.zero_add, Nat.reduceAdd, decide_true, decide_false, Bool.not_true, Bool.not_false, not_true_eq_false, not_false_eq_true, ne_eq, Bool.bne_true, Bool.bne_false, Bool.true_bne, Bool.false_bne, Bool.true_beq, Bool.false_beq, bne_self_eq_false, beq_self_eq_true, Int.reduceLT, Int.reduceLE, Int.reduceEq, Int.reduceNe, fa_27_0, fa_27_1, ld_3, ld_22, ld_27, ld_67, st_3, st_27, st_67, al_3, al_27, al_67, bd_27_, bd_27_0_1, be_4, bn_4, ln_22, ln_35, ln_53, ix_22, ix_35, ix_53, slt_22, bs_22, bs_35, bs2_35, bs2_53, cv_3_51, cv_3_67, cv_5_3, cv_51_3, cv_51_64, cv_64_5, cv_66_5, h1]
      have kk := (((k16.trans k17).trans k18).trans k19).trans k20
      have oMW := oM15.keep kk fun _ _ => id
      have oJW := oJ15.keep kk fun _ _ => id
      refine minus_c (ha.keep0 kW) (hb.keep0 kW) (by omega) fun wa vn N nN mN lN oN ka => ?_
      have kA := kW.trans ka
      refine join_c oN.rd ((oMW.keep ka fun _ _ => id).rd) (by omega) fun wb vq R nR mR lR oR kb => ?_
      have kB := kA.trans kb
      refine norm_c (ha.keep0 kB) (by omega) fun wc vr S nS lS oS kc => ?_
      have kC := kB.trans kc
      have eR : R = S := nrm_unique _ _ nR nS.1 fun y => by
        rw [mR, mN, mM, nS.2]
        by_cases h5 : memB b y <;> simp [h5]
      have := List.length_filter_le (fun s => decide (ok s)) a
      refine sames_c ((oR.keep kc fun _ _ => id).rd) oS.rd (by omega) fun wd kd => ?_
      have kD := kC.trans kd
      simp only [pur_add, pur_sub, pur_mul, pur_eql, pur_neq, pur_lss, pur_leq, pur_gtr, pur_geq, pur_seql, pur_sneq, pur_max, pur_min, pur_nil, pur_pick_t, pur_pick_f, pur_not, pur_pure, pur_ext2_0, pur_ext2_1, pur_ext3_0, pur_ext3_1, pur_ext3_2, pur_ext4_0, pur_ext4_1, pur_ext4_2, pur_ext4_3, gd_hit, gd_tf, gd_ft, gd_undef, condS_true, condS_false, one_int, one_ptr, one_str, one_bool, one_map, one_slice, act_box, act_makeMap, agg_cells, Nat.zero_add, Nat.reduceAdd, decide_true, decide_false, Bool.not_true, Bool.not_false, not_true_eq_false, not_false_eq_true, ne_eq, Bool.bne_true, Bool.bne_false, Bool.true_bne, Bool.false_bne, Bool.true_beq, Bool.false_beq, bne_self_eq_false, beq_self_eq_true, Int.reduceLT, Int.reduceLE, Int.reduceEq, Int.reduceNe, fa_27_0, fa_27_1, ld_3, ld_22, ld_27, ld_67, st_3, st_27, st_67, al_3, al_27, al_67, bd_27_, bd_27_0_1, be_4, bn_4, ln_22, ln_35, ln_53, ix_22, ix_35, ix_53, slt_22, bs_22, bs_35, bs2_35, bs2_53, cv_3_51, cv_3_67, cv_5_3, cv_51_3, cv_51_64, cv_64_5, cv_66_5, eR]
      have kWD := ((ka.trans kb).trans kc).trans kd
      refine covers_c ((oJW.keep kWD fun _ _ => id).rd) (ha.keep0 kD) (by omega) fun we r hr ke => ?_
      have hr1 : r = true := hr.2 fun y hy => (mJ y).2 (.inl hy)
      subst hr1
      try simp only [pur_add, pur_sub, pur_mul, pur_eql, pur_neq, pur_lss, pur_leq, pur_gtr, pur_geq, pur_seql, pur_sneq, pur_max, pur_min, pur_nil, pur_pick_t, pur_pick_f, pur_not, pur_pure, pur_ext2_0, pur_ext2_1, pur_ext3_0, pur_ext3_1, pur_ext3_2, pur_ext4_0, pur_ext4_1, pur_ext4_2, pur_ext4_3, gd_hit, gd_tf, gd_ft, gd_undef, condS_true, condS_false, one_int, one_ptr, one_str, one_bool, one_map, one_slice, act_box, act_makeMap, agg_cells, Nat.zero_add, Nat.reduceAdd, decide_true, decide_false, Bool.not_true, Bool.not_false, not_true_eq_false, not_false_eq_true, ne_eq, Bool.bne_true, Bool.bne_false, Bool.true_bne, Bool.false_bne, Bool.true_beq, Bool.false_beq, bne_self_eq_false, beq_self_eq_true, Int.reduceLT, Int.reduceLE, Int.reduceEq, Int.reduceNe, fa_27_0, fa_27_1, ld_3, ld_22, ld_27, ld_67, st_3, st_27, st_67, al_3, al_27, al_67, bd_27_, bd_27_0_1, be_4, bn_4, ln_22, ln_35, ln_53, ix_22, ix_35, ix_53, slt_22, bs_22, bs_35, bs2_35, bs2_53, cv_3_51, cv_3_67, cv_5_3, cv_51_3, cv_51_64, cv_64_5, cv_66_5]
      refine covers_c (ha.keep0 (kD.trans ke)) ((oMW.keep (kWD.trans ke) fun _ _ => id).rd) (by omega) fun wf r hr kf => ?_
      have hr1 : r = true := hr.2 fun y hy => ((mM y).1 hy).1
      subst hr1
      try simp only [pur_add, pur_sub, pur_mul, pur_eql, pur_neq, pur_lss, pur_leq, pur_gtr, pur_geq, pur_seql, pur_sneq, pur_max, pur_min, pur_nil, pur_pick_t, pur_pick_f, pur_not, pur_pure, pur_ext2_0, pur_ext2_1, pur_ext3_0, pur_ext3_1, pur_ext3_2, pur_ext4_0, pur_ext4_1, pur_ext4_2, pur_ext4_3, gd_hit, gd_tf, gd_ft, gd_undef, condS_true, condS_false, one_int, one_ptr, one_str, one_bool, one_map, one_slice, act_box, act_makeMap, agg_cells, Nat.zero_add, Nat.reduceAdd, decide_true, decide_false, Bool.not_true, Bool.not_false, not_true_eq_false, not_false_eq_true, ne_eq, Bool.bne_true, Bool.bne_false, Bool.true_bne, Bool.false_bne, Bool.true_beq, Bool.false_beq, bne_self_eq_false, beq_self_eq_true, Int.reduceLT, Int.reduceLE, Int.reduceEq, Int.reduceNe, fa_27_0, fa_27_1, ld_3, ld_22, ld_27, ld_67, st_3, st_27, st_67, al_3, al_27, al_67, bd_27_, bd_27_0_1, be_4, bn_4, ln_22, ln_35, ln_53, ix_22, ix_35, ix_53, slt_22, bs_22, bs_35, bs2_35, bs2_53, cv_3_51, cv_3_67, cv_5_3, cv_51_3, cv_51_64, cv_64_5, cv_66_5]
      exact hq _ ((kD.trans ke).trans kf)
  · obtain ⟨pa, ca, rfl⟩ := ha.form
    obtain ⟨pb, cb, rfl⟩ := hb.form
    obtain ⟨pc, cc, rfl⟩ := hc.form
    have al : ∀ {w1 : World}, w1 = w → callS Try.prog 7 #[] (fun t25 w_13 => Q t25 w_13) w1 := fun e => by subst e; exact alive_c fun w' k => hq w' k
    by_cases h1 : (30 : Int) < (a.length : Int)
    · simp only [pur_add, pur_sub, pur_mul, pur_eql, pur_neq, pur_lss, pur_leq, pur_gtr, pur_geq, pur_seql, pur_sneq, pur_max, pur_min, pur_nil, pur_pick_t, pur_pick_f, pur_not, pur_pure, pur_ext2_0, pur_ext2_1, pur_ext3_0, pur_ext3_1, pur_ext3_2, pur_ext4_0, pur_ext4_1, pur_ext4_2, pur_ext4_3, gd_hit, gd_tf, gd_ft, gd_undef, condS_true, condS_false, one_int, one_ptr, one_str, one_bool, one_map, one_slice, act_box, act_makeMap, agg_cells, Nat.zero_add, Nat.reduceAdd, decide_true, decide_false, Bool.not_true, Bool.not_false, not_true_eq_false, not_false_eq_true, ne_eq, Bool.bne_true, Bool.bne_false, Bool.true_bne, Bool.false_bne, Bool.true_beq, Bool.false_beq, bne_self_eq_false, beq_self_eq_true, Int.reduceLT, Int.reduceLE, Int.reduceEq, Int.reduceNe, fa_27_0, fa_27_1, ld_3, ld_22, ld_27, ld_67, st_3, st_27, st_67, al_3, al_27, al_67, bd_27_, bd_27_0_1, be_4, bn_4, ln_22, ln_35, ln_53, ix_22, ix_35, ix_53, slt_22, bs_22, bs_35, bs2_35, bs2_53, cv_3_51, cv_3_67, cv_5_3, cv_51_3, cv_51_64, cv_64_5, cv_66_5, h1]
      exact al rfl
    · by_cases h2 : (30 : Int) < (b.length : Int)
      · simp only [pur_add, pur_sub, pur_mul, pur_eql, pur_neq, pur_lss, pur_leq, pur_gtr, pur_geq, pur_seql, pur_sneq, pur_max, pur_min, pur_nil, pur_pick_t, pur_pick_f, pur_not, pur_pure, pur_ext2_0, pur_ext2_1, pur_ext3_0, pur_ext3_1, pur_ext3_2, pur_ext4_0, pur_ext4_1, pur_ext4_2, pur_ext4_3, gd_hit, gd_tf, gd_ft, gd_undef, condS_true, condS_false, one_int, one_ptr, one_str, one_bool, one_map, one_slice, act_box, act_makeMap, agg_cells, Nat.zero_add, Nat.reduceAdd, decide_true, decide_false, Bool.not_true, Bool.not_false, not_true_eq_false, not_false_eq_true, ne_eq, Bool.bne_true, Bool.bne_false, Bool.true_bne, Bool.false_bne, Bool.true_beq, Bool.false_beq, bne_self_eq_false, beq_self_eq_true, Int.reduceLT, Int.reduceLE, Int.reduceEq, Int.reduceNe, fa_27_0, fa_27_1, ld_3, ld_22, ld_27, ld_67, st_3, st_27, st_67, al_3, al_27, al_67, bd_27_, bd_27_0_1, be_4, bn_4, ln_22, ln_35, ln_53, ix_22, ix_35, ix_53, slt_22, bs_22, bs_35, bs2_35, bs2_53, cv_3_51, cv_3_67, cv_5_3, cv_51_3, cv_51_64, cv_64_5, cv_66_5, h1, h2]
        exact al rfl
      · have h3 : (30 : Int) < (c.length : Int) := by omega
        simp only [pur_add, pur_sub, pur_mul, pur_eql, pur_neq, pur_lss, pur_leq, pur_gtr, pur_geq, pur_seql, pur_sneq, pur_max, pur_min, pur_nil, pur_pick_t, pur_pick_f, pur_not, pur_pure, pur_ext2_0, pur_ext2_1, pur_ext3_0, pur_ext3_1, pur_ext3_2, pur_ext4_0, pur_ext4_1, pur_ext4_2, pur_ext4_3, gd_hit, gd_tf, gd_ft, gd_undef, condS_true, condS_false, one_int, one_ptr, one_str, one_bool, one_map, one_slice, act_box, act_makeMap, agg_cells, Nat.zero_add, Nat.reduceAdd, decide_true, decide_false, Bool.not_true, Bool.not_false, not_true_eq_false, not_false_eq_true, ne_eq, Bool.bne_true, Bool.bne_false, Bool.true_bne, Bool.false_bne, Bool.true_beq, Bool.false_beq, bne_self_eq_false, beq_self_eq_true, Int.reduceLT, Int.reduceLE, Int.reduceEq, Int.reduceNe, fa_27_0, fa_27_1, ld_3, ld_22, ld_27, ld_67, st_3, st_27, st_67, al_3, al_27, al_67, bd_27_, bd_27_0_1, be_4, bn_4, ln_22, ln_35, ln_53, ix_22, ix_35, ix_53, slt_22, bs_22, bs_35, bs2_35, bs2_53, cv_3_51, cv_3_67, cv_5_3, cv_51_3, cv_51_64, cv_64_5, cv_66_5, h1, h2, h3]
        exact al rfl
end
end Go.Proofs.Ytalkoelpibiboaa
