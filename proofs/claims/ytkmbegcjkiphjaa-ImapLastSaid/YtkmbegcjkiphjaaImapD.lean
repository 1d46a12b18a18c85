/- Maps of blocks: the first call whose answer the document fixes; a list of calls. Conditions: none. -/
import Derived.Test.YtkmbegcjkiphjaaImapCi
import Derived.Test.YtkmbegcjkiphjaaShU
set_option linter.unusedSimpArgs false
set_option linter.unusedVariables false
namespace Go.Proofs.Ytkmbegcjkiphjaa.Mi
open Go.Sh Go.Proofs.Ytkmbegcjkiphjaa
set_option maxRecDepth 100000
section
variable {w : World} {Q : Value → World → Prop} {m : Nat} {l : List (Pt Int)}

theorem set_any {a b v : Int} (hm : IM w m l) (hl : l.length ≤ 300000)
    (hq : ∀ w' l', IM w' m l' → (∀ x, valB l' x = if hasB (a, b) x then some v else valB l x) → l'.length ≤ l.length + 2 → Keep (fun b => b = m) w w' → Q (.bool (decide (ok (a, b)))) w') :
    callS Try.prog 16 #[.pointer (some ⟨m, 0, none⟩), .agg #[.int .i64 a, .int .i64 b], .int .i64 v] Q w := by
  by_cases h0 : ok (a, b)
  · refine set_ok hm h0 hl fun w' l' h1 h2 h3 h4 => ?_
    have := hq w' l' h1 h2 h3 h4
    rwa [decide_eq_true h0] at this
  · refine set_no (v := v) h0 fun w' k => ?_
    have := hq w' l (hm.keep0 k) (fun x => by rw [if_neg (fun h => h0 h.1)]) (by omega) k.none
    rwa [decide_eq_false h0] at this
theorem clear_any {a b : Int} (hm : IM w m l) (hl : l.length ≤ 300000)
    (hq : ∀ w' l', IM w' m l' → (∀ x, valB l' x = if hasB (a, b) x then none else valB l x) → l'.length ≤ l.length + 2 → Keep (fun b => b = m) w w' → Q (.bool (decide (ok (a, b)))) w') :
    callS Try.prog 19 #[.pointer (some ⟨m, 0, none⟩), .agg #[.int .i64 a, .int .i64 b]] Q w := by
  by_cases h0 : ok (a, b)
  · refine clear_ok hm h0 hl fun w' l' h1 h2 h3 h4 => ?_
    have := hq w' l' h1 h2 (by omega) h4
    rwa [decide_eq_true h0] at this
  · refine clear_no h0 fun w' k => ?_
    have := hq w' l (hm.keep0 k) (fun x => by rw [if_neg (fun h => h0 h.1)]) (by omega) k.none
    rwa [decide_eq_false h0] at this

theorem alive_c (hq : ∀ w', Keep (fun _ => False) w w' → Q (.bool true) w') : callS Try.prog 8 #[] Q w := by
  refine ref8 ?_
  unfold S8
  refine new_c fun w1 m1 k1 => ?_
  have s1 := m1.lt
  simp only [pur_add, pur_sub, pur_mul, pur_eql, pur_neq, pur_lss, pur_leq, pur_gtr, pur_geq, pur_seql, pur_sneq, pur_max, pur_min, pur_nil, pur_pick_t, pur_pick_f, pur_not, pur_pure, pur_ext2_0, pur_ext2_1, pur_ext3_0, pur_ext3_1, pur_ext3_2, pur_ext4_0, pur_ext4_1, pur_ext4_2, pur_ext4_3, gd_hit, gd_tf, gd_ft, gd_undef, condS_true, condS_false, one_int, one_ptr, one_str, one_bool, one_map, one_slice, act_box, act_makeMap, agg_cells, Nat.zero_add, Nat.reduceAdd, decide_true, decide_false, Bool.not_true, Bool.not_false, not_true_eq_false, not_false_eq_true, ne_eq, Bool.bne_true, Bool.bne_false, Bool.true_bne, Bool.false_bne, Bool.true_beq, Bool.false_beq, bne_self_eq_false, beq_self_eq_true, Int.reduceLT, Int.reduceLE, Int.reduceEq, Int.reduceNe, fa_27_0, fa_27_1, fa_29_0, fa_29_1, fa_29_3, fa_38_0, fa_38_1, fa_46_0, fa_46_1, fa_60_0, fa_65_0, ld_3, ld_9, ld_27, ld_35, ld_38, ld_43, ld_46, ld_107, st_3, st_27, st_35, st_38, st_43, st_46, st_107, al_3, al_27, al_38, al_46, al_107, bd_27_, bd_27_0_1, bd_27_1, bd_38_0_1, bd_46_0_1, bd_60_, bd_65_, be_4, pe0_24, pe1_24, pe2_24, pe0_40, pe1_40, pe2_40, ln_22, ln_35, ln_43, ln_49, ln_106, ix_22, ix_35, ix_43, ix_49, ix_106, slt_49, bs_30, bs_35, bs_43, bs_49, bs2_106, cv_3_5, cv_3_80, cv_3_107, cv_5_3, cv_80_3, cv_80_96, cv_96_5, cv_98_5]
  refine set_ok (v := 1) m1 (by unfold ok; simp) (by simp) fun w2 l2 m2 hv2 hl2 k2 => ?_
  simp only [pur_add, pur_sub, pur_mul, pur_eql, pur_neq, pur_lss, pur_leq, pur_gtr, pur_geq, pur_seql, pur_sneq, pur_max, pur_min, pur_nil, pur_pick_t, pur_pick_f, pur_not, pur_pure, pur_ext2_0, pur_ext2_1, pur_ext3_0, pur_ext3_1, pur_ext3_2, pur_ext4_0, pur_ext4_1, pur_ext4_2, pur_ext4_3, gd_hit, gd_tf, gd_ft, gd_undef, condS_true, condS_false, one_int, one_ptr, one_str, one_bool, one_map, one_slice, act_box, act_makeMap, agg_cells, Nat.zero_add, Nat.reduceAdd, decide_true, decide_false, Bool.not_true, Bool.not_false, not_true_eq_false, not_false_eq_true, ne_eq, Bool.bne_true, Bool.bne_false, Bool.true_bne, Bool.false_bne, Bool.true_beq, Bool.false_beq, bne_self_eq_false, beq_self_eq_true, Int.reduceLT, Int.reduceLE, Int.reduceEq, Int.reduceNe, fa_27_0, fa_27_1, fa_29_0, fa_29_1, fa_29_3, fa_38_0, fa_38_1, fa_46_0, fa_46_1, fa_60_0, fa_65_0, ld_3, ld_9, ld_27, ld_35, ld_38, ld_43, ld_46, ld_107, st_3, st_27, st_35, st_38, st_43, st_46, st_107, al_3, al_27, al_38, al_46, al_107, bd_27_, bd_27_0_1, bd_27_1, bd_38_0_1, bd_46_0_1, bd_60_, bd_65_, be_4, pe0_24, pe1_24, pe2_24, pe0_40, pe1_40, pe2_40, ln_22, ln_35, ln_43, ln_49, ln_106, ix_22, ix_35, ix_43, ix_49, ix_106, slt_49, bs_30, bs_35, bs_43, bs_49, bs2_106, cv_3_5, cv_3_80, cv_3_107, cv_5_3, cv_80_3, cv_80_96, cv_96_5, cv_98_5]
  refine set_ok (v := 2) m2 (by unfold ok; simp) (by rw [List.length_nil] at hl2; omega) fun w3 l3 m3 hv3 hl3 k3 => ?_
  simp only [pur_add, pur_sub, pur_mul, pur_eql, pur_neq, pur_lss, pur_leq, pur_gtr, pur_geq, pur_seql, pur_sneq, pur_max, pur_min, pur_nil, pur_pick_t, pur_pick_f, pur_not, pur_pure, pur_ext2_0, pur_ext2_1, pur_ext3_0, pur_ext3_1, pur_ext3_2, pur_ext4_0, pur_ext4_1, pur_ext4_2, pur_ext4_3, gd_hit, gd_tf, gd_ft, gd_undef, condS_true, condS_false, one_int, one_ptr, one_str, one_bool, one_map, one_slice, act_box, act_makeMap, agg_cells, Nat.zero_add, Nat.reduceAdd, decide_true, decide_false, Bool.not_true, Bool.not_false, not_true_eq_false, not_false_eq_true, ne_eq, Bool.bne_true, Bool.bne_false, Bool.true_bne, Bool.false_bne, Bool.true_beq, Bool.false_beq, bne_self_eq_false, beq_self_eq_true, Int.reduceLT, Int.reduceLE, Int.reduceEq, Int.reduceNe, fa_27_0, fa_27_1, fa_29_0, fa_29_1, fa_29_3, fa_38_0, fa_38_1, fa_46_0, fa_46_1, fa_60_0, fa_65_0, ld_3, ld_9, ld_27, ld_35, ld_38, ld_43, ld_46, ld_107, st_3, st_27, st_35, st_38, st_43, st_46, st_107, al_3, al_27, al_38, al_46, al_107, bd_27_, bd_27_0_1, bd_27_1, bd_38_0_1, bd_46_0_1, bd_60_, bd_65_, be_4, pe0_24, pe1_24, pe2_24, pe0_40, pe1_40, pe2_40, ln_22, ln_35, ln_43, ln_49, ln_106, ix_22, ix_35, ix_43, ix_49, ix_106, slt_49, bs_30, bs_35, bs_43, bs_49, bs2_106, cv_3_5, cv_3_80, cv_3_107, cv_5_3, cv_80_3, cv_80_96, cv_96_5, cv_98_5]
  have hc3 : Canon ([((0, 3), 1), ((3, 5), 2), ((5, 9), 1)] : List (Pt Int)) := by
    refine ⟨by simp [ok], ?_⟩
    simp [nextOk]
  have e3 : l3 = [((0, 3), 1), ((3, 5), 2), ((5, 9), 1)] := canon_unique _ _ m3.canon hc3 fun x => by
    rw [hv3, hv2]
    have b35 : hasB (3, 5) x ↔ 3 ≤ x ∧ x < 5 := by simp [hasB, ok]
    have b09 : hasB (0, 9) x ↔ 0 ≤ x ∧ x < 9 := by simp [hasB, ok]
    have b03 : hasB (0, 3) x ↔ 0 ≤ x ∧ x < 3 := by simp [hasB, ok]
    have b59 : hasB (5, 9) x ↔ 5 ≤ x ∧ x < 9 := by simp [hasB, ok]
    simp only [valB_cons, b35, b09, b03, b59, show ∀ y, valB ([] : List (Pt Int)) y = none from fun _ => rfl]
    by_cases h1 : 3 ≤ x ∧ x < 5
    · have h2 : ¬ (0 ≤ x ∧ x < 3) := by omega
      rw [if_pos h1, if_neg h2, if_pos h1]
    · rw [if_neg h1]
      by_cases h2 : 0 ≤ x ∧ x < 3
      · have h3 : 0 ≤ x ∧ x < 9 := by omega
        rw [if_pos h2, if_pos h3]
      · rw [if_neg h2, if_neg h1]
        by_cases h3 : 5 ≤ x ∧ x < 9
        · have h4 : 0 ≤ x ∧ x < 9 := by omega
          rw [if_pos h3, if_pos h4]
        · have h4 : ¬ (0 ≤ x ∧ x < 9) := by omega
          rw [if_neg h3, if_neg h4]
  subst e3
  have g4 : valB ([((0, 3), 1), ((3, 5), 2), ((5, 9), 1)] : List (Pt Int)) 4 = some 2 := by decide
  refine get_c (x := 4) m3 (by simp) fun w4 k4 => ?_
  rw [g4]
  simp only [pur_add, pur_sub, pur_mul, pur_eql, pur_neq, pur_lss, pur_leq, pur_gtr, pur_geq, pur_seql, pur_sneq, pur_max, pur_min, pur_nil, pur_pick_t, pur_pick_f, pur_not, pur_pure, pur_ext2_0, pur_ext2_1, pur_ext3_0, pur_ext3_1, pur_ext3_2, pur_ext4_0, pur_ext4_1, pur_ext4_2, pur_ext4_3, gd_hit, gd_tf, gd_ft, gd_undef, condS_true, condS_false, one_int, one_ptr, one_str, one_bool, one_map, one_slice, act_box, act_makeMap, agg_cells, Nat.zero_add, Nat.reduceAdd, decide_true, decide_false, Bool.not_true, Bool.not_false, not_true_eq_false, not_false_eq_true, ne_eq, Bool.bne_true, Bool.bne_false, Bool.true_bne, Bool.false_bne, Bool.true_beq, Bool.false_beq, bne_self_eq_false, beq_self_eq_true, Int.reduceLT, Int.reduceLE, Int.reduceEq, Int.reduceNe, fa_27_0, fa_27_1, fa_29_0, fa_29_1, fa_29_3, fa_38_0, fa_38_1, fa_46_0, fa_46_1, fa_60_0, fa_65_0, ld_3, ld_9, ld_27, ld_35, ld_38, ld_43, ld_46, ld_107, st_3, st_27, st_35, st_38, st_43, st_46, st_107, al_3, al_27, al_38, al_46, al_107, bd_27_, bd_27_0_1, bd_27_1, bd_38_0_1, bd_46_0_1, bd_60_, bd_65_, be_4, pe0_24, pe1_24, pe2_24, pe0_40, pe1_40, pe2_40, ln_22, ln_35, ln_43, ln_49, ln_106, ix_22, ix_35, ix_43, ix_49, ix_106, slt_49, bs_30, bs_35, bs_43, bs_49, bs2_106, cv_3_5, cv_3_80, cv_3_107, cv_5_3, cv_80_3, cv_80_96, cv_96_5, cv_98_5]
  refine all_c (m3.keep0 k4) (by simp) fun w5 v5 o5 k5 => ?_
  obtain ⟨g, cap, rfl, _, hg2, _, _, hgf, hcel⟩ := o5.at (by simp)
  have c0 : cel w5 g 3 = some (.int .i64 3) := hcel 3 (by simp)
  have c1 : cel w5 g 4 = some (.int .i64 5) := hcel 4 (by simp)
  have ln3 : ((([((0, 3), 1), ((3, 5), 2), ((5, 9), 1)] : List (Pt Int)).length : Nat) : Int) = 3 := rfl
  have ix1 : ∀ {k : Value → Prop}, pur Try.prog (Instr.indexAt 43 (.slice (some ⟨g, 0, none⟩) ([((0, 3), 1), ((3, 5), 2), ((5, 9), 1)] : List (Pt Int)).length cap) (.int .i64 1)) k = k (.pointer (some ⟨g, 3, none⟩)) := fun {k} => ix_43 (i := 1) (n := 3) (kd := .i64) (by omega)
  simp only [pur_add, pur_sub, pur_mul, pur_eql, pur_neq, pur_lss, pur_leq, pur_gtr, pur_geq, pur_seql, pur_sneq, pur_max, pur_min, pur_nil, pur_pick_t, pur_pick_f, pur_not, pur_pure, pur_ext2_0, pur_ext2_1, pur_ext3_0, pur_ext3_1, pur_ext3_2, pur_ext4_0, pur_ext4_1, pur_ext4_2, pur_ext4_3, gd_hit, gd_tf, gd_ft, gd_undef, condS_true, condS_false, one_int, one_ptr, one_str, one_bool, one_map, one_slice, act_box, act_makeMap, agg_cells, Nat.zero_add, Nat.reduceAdd, decide_true, decide_false, Bool.not_true, Bool.not_false, not_true_eq_false, not_false_eq_true, ne_eq, Bool.bne_true, Bool.bne_false, Bool.true_bne, Bool.false_bne, Bool.true_beq, Bool.false_beq, bne_self_eq_false, beq_self_eq_true, Int.reduceLT, Int.reduceLE, Int.reduceEq, Int.reduceNe, fa_27_0, fa_27_1, fa_29_0, fa_29_1, fa_29_3, fa_38_0, fa_38_1, fa_46_0, fa_46_1, fa_60_0, fa_65_0, ld_3, ld_9, ld_27, ld_35, ld_38, ld_43, ld_46, ld_107, st_3, st_27, st_35, st_38, st_43, st_46, st_107, al_3, al_27, al_38, al_46, al_107, bd_27_, bd_27_0_1, bd_27_1, bd_38_0_1, bd_46_0_1, bd_60_, bd_65_, be_4, pe0_24, pe1_24, pe2_24, pe0_40, pe1_40, pe2_40, ln_22, ln_35, ln_43, ln_49, ln_106, ix_22, ix_35, ix_43, ix_49, ix_106, slt_49, bs_30, bs_35, bs_43, bs_49, bs2_106, cv_3_5, cv_3_80, cv_3_107, cv_5_3, cv_80_3, cv_80_96, cv_96_5, cv_98_5, callF_plain, nw1, nw2, nw3, nw4, nw5, nw6, nw7, nw8, nw9, nw10, nw11, nw12, resL_ptr, cel_alloc_new, cel_alloc_old, siz_lt1, siz_lt2, siz_lt3, siz_lt4, fre_alloc_new, fre_alloc_old, cel_drew, fre_drew, siz_drew, List.getElem?_toArray, List.getElem?_cons_zero, List.getElem?_cons_succ, Option.isSome_some, Option.getD_some, Option.isNone_none, Option.isNone_some, Option.isSome_none, se_27, sq_35, sq_43, sq_49, sn_46, bz_30_1, bz_35_0, bz_35_1, bz_43_0, bz_43_1, bz_49_0, bz_49_1, bz_49_2, bz_106_2, slt0_49, slf0_49, stn_3, stn_27, stn_38, stn_46, stn_107, ln3, ix1, c0, c1, Bool.and_self]
  refine len_c ((m3.keep0 k4).keep0 k5) ?_
  simp only [pur_add, pur_sub, pur_mul, pur_eql, pur_neq, pur_lss, pur_leq, pur_gtr, pur_geq, pur_seql, pur_sneq, pur_max, pur_min, pur_nil, pur_pick_t, pur_pick_f, pur_not, pur_pure, pur_ext2_0, pur_ext2_1, pur_ext3_0, pur_ext3_1, pur_ext3_2, pur_ext4_0, pur_ext4_1, pur_ext4_2, pur_ext4_3, gd_hit, gd_tf, gd_ft, gd_undef, condS_true, condS_false, one_int, one_ptr, one_str, one_bool, one_map, one_slice, act_box, act_makeMap, agg_cells, Nat.zero_add, Nat.reduceAdd, decide_true, decide_false, Bool.not_true, Bool.not_false, not_true_eq_false, not_false_eq_true, ne_eq, Bool.bne_true, Bool.bne_false, Bool.true_bne, Bool.false_bne, Bool.true_beq, Bool.false_beq, bne_self_eq_false, beq_self_eq_true, Int.reduceLT, Int.reduceLE, Int.reduceEq, Int.reduceNe, fa_27_0, fa_27_1, fa_29_0, fa_29_1, fa_29_3, fa_38_0, fa_38_1, fa_46_0, fa_46_1, fa_60_0, fa_65_0, ld_3, ld_9, ld_27, ld_35, ld_38, ld_43, ld_46, ld_107, st_3, st_27, st_35, st_38, st_43, st_46, st_107, al_3, al_27, al_38, al_46, al_107, bd_27_, bd_27_0_1, bd_27_1, bd_38_0_1, bd_46_0_1, bd_60_, bd_65_, be_4, pe0_24, pe1_24, pe2_24, pe0_40, pe1_40, pe2_40, ln_22, ln_35, ln_43, ln_49, ln_106, ix_22, ix_35, ix_43, ix_49, ix_106, slt_49, bs_30, bs_35, bs_43, bs_49, bs2_106, cv_3_5, cv_3_80, cv_3_107, cv_5_3, cv_80_3, cv_80_96, cv_96_5, cv_98_5, ln3]
  refine hq _ ?_
  have s12 := k1.size
  exact k1.trans' (((k2.trans k3).trans k4.none).trans k5.none) fun b hb e => by subst e; exact absurd hb (Nat.lt_irrefl _)
end
end Go.Proofs.Ytkmbegcjkiphjaa.Mi
