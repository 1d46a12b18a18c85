/- Queues of eight: what their functions compute, and what they touch. Conditions: as each says. -/
import Derived.Test.YtcmcdiddplmkaaaT
import Derived.Test.YtcmcdiddplmkaaaShS
import Derived.Test.YtcmcdiddplmkaaaShL
set_option linter.unusedSimpArgs false
set_option linter.unusedVariables false
namespace Go.Proofs.Ytcmcdiddplmkaaa
open Go.Sh
set_option maxRecDepth 100000
def encN (x : Int) : List Value := [.int .i64 x]
theorem encN_len (x : Int) : (encN x).length = 1 := rfl
theorem encN_one {l : List Int} {u : Value} (h : u ∈ flat encN l) : Go.Sh.one u = true := by
  obtain ⟨p, _, hu⟩ := List.mem_flatMap.1 h
  simp only [encN, List.mem_cons, List.not_mem_nil, or_false] at hu
  subst hu; exact one_int
/-- Block r is a queue of eight that holds xs; its blocks are of F. -/
structure RG (F : Nat → Prop) (w : World) (r : Nat) (xs : List Int) : Prop where
  row : ∃ sl, cel w r 0 = some sl ∧ Own w 0 3 1 sl xs.length (flat encN xs) ∧ sl.ownBlock ≠ some r ∧ ∀ b, sl.ownBlock = some b → F b
  most : cel w r 1 = some (.int .i64 8)
  fre : fre w r = true
  lt : r < siz w
  mine : F r
  few : xs.length ≤ 8
section
variable {w w' : World} {Q : Value → World → Prop} {r : Nat} {xs : List Int} {F G : Nat → Prop}
theorem RG.keep (h : RG F w r xs) (k : Keep G w w') (hG : ∀ b, F b → ¬ G b) : RG F w' r xs := by
  obtain ⟨sl, h1, h2, h3, h4⟩ := h.row
  exact ⟨⟨sl, k.cel h1 (hG _ h.mine), h2.keep k fun g hg => hG g (h4 g hg), h3, h4⟩, k.cel h.most (hG _ h.mine), k.fre h.fre (hG _ h.mine), Nat.lt_of_lt_of_le h.lt k.size, h.mine, h.few⟩
theorem RG.keep0 (h : RG F w r xs) (k : Keep (fun _ => False) w w') : RG F w' r xs := h.keep k fun _ _ => id
theorem RG.mono (h : RG F w r xs) (hF : ∀ b, F b → G b) : RG G w r xs := by
  obtain ⟨sl, h1, h2, h3, h4⟩ := h.row
  exact ⟨⟨sl, h1, h2, h3, fun b hb => hF b (h4 b hb)⟩, h.most, h.fre, h.lt, hF _ h.mine, h.few⟩
theorem ring_new (hq : ∀ w', RG (fun b => b = siz w) w' (siz w) [] → Keep (fun _ => False) w w' → Q (.pointer (some ⟨siz w, 0, none⟩)) w') : callS Try.prog 18 #[.int .i64 8] Q w := by
  refine ref18 ?_
  unfold S18
  refine ref31 ?_
  unfold S31
  have e : min (max (8 : Int) 0) 100000 = 8 := by decide
  simp only [pur_add, pur_sub, pur_mul, pur_eql, pur_neq, pur_lss, pur_leq, pur_gtr, pur_geq, pur_seql, pur_sneq, pur_max, pur_min, pur_nil, pur_pick_t, pur_pick_f, pur_not, pur_pure, pur_ext2_0, pur_ext2_1, pur_ext3_0, pur_ext3_1, pur_ext3_2, pur_ext4_0, pur_ext4_1, pur_ext4_2, pur_ext4_3, gd_hit, gd_tf, gd_ft, gd_undef, condS_true, condS_false, one_int, one_ptr, one_str, one_bool, one_map, one_slice, act_box, act_makeMap, agg_cells, Nat.zero_add, Nat.reduceAdd, decide_true, decide_false, Bool.not_true, Bool.not_false, not_true_eq_false, not_false_eq_true, ne_eq, Bool.bne_true, Bool.bne_false, Bool.true_bne, Bool.false_bne, Bool.true_beq, Bool.false_beq, bne_self_eq_false, beq_self_eq_true, Int.reduceLT, Int.reduceLE, Int.reduceEq, Int.reduceNe, fa_36_0, fa_36_1, fa_36_2, fa_44_0, fa_44_1, fa_44_2, fa_44_3, fa_47_0, fa_47_1, fa_47_2, fa_47_3, fa_47_4, fa_47_5, fa_49_0, fa_49_1, fa_56_0, fa_56_1, ld_3, ld_4, ld_22, ld_28, ld_42, ld_45, ld_78, st_3, st_4, st_22, st_42, st_78, al_3, al_78, bd_36_0_1_2, bd_44_, bd_47_0_1, bd_49_0_1, bd_56_1, pe0_24, pe1_24, pe2_24, pe0_26, pe1_26, pe2_26, pe0_28, pe1_28, pe2_28, pe0_42, pe1_42, pe2_42, me_45, pn0_24, pn1_24, pn2_24, ln_22, ln_30, ix_22, ix_30, slt_22, bs_22, bs_30, cv_3_57, cv_3_67, cv_3_78, cv_5_3, cv_57_3, cv_57_5, cv_67_3, cv_67_76, cv_76_5, callF_plain, nw1, nw2, nw3, nw4, nw5, nw6, nw7, nw8, nw9, nw10, nw11, nw12, resL_ptr, cel_alloc_new, cel_alloc_old, siz_lt1, siz_lt2, siz_lt3, siz_lt4, fre_alloc_new, fre_alloc_old, cel_drew, fre_drew, siz_drew, List.getElem?_toArray, List.getElem?_cons_zero, List.getElem?_cons_succ, Option.isSome_some, Option.getD_some, Option.isNone_none, Option.isNone_some, Option.isSome_none, bz_22_1, bz_30_1, slt0_22, slf0_22, stn_3, stn_78, e]
  refine hq _ ⟨⟨.slice none 0 0, cel_alloc_new, Own.nil _ _ _ _, (by intro h; cases h), (by intro b h; cases h)⟩, cel_alloc_new, fre_alloc_new, by rw [siz_alloc]; omega, rfl, by simp⟩ ((Keep.refl _ w).alloc _)
theorem ring_len (h : RG F w r xs) (hq : Q (.int .i64 (xs.length : Int)) w) : callS Try.prog 23 #[.pointer (some ⟨r, 0, none⟩)] Q w := by
  refine ref23 ?_
  unfold S23
  obtain ⟨sl, h1, h2, h3, h4⟩ := h.row
  obtain ⟨a, c, rfl⟩ := h2.form
  simp only [pur_add, pur_sub, pur_mul, pur_eql, pur_neq, pur_lss, pur_leq, pur_gtr, pur_geq, pur_seql, pur_sneq, pur_max, pur_min, pur_nil, pur_pick_t, pur_pick_f, pur_not, pur_pure, pur_ext2_0, pur_ext2_1, pur_ext3_0, pur_ext3_1, pur_ext3_2, pur_ext4_0, pur_ext4_1, pur_ext4_2, pur_ext4_3, gd_hit, gd_tf, gd_ft, gd_undef, condS_true, condS_false, one_int, one_ptr, one_str, one_bool, one_map, one_slice, act_box, act_makeMap, agg_cells, Nat.zero_add, Nat.reduceAdd, decide_true, decide_false, Bool.not_true, Bool.not_false, not_true_eq_false, not_false_eq_true, ne_eq, Bool.bne_true, Bool.bne_false, Bool.true_bne, Bool.false_bne, Bool.true_beq, Bool.false_beq, bne_self_eq_false, beq_self_eq_true, Int.reduceLT, Int.reduceLE, Int.reduceEq, Int.reduceNe, fa_36_0, fa_36_1, fa_36_2, fa_44_0, fa_44_1, fa_44_2, fa_44_3, fa_47_0, fa_47_1, fa_47_2, fa_47_3, fa_47_4, fa_47_5, fa_49_0, fa_49_1, fa_56_0, fa_56_1, ld_3, ld_4, ld_22, ld_28, ld_42, ld_45, ld_78, st_3, st_4, st_22, st_42, st_78, al_3, al_78, bd_36_0_1_2, bd_44_, bd_47_0_1, bd_49_0_1, bd_56_1, pe0_24, pe1_24, pe2_24, pe0_26, pe1_26, pe2_26, pe0_28, pe1_28, pe2_28, pe0_42, pe1_42, pe2_42, me_45, pn0_24, pn1_24, pn2_24, ln_22, ln_30, ix_22, ix_30, slt_22, bs_22, bs_30, cv_3_57, cv_3_67, cv_3_78, cv_5_3, cv_57_3, cv_57_5, cv_67_3, cv_67_76, cv_76_5, callF_plain, nw1, nw2, nw3, nw4, nw5, nw6, nw7, nw8, nw9, nw10, nw11, nw12, resL_ptr, cel_alloc_new, cel_alloc_old, siz_lt1, siz_lt2, siz_lt3, siz_lt4, fre_alloc_new, fre_alloc_old, cel_drew, fre_drew, siz_drew, List.getElem?_toArray, List.getElem?_cons_zero, List.getElem?_cons_succ, Option.isSome_some, Option.getD_some, Option.isNone_none, Option.isNone_some, Option.isSome_none, bz_22_1, bz_30_1, slt0_22, slf0_22, stn_3, stn_78, h1]
  exact hq
theorem ring_room (h : RG F w r xs) (hq : ∀ w', Keep (fun _ => False) w w' → Q (.int .i64 (8 - (xs.length : Int))) w') : callS Try.prog 19 #[.pointer (some ⟨r, 0, none⟩)] Q w := by
  refine ref19 ?_
  unfold S19
  obtain ⟨sl, h1, h2, h3, h4⟩ := h.row
  obtain ⟨a, c, rfl⟩ := h2.form
  have hf := h.few
  have e : IntKind.i64.wrap (8 - (xs.length : Int)) = 8 - (xs.length : Int) := wrap_id (by omega) (by omega)
  simp only [pur_add, pur_sub, pur_mul, pur_eql, pur_neq, pur_lss, pur_leq, pur_gtr, pur_geq, pur_seql, pur_sneq, pur_max, pur_min, pur_nil, pur_pick_t, pur_pick_f, pur_not, pur_pure, pur_ext2_0, pur_ext2_1, pur_ext3_0, pur_ext3_1, pur_ext3_2, pur_ext4_0, pur_ext4_1, pur_ext4_2, pur_ext4_3, gd_hit, gd_tf, gd_ft, gd_undef, condS_true, condS_false, one_int, one_ptr, one_str, one_bool, one_map, one_slice, act_box, act_makeMap, agg_cells, Nat.zero_add, Nat.reduceAdd, decide_true, decide_false, Bool.not_true, Bool.not_false, not_true_eq_false, not_false_eq_true, ne_eq, Bool.bne_true, Bool.bne_false, Bool.true_bne, Bool.false_bne, Bool.true_beq, Bool.false_beq, bne_self_eq_false, beq_self_eq_true, Int.reduceLT, Int.reduceLE, Int.reduceEq, Int.reduceNe, fa_36_0, fa_36_1, fa_36_2, fa_44_0, fa_44_1, fa_44_2, fa_44_3, fa_47_0, fa_47_1, fa_47_2, fa_47_3, fa_47_4, fa_47_5, fa_49_0, fa_49_1, fa_56_0, fa_56_1, ld_3, ld_4, ld_22, ld_28, ld_42, ld_45, ld_78, st_3, st_4, st_22, st_42, st_78, al_3, al_78, bd_36_0_1_2, bd_44_, bd_47_0_1, bd_49_0_1, bd_56_1, pe0_24, pe1_24, pe2_24, pe0_26, pe1_26, pe2_26, pe0_28, pe1_28, pe2_28, pe0_42, pe1_42, pe2_42, me_45, pn0_24, pn1_24, pn2_24, ln_22, ln_30, ix_22, ix_30, slt_22, bs_22, bs_30, cv_3_57, cv_3_67, cv_3_78, cv_5_3, cv_57_3, cv_57_5, cv_67_3, cv_67_76, cv_76_5, callF_plain, nw1, nw2, nw3, nw4, nw5, nw6, nw7, nw8, nw9, nw10, nw11, nw12, resL_ptr, cel_alloc_new, cel_alloc_old, siz_lt1, siz_lt2, siz_lt3, siz_lt4, fre_alloc_new, fre_alloc_old, cel_drew, fre_drew, siz_drew, List.getElem?_toArray, List.getElem?_cons_zero, List.getElem?_cons_succ, Option.isSome_some, Option.getD_some, Option.isNone_none, Option.isNone_some, Option.isSome_none, bz_22_1, bz_30_1, slt0_22, slf0_22, stn_3, stn_78, h1, h.most, e]
  exact hq _ (Keep.refl _ w).drew
theorem ring_list (h : RG F w r xs) (hq : ∀ w' v, Own w' (siz w) 3 1 v xs.length (flat encN xs) → Keep (fun _ => False) w w' → Q v w') : callS Try.prog 22 #[.pointer (some ⟨r, 0, none⟩)] Q w := by
  refine ref22 ?_
  unfold S22
  obtain ⟨sl, h1, h2, h3, h4⟩ := h.row
  have hf := h.few
  have r0 := h2.rd
  obtain ⟨a, c, rfl⟩ := h2.form
  simp only [pur_add, pur_sub, pur_mul, pur_eql, pur_neq, pur_lss, pur_leq, pur_gtr, pur_geq, pur_seql, pur_sneq, pur_max, pur_min, pur_nil, pur_pick_t, pur_pick_f, pur_not, pur_pure, pur_ext2_0, pur_ext2_1, pur_ext3_0, pur_ext3_1, pur_ext3_2, pur_ext4_0, pur_ext4_1, pur_ext4_2, pur_ext4_3, gd_hit, gd_tf, gd_ft, gd_undef, condS_true, condS_false, one_int, one_ptr, one_str, one_bool, one_map, one_slice, act_box, act_makeMap, agg_cells, Nat.zero_add, Nat.reduceAdd, decide_true, decide_false, Bool.not_true, Bool.not_false, not_true_eq_false, not_false_eq_true, ne_eq, Bool.bne_true, Bool.bne_false, Bool.true_bne, Bool.false_bne, Bool.true_beq, Bool.false_beq, bne_self_eq_false, beq_self_eq_true, Int.reduceLT, Int.reduceLE, Int.reduceEq, Int.reduceNe, fa_36_0, fa_36_1, fa_36_2, fa_44_0, fa_44_1, fa_44_2, fa_44_3, fa_47_0, fa_47_1, fa_47_2, fa_47_3, fa_47_4, fa_47_5, fa_49_0, fa_49_1, fa_56_0, fa_56_1, ld_3, ld_4, ld_22, ld_28, ld_42, ld_45, ld_78, st_3, st_4, st_22, st_42, st_78, al_3, al_78, bd_36_0_1_2, bd_44_, bd_47_0_1, bd_49_0_1, bd_56_1, pe0_24, pe1_24, pe2_24, pe0_26, pe1_26, pe2_26, pe0_28, pe1_28, pe2_28, pe0_42, pe1_42, pe2_42, me_45, pn0_24, pn1_24, pn2_24, ln_22, ln_30, ix_22, ix_30, slt_22, bs_22, bs_30, cv_3_57, cv_3_67, cv_3_78, cv_5_3, cv_57_3, cv_57_5, cv_67_3, cv_67_76, cv_76_5, callF_plain, nw1, nw2, nw3, nw4, nw5, nw6, nw7, nw8, nw9, nw10, nw11, nw12, resL_ptr, cel_alloc_new, cel_alloc_old, siz_lt1, siz_lt2, siz_lt3, siz_lt4, fre_alloc_new, fre_alloc_old, cel_drew, fre_drew, siz_drew, List.getElem?_toArray, List.getElem?_cons_zero, List.getElem?_cons_succ, Option.isSome_some, Option.getD_some, Option.isNone_none, Option.isNone_some, Option.isSome_none, bz_22_1, bz_30_1, slt0_22, slf0_22, stn_3, stn_78, h1]
  have nl : Own w (siz w) 3 1 (.slice none 0 0) 0 [] := Own.nil _ _ _ _
  rcases Nat.eq_zero_or_pos xs.length with h0 | hp
  · have hx := List.length_eq_zero_iff.1 h0
    rw [h0, ap0_22 nl]
    subst hx
    exact hq _ _ nl (Keep.refl _ w)
  · obtain ⟨b, o, c', e, _, hc⟩ := r0.at hp
    injection e with e1 _ e2
    subst e1 e2
    refine ap_22 nl r0.len hc (fun u hu => encN_one hu) (by omega) (Nat.le_refl _) fun v' w' ho hg hr => hq _ _ ?_ ((Keep.refl _ w).grown hg fun g hg' => by cases hg')
    rw [Nat.zero_add, List.nil_append] at ho; exact ho
theorem ring_push {x : Int} {b : Nat} (h : RG F w r xs) (hx : cel w b 0 = some (.int .i64 x)) (hn : xs.length < 8)
    (hq : ∀ w' F', RG F' w' r (xs ++ [x]) → (∀ b, F' b → F b ∨ siz w ≤ b) → Keep F w w' → Q (.int .i64 1) w') :
    callS Try.prog 21 #[.pointer (some ⟨r, 0, none⟩), .slice (some ⟨b, 0, none⟩) 1 1] Q w := by
  refine ref21 ?_
  unfold S21
  simp only [pur_add, pur_sub, pur_mul, pur_eql, pur_neq, pur_lss, pur_leq, pur_gtr, pur_geq, pur_seql, pur_sneq, pur_max, pur_min, pur_nil, pur_pick_t, pur_pick_f, pur_not, pur_pure, pur_ext2_0, pur_ext2_1, pur_ext3_0, pur_ext3_1, pur_ext3_2, pur_ext4_0, pur_ext4_1, pur_ext4_2, pur_ext4_3, gd_hit, gd_tf, gd_ft, gd_undef, condS_true, condS_false, one_int, one_ptr, one_str, one_bool, one_map, one_slice, act_box, act_makeMap, agg_cells, Nat.zero_add, Nat.reduceAdd, decide_true, decide_false, Bool.not_true, Bool.not_false, not_true_eq_false, not_false_eq_true, ne_eq, Bool.bne_true, Bool.bne_false, Bool.true_bne, Bool.false_bne, Bool.true_beq, Bool.false_beq, bne_self_eq_false, beq_self_eq_true, Int.reduceLT, Int.reduceLE, Int.reduceEq, Int.reduceNe, fa_36_0, fa_36_1, fa_36_2, fa_44_0, fa_44_1, fa_44_2, fa_44_3, fa_47_0, fa_47_1, fa_47_2, fa_47_3, fa_47_4, fa_47_5, fa_49_0, fa_49_1, fa_56_0, fa_56_1, ld_3, ld_4, ld_22, ld_28, ld_42, ld_45, ld_78, st_3, st_4, st_22, st_42, st_78, al_3, al_78, bd_36_0_1_2, bd_44_, bd_47_0_1, bd_49_0_1, bd_56_1, pe0_24, pe1_24, pe2_24, pe0_26, pe1_26, pe2_26, pe0_28, pe1_28, pe2_28, pe0_42, pe1_42, pe2_42, me_45, pn0_24, pn1_24, pn2_24, ln_22, ln_30, ix_22, ix_30, slt_22, bs_22, bs_30, cv_3_57, cv_3_67, cv_3_78, cv_5_3, cv_57_3, cv_57_5, cv_67_3, cv_67_76, cv_76_5, callF_plain, nw1, nw2, nw3, nw4, nw5, nw6, nw7, nw8, nw9, nw10, nw11, nw12, resL_ptr, cel_alloc_new, cel_alloc_old, siz_lt1, siz_lt2, siz_lt3, siz_lt4, fre_alloc_new, fre_alloc_old, cel_drew, fre_drew, siz_drew, List.getElem?_toArray, List.getElem?_cons_zero, List.getElem?_cons_succ, Option.isSome_some, Option.getD_some, Option.isNone_none, Option.isNone_some, Option.isSome_none, bz_22_1, bz_30_1, slt0_22, slf0_22, stn_3, stn_78]
  refine ring_room h fun w1 k1 => ?_
  have hr1 := h.keep0 k1
  obtain ⟨sl, h1, h2, h3, h4⟩ := hr1.row
  have e : min ((1 : Nat) : Int) (8 - (xs.length : Int)) = ((1 : Nat) : Int) := by omega
  have e1 : (0 : Int) < ((1 : Nat) : Int) := by omega
  simp only [pur_add, pur_sub, pur_mul, pur_eql, pur_neq, pur_lss, pur_leq, pur_gtr, pur_geq, pur_seql, pur_sneq, pur_max, pur_min, pur_nil, pur_pick_t, pur_pick_f, pur_not, pur_pure, pur_ext2_0, pur_ext2_1, pur_ext3_0, pur_ext3_1, pur_ext3_2, pur_ext4_0, pur_ext4_1, pur_ext4_2, pur_ext4_3, gd_hit, gd_tf, gd_ft, gd_undef, condS_true, condS_false, one_int, one_ptr, one_str, one_bool, one_map, one_slice, act_box, act_makeMap, agg_cells, Nat.zero_add, Nat.reduceAdd, decide_true, decide_false, Bool.not_true, Bool.not_false, not_true_eq_false, not_false_eq_true, ne_eq, Bool.bne_true, Bool.bne_false, Bool.true_bne, Bool.false_bne, Bool.true_beq, Bool.false_beq, bne_self_eq_false, beq_self_eq_true, Int.reduceLT, Int.reduceLE, Int.reduceEq, Int.reduceNe, fa_36_0, fa_36_1, fa_36_2, fa_44_0, fa_44_1, fa_44_2, fa_44_3, fa_47_0, fa_47_1, fa_47_2, fa_47_3, fa_47_4, fa_47_5, fa_49_0, fa_49_1, fa_56_0, fa_56_1, ld_3, ld_4, ld_22, ld_28, ld_42, ld_45, ld_78, st_3, st_4, st_22, st_42, st_78, al_3, al_78, bd_36_0_1_2, bd_44_, bd_47_0_1, bd_49_0_1, bd_56_1, pe0_24, pe1_24, pe2_24, pe0_26, pe1_26, pe2_26, pe0_28, pe1_28, pe2_28, pe0_42, pe1_42, pe2_42, me_45, pn0_24, pn1_24, pn2_24, ln_22, ln_30, ix_22, ix_30, slt_22, bs_22, bs_30, cv_3_57, cv_3_67, cv_3_78, cv_5_3, cv_57_3, cv_57_5, cv_67_3, cv_67_76, cv_76_5, e, e1]
  refine jn0 (fun w' => ∃ F', RG F' w' r (xs ++ [x]) ∧ (∀ b, F' b → F b ∨ siz w ≤ b) ∧ Keep F w w') (fun J hJ => ?_) ?_
  · have c1 : cel w1.drew r 0 = some sl := h1
    obtain ⟨a, c, hsl⟩ := h2.form
    simp only [pur_add, pur_sub, pur_mul, pur_eql, pur_neq, pur_lss, pur_leq, pur_gtr, pur_geq, pur_seql, pur_sneq, pur_max, pur_min, pur_nil, pur_pick_t, pur_pick_f, pur_not, pur_pure, pur_ext2_0, pur_ext2_1, pur_ext3_0, pur_ext3_1, pur_ext3_2, pur_ext4_0, pur_ext4_1, pur_ext4_2, pur_ext4_3, gd_hit, gd_tf, gd_ft, gd_undef, condS_true, condS_false, one_int, one_ptr, one_str, one_bool, one_map, one_slice, act_box, act_makeMap, agg_cells, Nat.zero_add, Nat.reduceAdd, decide_true, decide_false, Bool.not_true, Bool.not_false, not_true_eq_false, not_false_eq_true, ne_eq, Bool.bne_true, Bool.bne_false, Bool.true_bne, Bool.false_bne, Bool.true_beq, Bool.false_beq, bne_self_eq_false, beq_self_eq_true, Int.reduceLT, Int.reduceLE, Int.reduceEq, Int.reduceNe, fa_36_0, fa_36_1, fa_36_2, fa_44_0, fa_44_1, fa_44_2, fa_44_3, fa_47_0, fa_47_1, fa_47_2, fa_47_3, fa_47_4, fa_47_5, fa_49_0, fa_49_1, fa_56_0, fa_56_1, ld_3, ld_4, ld_22, ld_28, ld_42, ld_45, ld_78, st_3, st_4, st_22, st_42, st_78, al_3, al_78, bd_36_0_1_2, bd_44_, bd_47_0_1, bd_49_0_1, bd_56_1, pe0_24, pe1_24, pe2_24, pe0_26, pe1_26, pe2_26, pe0_28, pe1_28, pe2_28, pe0_42, pe1_42, pe2_42, me_45, pn0_24, pn1_24, pn2_24, ln_22, ln_30, ix_22, ix_30, slt_22, bs_22, bs_30, cv_3_57, cv_3_67, cv_3_78, cv_5_3, cv_57_3, cv_57_5, cv_67_3, cv_67_76, cv_76_5, callF_plain, nw1, nw2, nw3, nw4, nw5, nw6, nw7, nw8, nw9, nw10, nw11, nw12, resL_ptr, cel_alloc_new, cel_alloc_old, siz_lt1, siz_lt2, siz_lt3, siz_lt4, fre_alloc_new, fre_alloc_old, cel_drew, fre_drew, siz_drew, List.getElem?_toArray, List.getElem?_cons_zero, List.getElem?_cons_succ, Option.isSome_some, Option.getD_some, Option.isNone_none, Option.isNone_some, Option.isSome_none, bz_22_1, bz_30_1, slt0_22, slf0_22, stn_3, stn_78, c1]
    rw [slt_22 (j := 1) (by omega)]
    have kd := (Keep.refl (fun _ => False) w1).drew
    have o2 := h2.keep kd fun _ _ => id
    have s1 := k1.size
    have sd : siz w1.drew = siz w1 := rfl
    refine ap_22 (news := [.int .i64 x]) (m := 1) o2 rfl (fun j hj => ?_) (by intro u hu; simp only [List.mem_cons, List.not_mem_nil, or_false] at hu; subst hu; exact one_int) (by omega) (Nat.zero_le _) fun v' w2 ho hg hr => ?_
    · have : j = 0 := by omega
      subst this
      exact k1.cel hx id
    · have k2 : Keep (fun b => sl.ownBlock = some b) w1.drew w2 := (Keep.refl _ _).grown hg fun g hg' => .inl hg'
      have c2 : cel w2 r 0 = some sl := k2.cel c1 h3
      have m2 : cel w2 r 1 = some (.int .i64 8) := k2.cel (kd.cel hr1.most id) h3
      have f2 : fre w2 r = true := k2.fre (kd.fre hr1.fre id) h3
      have i2 : (cel w2 r 0).isSome = true := by rw [c2]; rfl
      have s2 := k2.size
      have hlt := h.lt
      obtain ⟨a', c', rfl⟩ := ho.form
      have hne : (Value.slice a' (xs.length + 1) c').ownBlock ≠ some r := fun e => by
        rcases hr r e with h5 | h5
        · exact h3 h5
        · omega
      rw [st_22 one_slice i2 f2]
      refine hJ _ ⟨fun b => F b ∨ siz w ≤ b, ⟨⟨_, cel_sto_same i2, ?_, hne, fun b hb => ?_⟩, ?_, ?_, ?_, .inl h.mine, by simp; omega⟩, fun b hb => hb, ?_⟩
      · rw [flat_append, flat_one, List.length_append]
        exact ho.keep ((Keep.refl (fun b => b = r) w2).sto (b := r) (.inl rfl) _ _) fun g hg' e => hne (by rw [hg', e])
      · rcases hr b hb with h5 | h5
        · exact .inl (h4 b h5)
        · exact .inr (by omega)
      · rw [cel_sto_ne (by omega)]; exact m2
      · rw [fre_sto]; exact f2
      · rw [siz_sto]; omega
      · exact (((k1.none.trans kd.none).trans' k2 fun b hb e => h4 b e).sto (.inl h.mine) _ _)
  · rintro w2 ⟨F', h1, h2, h3⟩ _
    exact hq _ _ h1 h2 h3
theorem ring_pop {x : Int} (h : RG F w r (x :: xs))
    (hq : ∀ w' F' v, RG F' w' r xs → (∀ b, F' b → F b ∨ siz w ≤ b) → Keep F w w' → Q v w') :
    callS Try.prog 20 #[.pointer (some ⟨r, 0, none⟩)] Q w := by
  refine ref20 ?_
  unfold S20
  obtain ⟨sl, h1, h2, h3, h4⟩ := h.row
  obtain ⟨g, cg, rfl, _, hgl, hcn, _, _, hcel⟩ := h2.at (by simp)
  have c0 : cel w g 0 = some (.int .i64 x) := hcel 0 (by simp)
  have hfew := h.few
  have hlen : (x :: xs).length = xs.length + 1 := rfl
  refine ref32 ?_
  unfold S32
  have n0 : ¬ (0 : Int) < 0 := by omega
  simp only [pur_add, pur_sub, pur_mul, pur_eql, pur_neq, pur_lss, pur_leq, pur_gtr, pur_geq, pur_seql, pur_sneq, pur_max, pur_min, pur_nil, pur_pick_t, pur_pick_f, pur_not, pur_pure, pur_ext2_0, pur_ext2_1, pur_ext3_0, pur_ext3_1, pur_ext3_2, pur_ext4_0, pur_ext4_1, pur_ext4_2, pur_ext4_3, gd_hit, gd_tf, gd_ft, gd_undef, condS_true, condS_false, one_int, one_ptr, one_str, one_bool, one_map, one_slice, act_box, act_makeMap, agg_cells, Nat.zero_add, Nat.reduceAdd, decide_true, decide_false, Bool.not_true, Bool.not_false, not_true_eq_false, not_false_eq_true, ne_eq, Bool.bne_true, Bool.bne_false, Bool.true_bne, Bool.false_bne, Bool.true_beq, Bool.false_beq, bne_self_eq_false, beq_self_eq_true, Int.reduceLT, Int.reduceLE, Int.reduceEq, Int.reduceNe, fa_36_0, fa_36_1, fa_36_2, fa_44_0, fa_44_1, fa_44_2, fa_44_3, fa_47_0, fa_47_1, fa_47_2, fa_47_3, fa_47_4, fa_47_5, fa_49_0, fa_49_1, fa_56_0, fa_56_1, ld_3, ld_4, ld_22, ld_28, ld_42, ld_45, ld_78, st_3, st_4, st_22, st_42, st_78, al_3, al_78, bd_36_0_1_2, bd_44_, bd_47_0_1, bd_49_0_1, bd_56_1, pe0_24, pe1_24, pe2_24, pe0_26, pe1_26, pe2_26, pe0_28, pe1_28, pe2_28, pe0_42, pe1_42, pe2_42, me_45, pn0_24, pn1_24, pn2_24, ln_22, ln_30, ix_22, ix_30, slt_22, bs_22, bs_30, cv_3_57, cv_3_67, cv_3_78, cv_5_3, cv_57_3, cv_57_5, cv_67_3, cv_67_76, cv_76_5, callF_plain, nw1, nw2, nw3, nw4, nw5, nw6, nw7, nw8, nw9, nw10, nw11, nw12, resL_ptr, cel_alloc_new, cel_alloc_old, siz_lt1, siz_lt2, siz_lt3, siz_lt4, fre_alloc_new, fre_alloc_old, cel_drew, fre_drew, siz_drew, List.getElem?_toArray, List.getElem?_cons_zero, List.getElem?_cons_succ, Option.isSome_some, Option.getD_some, Option.isNone_none, Option.isNone_some, Option.isSome_none, bz_22_1, bz_30_1, slt0_22, slf0_22, stn_3, stn_78, n0]
  refine ring_len h ?_
  have n1 : ¬ (((x :: xs).length : Nat) : Int) ≤ 0 := by rw [hlen]; omega
  have ix0 : ∀ {k : Value → Prop}, pur Try.prog (Instr.indexAt 22 (.slice (some ⟨g, 0, none⟩) (x :: xs).length cg) (.int .i64 0)) k = k (.pointer (some ⟨g, 0, none⟩)) := fun {k} => ix_22 (i := 0) (kd := .i64) (by simp)
  simp only [pur_add, pur_sub, pur_mul, pur_eql, pur_neq, pur_lss, pur_leq, pur_gtr, pur_geq, pur_seql, pur_sneq, pur_max, pur_min, pur_nil, pur_pick_t, pur_pick_f, pur_not, pur_pure, pur_ext2_0, pur_ext2_1, pur_ext3_0, pur_ext3_1, pur_ext3_2, pur_ext4_0, pur_ext4_1, pur_ext4_2, pur_ext4_3, gd_hit, gd_tf, gd_ft, gd_undef, condS_true, condS_false, one_int, one_ptr, one_str, one_bool, one_map, one_slice, act_box, act_makeMap, agg_cells, Nat.zero_add, Nat.reduceAdd, decide_true, decide_false, Bool.not_true, Bool.not_false, not_true_eq_false, not_false_eq_true, ne_eq, Bool.bne_true, Bool.bne_false, Bool.true_bne, Bool.false_bne, Bool.true_beq, Bool.false_beq, bne_self_eq_false, beq_self_eq_true, Int.reduceLT, Int.reduceLE, Int.reduceEq, Int.reduceNe, fa_36_0, fa_36_1, fa_36_2, fa_44_0, fa_44_1, fa_44_2, fa_44_3, fa_47_0, fa_47_1, fa_47_2, fa_47_3, fa_47_4, fa_47_5, fa_49_0, fa_49_1, fa_56_0, fa_56_1, ld_3, ld_4, ld_22, ld_28, ld_42, ld_45, ld_78, st_3, st_4, st_22, st_42, st_78, al_3, al_78, bd_36_0_1_2, bd_44_, bd_47_0_1, bd_49_0_1, bd_56_1, pe0_24, pe1_24, pe2_24, pe0_26, pe1_26, pe2_26, pe0_28, pe1_28, pe2_28, pe0_42, pe1_42, pe2_42, me_45, pn0_24, pn1_24, pn2_24, ln_22, ln_30, ix_22, ix_30, slt_22, bs_22, bs_30, cv_3_57, cv_3_67, cv_3_78, cv_5_3, cv_57_3, cv_57_5, cv_67_3, cv_67_76, cv_76_5, callF_plain, nw1, nw2, nw3, nw4, nw5, nw6, nw7, nw8, nw9, nw10, nw11, nw12, resL_ptr, cel_alloc_new, cel_alloc_old, siz_lt1, siz_lt2, siz_lt3, siz_lt4, fre_alloc_new, fre_alloc_old, cel_drew, fre_drew, siz_drew, List.getElem?_toArray, List.getElem?_cons_zero, List.getElem?_cons_succ, Option.isSome_some, Option.getD_some, Option.isNone_none, Option.isNone_some, Option.isSome_none, bz_22_1, bz_30_1, slt0_22, slf0_22, stn_3, stn_78, n1, h1, ix0, c0]
  refine ref33 ?_
  unfold S33
  simp only [pur_add, pur_sub, pur_mul, pur_eql, pur_neq, pur_lss, pur_leq, pur_gtr, pur_geq, pur_seql, pur_sneq, pur_max, pur_min, pur_nil, pur_pick_t, pur_pick_f, pur_not, pur_pure, pur_ext2_0, pur_ext2_1, pur_ext3_0, pur_ext3_1, pur_ext3_2, pur_ext4_0, pur_ext4_1, pur_ext4_2, pur_ext4_3, gd_hit, gd_tf, gd_ft, gd_undef, condS_true, condS_false, one_int, one_ptr, one_str, one_bool, one_map, one_slice, act_box, act_makeMap, agg_cells, Nat.zero_add, Nat.reduceAdd, decide_true, decide_false, Bool.not_true, Bool.not_false, not_true_eq_false, not_false_eq_true, ne_eq, Bool.bne_true, Bool.bne_false, Bool.true_bne, Bool.false_bne, Bool.true_beq, Bool.false_beq, bne_self_eq_false, beq_self_eq_true, Int.reduceLT, Int.reduceLE, Int.reduceEq, Int.reduceNe, fa_36_0, fa_36_1, fa_36_2, fa_44_0, fa_44_1, fa_44_2, fa_44_3, fa_47_0, fa_47_1, fa_47_2, fa_47_3, fa_47_4, fa_47_5, fa_49_0, fa_49_1, fa_56_0, fa_56_1, ld_3, ld_4, ld_22, ld_28, ld_42, ld_45, ld_78, st_3, st_4, st_22, st_42, st_78, al_3, al_78, bd_36_0_1_2, bd_44_, bd_47_0_1, bd_49_0_1, bd_56_1, pe0_24, pe1_24, pe2_24, pe0_26, pe1_26, pe2_26, pe0_28, pe1_28, pe2_28, pe0_42, pe1_42, pe2_42, me_45, pn0_24, pn1_24, pn2_24, ln_22, ln_30, ix_22, ix_30, slt_22, bs_22, bs_30, cv_3_57, cv_3_67, cv_3_78, cv_5_3, cv_57_3, cv_57_5, cv_67_3, cv_67_76, cv_76_5, callF_plain, nw1, nw2, nw3, nw4, nw5, nw6, nw7, nw8, nw9, nw10, nw11, nw12, resL_ptr, cel_alloc_new, cel_alloc_old, siz_lt1, siz_lt2, siz_lt3, siz_lt4, fre_alloc_new, fre_alloc_old, cel_drew, fre_drew, siz_drew, List.getElem?_toArray, List.getElem?_cons_zero, List.getElem?_cons_succ, Option.isSome_some, Option.getD_some, Option.isNone_none, Option.isNone_some, Option.isSome_none, bz_22_1, bz_30_1, slt0_22, slf0_22, stn_3, stn_78]
  refine ring_len h ?_
  have e : min (max (1 : Int) 0) (((x :: xs).length : Nat) : Int) = ((1 : Nat) : Int) := by rw [hlen]; omega
  have e1 : (0 : Int) < ((1 : Nat) : Int) := by omega
  simp only [pur_add, pur_sub, pur_mul, pur_eql, pur_neq, pur_lss, pur_leq, pur_gtr, pur_geq, pur_seql, pur_sneq, pur_max, pur_min, pur_nil, pur_pick_t, pur_pick_f, pur_not, pur_pure, pur_ext2_0, pur_ext2_1, pur_ext3_0, pur_ext3_1, pur_ext3_2, pur_ext4_0, pur_ext4_1, pur_ext4_2, pur_ext4_3, gd_hit, gd_tf, gd_ft, gd_undef, condS_true, condS_false, one_int, one_ptr, one_str, one_bool, one_map, one_slice, act_box, act_makeMap, agg_cells, Nat.zero_add, Nat.reduceAdd, decide_true, decide_false, Bool.not_true, Bool.not_false, not_true_eq_false, not_false_eq_true, ne_eq, Bool.bne_true, Bool.bne_false, Bool.true_bne, Bool.false_bne, Bool.true_beq, Bool.false_beq, bne_self_eq_false, beq_self_eq_true, Int.reduceLT, Int.reduceLE, Int.reduceEq, Int.reduceNe, fa_36_0, fa_36_1, fa_36_2, fa_44_0, fa_44_1, fa_44_2, fa_44_3, fa_47_0, fa_47_1, fa_47_2, fa_47_3, fa_47_4, fa_47_5, fa_49_0, fa_49_1, fa_56_0, fa_56_1, ld_3, ld_4, ld_22, ld_28, ld_42, ld_45, ld_78, st_3, st_4, st_22, st_42, st_78, al_3, al_78, bd_36_0_1_2, bd_44_, bd_47_0_1, bd_49_0_1, bd_56_1, pe0_24, pe1_24, pe2_24, pe0_26, pe1_26, pe2_26, pe0_28, pe1_28, pe2_28, pe0_42, pe1_42, pe2_42, me_45, pn0_24, pn1_24, pn2_24, ln_22, ln_30, ix_22, ix_30, slt_22, bs_22, bs_30, cv_3_57, cv_3_67, cv_3_78, cv_5_3, cv_57_3, cv_57_5, cv_67_3, cv_67_76, cv_76_5, e, e1]
  refine jn0 (fun w' => ∃ F', RG F' w' r xs ∧ (∀ b, F' b → F b ∨ siz w ≤ b) ∧ Keep F w w') (fun J hJ => ?_) ?_
  · simp only [pur_add, pur_sub, pur_mul, pur_eql, pur_neq, pur_lss, pur_leq, pur_gtr, pur_geq, pur_seql, pur_sneq, pur_max, pur_min, pur_nil, pur_pick_t, pur_pick_f, pur_not, pur_pure, pur_ext2_0, pur_ext2_1, pur_ext3_0, pur_ext3_1, pur_ext3_2, pur_ext4_0, pur_ext4_1, pur_ext4_2, pur_ext4_3, gd_hit, gd_tf, gd_ft, gd_undef, condS_true, condS_false, one_int, one_ptr, one_str, one_bool, one_map, one_slice, act_box, act_makeMap, agg_cells, Nat.zero_add, Nat.reduceAdd, decide_true, decide_false, Bool.not_true, Bool.not_false, not_true_eq_false, not_false_eq_true, ne_eq, Bool.bne_true, Bool.bne_false, Bool.true_bne, Bool.false_bne, Bool.true_beq, Bool.false_beq, bne_self_eq_false, beq_self_eq_true, Int.reduceLT, Int.reduceLE, Int.reduceEq, Int.reduceNe, fa_36_0, fa_36_1, fa_36_2, fa_44_0, fa_44_1, fa_44_2, fa_44_3, fa_47_0, fa_47_1, fa_47_2, fa_47_3, fa_47_4, fa_47_5, fa_49_0, fa_49_1, fa_56_0, fa_56_1, ld_3, ld_4, ld_22, ld_28, ld_42, ld_45, ld_78, st_3, st_4, st_22, st_42, st_78, al_3, al_78, bd_36_0_1_2, bd_44_, bd_47_0_1, bd_49_0_1, bd_56_1, pe0_24, pe1_24, pe2_24, pe0_26, pe1_26, pe2_26, pe0_28, pe1_28, pe2_28, pe0_42, pe1_42, pe2_42, me_45, pn0_24, pn1_24, pn2_24, ln_22, ln_30, ix_22, ix_30, slt_22, bs_22, bs_30, cv_3_57, cv_3_67, cv_3_78, cv_5_3, cv_57_3, cv_57_5, cv_67_3, cv_67_76, cv_76_5, callF_plain, nw1, nw2, nw3, nw4, nw5, nw6, nw7, nw8, nw9, nw10, nw11, nw12, resL_ptr, cel_alloc_new, cel_alloc_old, siz_lt1, siz_lt2, siz_lt3, siz_lt4, fre_alloc_new, fre_alloc_old, cel_drew, fre_drew, siz_drew, List.getElem?_toArray, List.getElem?_cons_zero, List.getElem?_cons_succ, Option.isSome_some, Option.getD_some, Option.isNone_none, Option.isNone_some, Option.isSome_none, bz_22_1, bz_30_1, slt0_22, slf0_22, stn_3, stn_78, h1]
    rw [slf_22 (i := 1) (by simp) hcn]
    have nl : Own w (siz w) 3 1 (.slice none 0 0) 0 [] := Own.nil _ _ _ _
    have hcel0 : ∀ j, j < (x :: xs).length * 1 → cel w g (0 + j) = (flat encN (x :: xs))[j]? := fun j hj => by rw [Nat.zero_add]; exact hcel j hj
    have rt : Rd 1 w (.slice (some (if cg = 1 then ⟨g, 0, none⟩ else ⟨g, 0 + 1 * 1, none⟩)) ((x :: xs).length - 1) (cg - 1)) ((x :: xs).length - 1) ((flat encN (x :: xs)).drop (1 * 1)) := by
      refine Rd.from (flat_len encN_len _) hcel0 (by simp) hcn fun h => ?_
      rw [if_neg (by omega)]
    have hdrop : (flat encN (x :: xs)).drop (1 * 1) = flat encN xs := rfl
    rw [hdrop] at rt
    have hl1 : (x :: xs).length - 1 = xs.length := rfl
    rw [hl1] at rt ⊢
    have fin : ∀ v' w2, Own w2 (siz w) 3 1 v' xs.length (flat encN xs) → Keep (fun _ => False) w w2 → act Try.prog (thenU (Instr.storeAt 22 (.pointer (some ⟨r, 0, none⟩)) v')) (fun _ w_3 => J w_3) w2 := fun v' w2 ho k2 => by
      have c2 : cel w2 r 0 = some _ := k2.cel h1 id
      have i2 : (cel w2 r 0).isSome = true := by rw [c2]; rfl
      have s2 := k2.size
      have hlt := h.lt
      obtain ⟨a', c', rfl⟩ := ho.form
      have hne : (Value.slice a' xs.length c').ownBlock ≠ some r := fun e => by have := (ho.lt e).1; omega
      rw [st_22 one_slice i2 (k2.fre h.fre id)]
      refine hJ _ ⟨fun b => F b ∨ siz w ≤ b, ⟨⟨_, cel_sto_same i2, ?_, hne, fun b hb => .inr (ho.lt hb).1⟩, ?_, ?_, ?_, .inl h.mine, by omega⟩, fun b hb => hb, ?_⟩
      · exact (ho.le (Nat.zero_le _)).keep ((Keep.refl (fun b => b = r) w2).sto (b := r) (.inl rfl) _ _) fun g hg' e => hne (by rw [hg', e])
      · rw [cel_sto_ne (by omega)]; exact k2.cel h.most id
      · rw [fre_sto]; exact k2.fre h.fre id
      · rw [siz_sto]; omega
      · exact k2.none.sto (.inl h.mine) _ _
    rcases Nat.eq_zero_or_pos xs.length with h0 | hp
    · have hx := List.length_eq_zero_iff.1 h0
      subst hx
      simp only [List.length_nil]
      rw [ap0_22 nl]
      exact fin _ _ nl (Keep.refl _ w)
    · obtain ⟨b, o, c', e, _, hc⟩ := rt.at hp
      rw [e]
      refine ap_22 nl rt.len hc (fun u hu => encN_one hu) (by omega) (Nat.le_refl _) fun v' w' ho hg hr => fin _ _ ?_ ((Keep.refl _ w).grown hg fun g hg' => by cases hg')
      rw [Nat.zero_add, List.nil_append] at ho; exact ho
  · rintro w2 ⟨F', h1, h2, h3⟩ _
    exact hq _ _ _ h1 h2 h3
end
end Go.Proofs.Ytcmcdiddplmkaaa
