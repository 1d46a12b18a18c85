/- The cache of last uses, keys int, values int: what each of its functions does. Conditions: the cache lies in memory as 'Rep' says. -/
import Derived.Test.YtkdanklgcgjijaaT
import Derived.Test.YtkdanklgcgjijaaShL
import Derived.Test.YtkdanklgcgjijaaLruB
import Derived.Test.YtkdanklgcgjijaaLruIi
set_option linter.unusedSimpArgs false
set_option linter.unusedVariables false
namespace Go.Proofs.Ytkdanklgcgjijaa.Lii
open Go.Sh Go.Sh.Lru

section
variable {B : Nat} {w : World} {c mb room : Nat} {L : List Nd} {Q : Value → World → Prop}


theorem pinned_hit {n : Nd} (h : Rep isI64 B w c mb room L) (hn : n ∈ L) (hq : Q (.int .i64 n.p) w) : callS Try.prog 20 #[.pointer (some ⟨c, 0, none⟩), n.k] Q w := by
  refine ref20 ?_
  unfold S20
  refine find_hit h hn ?_
  simp only [pur_add, pur_sub, pur_mul, pur_eql, pur_neq, pur_lss, pur_leq, pur_gtr, pur_geq, pur_seql, pur_sneq, pur_max, pur_min, pur_nil, pur_pick_t, pur_pick_f, pur_not, pur_pure, pur_ext2_0, pur_ext2_1, pur_ext3_0, pur_ext3_1, pur_ext3_2, pur_ext4_0, pur_ext4_1, pur_ext4_2, pur_ext4_3, gd_hit, gd_tf, gd_ft, gd_undef, condS_true, condS_false, one_int, one_ptr, one_str, one_bool, one_map, one_slice, act_box, act_makeMap, agg_cells, Nat.zero_add, Nat.reduceAdd, decide_true, decide_false, Bool.not_true, Bool.not_false, not_true_eq_false, not_false_eq_true, ne_eq, Bool.bne_true, Bool.bne_false, Bool.true_bne, Bool.false_bne, Bool.true_beq, Bool.false_beq, bne_self_eq_false, beq_self_eq_true, Int.reduceLT, Int.reduceLE, Int.reduceEq, Int.reduceNe, fa_53_0, fa_53_1, fa_53_2, fa_53_3, fa_53_4, fa_55_0, fa_55_1, fa_55_2, fa_62_0, fa_62_1, fa_62_2, fa_62_3, fa_62_4, fa_64_0, fa_64_1, fa_64_2, fa_71_0, fa_71_1, fa_71_2, fa_71_3, fa_71_4, fa_73_0, fa_73_1, fa_73_2, ld_3, ld_9, ld_50, ld_51, ld_59, ld_60, ld_68, ld_69, st_3, st_9, st_51, st_60, st_69, al_53, al_62, al_71, bd_53_0_1, bd_55_0_2, bd_62_0_1, bd_64_0_2, bd_71_0_1, bd_73_0_2, pe0_24, pe1_24, pe2_24, pe0_33, pe1_33, pe2_33, pe0_41, pe1_41, pe2_41, pe0_51, pe1_51, pe2_51, pe0_60, pe1_60, pe2_60, pe0_69, pe1_69, pe2_69, bn_4, pn0_51, pn1_51, pn2_51, pn0_60, pn1_60, pn2_60, pn0_69, pn1_69, pn2_69, ln_22, ln_32, ix_22, ix_32, bs_22, bs_32, (h.node n hn).p, Option.isSome_some, Option.getD_some]
  exact hq
theorem pinned_miss {k : Value} (h : Rep isI64 B w c mb room L) (hk : isI64 k) (hn : ∀ n ∈ L, n.k ≠ k) (hq : Q (.int .i64 0) w) :
    callS Try.prog 20 #[.pointer (some ⟨c, 0, none⟩), k] Q w := by
  refine ref20 ?_
  unfold S20
  refine find_miss h hk hn ?_
  simp only [pur_add, pur_sub, pur_mul, pur_eql, pur_neq, pur_lss, pur_leq, pur_gtr, pur_geq, pur_seql, pur_sneq, pur_max, pur_min, pur_nil, pur_pick_t, pur_pick_f, pur_not, pur_pure, pur_ext2_0, pur_ext2_1, pur_ext3_0, pur_ext3_1, pur_ext3_2, pur_ext4_0, pur_ext4_1, pur_ext4_2, pur_ext4_3, gd_hit, gd_tf, gd_ft, gd_undef, condS_true, condS_false, one_int, one_ptr, one_str, one_bool, one_map, one_slice, act_box, act_makeMap, agg_cells, Nat.zero_add, Nat.reduceAdd, decide_true, decide_false, Bool.not_true, Bool.not_false, not_true_eq_false, not_false_eq_true, ne_eq, Bool.bne_true, Bool.bne_false, Bool.true_bne, Bool.false_bne, Bool.true_beq, Bool.false_beq, bne_self_eq_false, beq_self_eq_true, Int.reduceLT, Int.reduceLE, Int.reduceEq, Int.reduceNe, fa_53_0, fa_53_1, fa_53_2, fa_53_3, fa_53_4, fa_55_0, fa_55_1, fa_55_2, fa_62_0, fa_62_1, fa_62_2, fa_62_3, fa_62_4, fa_64_0, fa_64_1, fa_64_2, fa_71_0, fa_71_1, fa_71_2, fa_71_3, fa_71_4, fa_73_0, fa_73_1, fa_73_2, ld_3, ld_9, ld_50, ld_51, ld_59, ld_60, ld_68, ld_69, st_3, st_9, st_51, st_60, st_69, al_53, al_62, al_71, bd_53_0_1, bd_55_0_2, bd_62_0_1, bd_64_0_2, bd_71_0_1, bd_73_0_2, pe0_24, pe1_24, pe2_24, pe0_33, pe1_33, pe2_33, pe0_41, pe1_41, pe2_41, pe0_51, pe1_51, pe2_51, pe0_60, pe1_60, pe2_60, pe0_69, pe1_69, pe2_69, bn_4, pn0_51, pn1_51, pn2_51, pn0_60, pn1_60, pn2_60, pn0_69, pn1_69, pn2_69, ln_22, ln_32, ix_22, ix_32, bs_22, bs_32]
  exact hq
theorem unpin_hit {A C : List Nd} {n : Nd} (h : Rep isI64 B w c mb room (A ++ n :: C)) (hp : 0 < n.p) (hb : n.p < 4611686018427387904) (hq : ∀ w', Rep isI64 B w' c mb room (A ++ { n with p := n.p - 1 } :: C) → Keep (foot c mb (A ++ n :: C)) w w' → Q (.bool true) w') :
    callS Try.prog 21 #[.pointer (some ⟨c, 0, none⟩), n.k] Q w := by
  refine ref21 ?_
  unfold S21
  refine find_hit h (n := n) (by simp) ?_
  have hn := h.node n (by simp)
  have h0 : ¬ ((n.p : Int) = 0) := by omega
  simp only [pur_add, pur_sub, pur_mul, pur_eql, pur_neq, pur_lss, pur_leq, pur_gtr, pur_geq, pur_seql, pur_sneq, pur_max, pur_min, pur_nil, pur_pick_t, pur_pick_f, pur_not, pur_pure, pur_ext2_0, pur_ext2_1, pur_ext3_0, pur_ext3_1, pur_ext3_2, pur_ext4_0, pur_ext4_1, pur_ext4_2, pur_ext4_3, gd_hit, gd_tf, gd_ft, gd_undef, condS_true, condS_false, one_int, one_ptr, one_str, one_bool, one_map, one_slice, act_box, act_makeMap, agg_cells, Nat.zero_add, Nat.reduceAdd, decide_true, decide_false, Bool.not_true, Bool.not_false, not_true_eq_false, not_false_eq_true, ne_eq, Bool.bne_true, Bool.bne_false, Bool.true_bne, Bool.false_bne, Bool.true_beq, Bool.false_beq, bne_self_eq_false, beq_self_eq_true, Int.reduceLT, Int.reduceLE, Int.reduceEq, Int.reduceNe, fa_53_0, fa_53_1, fa_53_2, fa_53_3, fa_53_4, fa_55_0, fa_55_1, fa_55_2, fa_62_0, fa_62_1, fa_62_2, fa_62_3, fa_62_4, fa_64_0, fa_64_1, fa_64_2, fa_71_0, fa_71_1, fa_71_2, fa_71_3, fa_71_4, fa_73_0, fa_73_1, fa_73_2, ld_3, ld_9, ld_50, ld_51, ld_59, ld_60, ld_68, ld_69, st_3, st_9, st_51, st_60, st_69, al_53, al_62, al_71, bd_53_0_1, bd_55_0_2, bd_62_0_1, bd_64_0_2, bd_71_0_1, bd_73_0_2, pe0_24, pe1_24, pe2_24, pe0_33, pe1_33, pe2_33, pe0_41, pe1_41, pe2_41, pe0_51, pe1_51, pe2_51, pe0_60, pe1_60, pe2_60, pe0_69, pe1_69, pe2_69, bn_4, pn0_51, pn1_51, pn2_51, pn0_60, pn1_60, pn2_60, pn0_69, pn1_69, pn2_69, ln_22, ln_32, ix_22, ix_32, bs_22, bs_32, hn.p, hn.fre, Option.isSome_some, Option.getD_some, h0, decide_false]
  rw [wrap_id (by omega) (by omega), show (n.p : Int) - 1 = ((n.p - 1 : Nat) : Int) from by omega]
  exact hq _ (h.setP (p := n.p - 1)) ((Keep.refl _ w).sto (.inl (.inr (.inr ⟨n, by simp, rfl⟩))) _ _)
theorem unpin_none {n : Nd} (h : Rep isI64 B w c mb room L) (hn : n ∈ L) (hp : n.p = 0) (hq : Q (.bool false) w) :
    callS Try.prog 21 #[.pointer (some ⟨c, 0, none⟩), n.k] Q w := by
  refine ref21 ?_
  unfold S21
  refine find_hit h hn ?_
  have h0 : ((n.p : Int) = 0) := by omega
  simp only [pur_add, pur_sub, pur_mul, pur_eql, pur_neq, pur_lss, pur_leq, pur_gtr, pur_geq, pur_seql, pur_sneq, pur_max, pur_min, pur_nil, pur_pick_t, pur_pick_f, pur_not, pur_pure, pur_ext2_0, pur_ext2_1, pur_ext3_0, pur_ext3_1, pur_ext3_2, pur_ext4_0, pur_ext4_1, pur_ext4_2, pur_ext4_3, gd_hit, gd_tf, gd_ft, gd_undef, condS_true, condS_false, one_int, one_ptr, one_str, one_bool, one_map, one_slice, act_box, act_makeMap, agg_cells, Nat.zero_add, Nat.reduceAdd, decide_true, decide_false, Bool.not_true, Bool.not_false, not_true_eq_false, not_false_eq_true, ne_eq, Bool.bne_true, Bool.bne_false, Bool.true_bne, Bool.false_bne, Bool.true_beq, Bool.false_beq, bne_self_eq_false, beq_self_eq_true, Int.reduceLT, Int.reduceLE, Int.reduceEq, Int.reduceNe, fa_53_0, fa_53_1, fa_53_2, fa_53_3, fa_53_4, fa_55_0, fa_55_1, fa_55_2, fa_62_0, fa_62_1, fa_62_2, fa_62_3, fa_62_4, fa_64_0, fa_64_1, fa_64_2, fa_71_0, fa_71_1, fa_71_2, fa_71_3, fa_71_4, fa_73_0, fa_73_1, fa_73_2, ld_3, ld_9, ld_50, ld_51, ld_59, ld_60, ld_68, ld_69, st_3, st_9, st_51, st_60, st_69, al_53, al_62, al_71, bd_53_0_1, bd_55_0_2, bd_62_0_1, bd_64_0_2, bd_71_0_1, bd_73_0_2, pe0_24, pe1_24, pe2_24, pe0_33, pe1_33, pe2_33, pe0_41, pe1_41, pe2_41, pe0_51, pe1_51, pe2_51, pe0_60, pe1_60, pe2_60, pe0_69, pe1_69, pe2_69, bn_4, pn0_51, pn1_51, pn2_51, pn0_60, pn1_60, pn2_60, pn0_69, pn1_69, pn2_69, ln_22, ln_32, ix_22, ix_32, bs_22, bs_32, (h.node n hn).p, Option.isSome_some, Option.getD_some, h0, decide_true]
  exact hq
theorem unpin_miss {k : Value} (h : Rep isI64 B w c mb room L) (hk : isI64 k) (hn : ∀ n ∈ L, n.k ≠ k) (hq : Q (.bool false) w) :
    callS Try.prog 21 #[.pointer (some ⟨c, 0, none⟩), k] Q w := by
  refine ref21 ?_
  unfold S21
  refine find_miss h hk hn ?_
  simp only [pur_add, pur_sub, pur_mul, pur_eql, pur_neq, pur_lss, pur_leq, pur_gtr, pur_geq, pur_seql, pur_sneq, pur_max, pur_min, pur_nil, pur_pick_t, pur_pick_f, pur_not, pur_pure, pur_ext2_0, pur_ext2_1, pur_ext3_0, pur_ext3_1, pur_ext3_2, pur_ext4_0, pur_ext4_1, pur_ext4_2, pur_ext4_3, gd_hit, gd_tf, gd_ft, gd_undef, condS_true, condS_false, one_int, one_ptr, one_str, one_bool, one_map, one_slice, act_box, act_makeMap, agg_cells, Nat.zero_add, Nat.reduceAdd, decide_true, decide_false, Bool.not_true, Bool.not_false, not_true_eq_false, not_false_eq_true, ne_eq, Bool.bne_true, Bool.bne_false, Bool.true_bne, Bool.false_bne, Bool.true_beq, Bool.false_beq, bne_self_eq_false, beq_self_eq_true, Int.reduceLT, Int.reduceLE, Int.reduceEq, Int.reduceNe, fa_53_0, fa_53_1, fa_53_2, fa_53_3, fa_53_4, fa_55_0, fa_55_1, fa_55_2, fa_62_0, fa_62_1, fa_62_2, fa_62_3, fa_62_4, fa_64_0, fa_64_1, fa_64_2, fa_71_0, fa_71_1, fa_71_2, fa_71_3, fa_71_4, fa_73_0, fa_73_1, fa_73_2, ld_3, ld_9, ld_50, ld_51, ld_59, ld_60, ld_68, ld_69, st_3, st_9, st_51, st_60, st_69, al_53, al_62, al_71, bd_53_0_1, bd_55_0_2, bd_62_0_1, bd_64_0_2, bd_71_0_1, bd_73_0_2, pe0_24, pe1_24, pe2_24, pe0_33, pe1_33, pe2_33, pe0_41, pe1_41, pe2_41, pe0_51, pe1_51, pe2_51, pe0_60, pe1_60, pe2_60, pe0_69, pe1_69, pe2_69, bn_4, pn0_51, pn1_51, pn2_51, pn0_60, pn1_60, pn2_60, pn0_69, pn1_69, pn2_69, ln_22, ln_32, ix_22, ix_32, bs_22, bs_32]
  exact hq
theorem delete_miss {k : Value} (h : Rep isI64 B w c mb room L) (hk : isI64 k) (hn : ∀ n ∈ L, n.k ≠ k) (hq : Q (.bool false) w) :
    callS Try.prog 27 #[.pointer (some ⟨c, 0, none⟩), k] Q w := by
  refine ref27 ?_
  unfold S27
  refine find_miss h hk hn ?_
  simp only [pur_add, pur_sub, pur_mul, pur_eql, pur_neq, pur_lss, pur_leq, pur_gtr, pur_geq, pur_seql, pur_sneq, pur_max, pur_min, pur_nil, pur_pick_t, pur_pick_f, pur_not, pur_pure, pur_ext2_0, pur_ext2_1, pur_ext3_0, pur_ext3_1, pur_ext3_2, pur_ext4_0, pur_ext4_1, pur_ext4_2, pur_ext4_3, gd_hit, gd_tf, gd_ft, gd_undef, condS_true, condS_false, one_int, one_ptr, one_str, one_bool, one_map, one_slice, act_box, act_makeMap, agg_cells, Nat.zero_add, Nat.reduceAdd, decide_true, decide_false, Bool.not_true, Bool.not_false, not_true_eq_false, not_false_eq_true, ne_eq, Bool.bne_true, Bool.bne_false, Bool.true_bne, Bool.false_bne, Bool.true_beq, Bool.false_beq, bne_self_eq_false, beq_self_eq_true, Int.reduceLT, Int.reduceLE, Int.reduceEq, Int.reduceNe, fa_53_0, fa_53_1, fa_53_2, fa_53_3, fa_53_4, fa_55_0, fa_55_1, fa_55_2, fa_62_0, fa_62_1, fa_62_2, fa_62_3, fa_62_4, fa_64_0, fa_64_1, fa_64_2, fa_71_0, fa_71_1, fa_71_2, fa_71_3, fa_71_4, fa_73_0, fa_73_1, fa_73_2, ld_3, ld_9, ld_50, ld_51, ld_59, ld_60, ld_68, ld_69, st_3, st_9, st_51, st_60, st_69, al_53, al_62, al_71, bd_53_0_1, bd_55_0_2, bd_62_0_1, bd_64_0_2, bd_71_0_1, bd_73_0_2, pe0_24, pe1_24, pe2_24, pe0_33, pe1_33, pe2_33, pe0_41, pe1_41, pe2_41, pe0_51, pe1_51, pe2_51, pe0_60, pe1_60, pe2_60, pe0_69, pe1_69, pe2_69, bn_4, pn0_51, pn1_51, pn2_51, pn0_60, pn1_60, pn2_60, pn0_69, pn1_69, pn2_69, ln_22, ln_32, ix_22, ix_32, bs_22, bs_32]
  exact hq
theorem delete_hit {A C : List Nd} {n : Nd} (h : Rep isI64 B w c mb room (A ++ n :: C)) (hq : ∀ w', Rep isI64 B w' c mb room (A ++ C) → Keep (foot c mb (A ++ n :: C)) w w' → Q (.bool true) w') :
    callS Try.prog 27 #[.pointer (some ⟨c, 0, none⟩), n.k] Q w := by
  refine ref27 ?_
  unfold S27
  refine find_hit h (n := n) (by simp) ?_
  obtain ⟨l, hl, hp⟩ := h.kv
  obtain ⟨p, q, i, r, hi, hqr, hs, hap, a1, a2, a3, a4, l1, l2⟩ := h.around
  obtain ⟨mp', mq⟩ := beside (n := n) hi hqr
  have hs' := seg_off hap hs a1 a2 a3 a4
  simp only [pur_add, pur_sub, pur_mul, pur_eql, pur_neq, pur_lss, pur_leq, pur_gtr, pur_geq, pur_seql, pur_sneq, pur_max, pur_min, pur_nil, pur_pick_t, pur_pick_f, pur_not, pur_pure, pur_ext2_0, pur_ext2_1, pur_ext3_0, pur_ext3_1, pur_ext3_2, pur_ext4_0, pur_ext4_1, pur_ext4_2, pur_ext4_3, gd_hit, gd_tf, gd_ft, gd_undef, condS_true, condS_false, one_int, one_ptr, one_str, one_bool, one_map, one_slice, act_box, act_makeMap, agg_cells, Nat.zero_add, Nat.reduceAdd, decide_true, decide_false, Bool.not_true, Bool.not_false, not_true_eq_false, not_false_eq_true, ne_eq, Bool.bne_true, Bool.bne_false, Bool.true_bne, Bool.false_bne, Bool.true_beq, Bool.false_beq, bne_self_eq_false, beq_self_eq_true, Int.reduceLT, Int.reduceLE, Int.reduceEq, Int.reduceNe, fa_53_0, fa_53_1, fa_53_2, fa_53_3, fa_53_4, fa_55_0, fa_55_1, fa_55_2, fa_62_0, fa_62_1, fa_62_2, fa_62_3, fa_62_4, fa_64_0, fa_64_1, fa_64_2, fa_71_0, fa_71_1, fa_71_2, fa_71_3, fa_71_4, fa_73_0, fa_73_1, fa_73_2, ld_3, ld_9, ld_50, ld_51, ld_59, ld_60, ld_68, ld_69, st_3, st_9, st_51, st_60, st_69, al_53, al_62, al_71, bd_53_0_1, bd_55_0_2, bd_62_0_1, bd_64_0_2, bd_71_0_1, bd_73_0_2, pe0_24, pe1_24, pe2_24, pe0_33, pe1_33, pe2_33, pe0_41, pe1_41, pe2_41, pe0_51, pe1_51, pe2_51, pe0_60, pe1_60, pe2_60, pe0_69, pe1_69, pe2_69, bn_4, pn0_51, pn1_51, pn2_51, pn0_60, pn1_60, pn2_60, pn0_69, pn1_69, pn2_69, ln_22, ln_32, ix_22, ix_32, bs_22, bs_32]
  refine off_c (p := p) (q := q) l1.2 (by have := l2.1; simpa only [Nd.pl, Nat.zero_add] using this) (h.pl_fre mp') (h.pl_fre mq) (by rw [l1.1]; rfl) (by rw [l2.2]; rfl) ?_
  have hst := off_still (w := w) mp' mq
  have em : cel (offW w p q) c 0 = some (.map (some mb)) := by rw [hst _ _ ⟨by omega, by omega⟩]; exact h.m
  simp only [pur_add, pur_sub, pur_mul, pur_eql, pur_neq, pur_lss, pur_leq, pur_gtr, pur_geq, pur_seql, pur_sneq, pur_max, pur_min, pur_nil, pur_pick_t, pur_pick_f, pur_not, pur_pure, pur_ext2_0, pur_ext2_1, pur_ext3_0, pur_ext3_1, pur_ext3_2, pur_ext4_0, pur_ext4_1, pur_ext4_2, pur_ext4_3, gd_hit, gd_tf, gd_ft, gd_undef, condS_true, condS_false, one_int, one_ptr, one_str, one_bool, one_map, one_slice, act_box, act_makeMap, agg_cells, Nat.zero_add, Nat.reduceAdd, decide_true, decide_false, Bool.not_true, Bool.not_false, not_true_eq_false, not_false_eq_true, ne_eq, Bool.bne_true, Bool.bne_false, Bool.true_bne, Bool.false_bne, Bool.true_beq, Bool.false_beq, bne_self_eq_false, beq_self_eq_true, Int.reduceLT, Int.reduceLE, Int.reduceEq, Int.reduceNe, fa_53_0, fa_53_1, fa_53_2, fa_53_3, fa_53_4, fa_55_0, fa_55_1, fa_55_2, fa_62_0, fa_62_1, fa_62_2, fa_62_3, fa_62_4, fa_64_0, fa_64_1, fa_64_2, fa_71_0, fa_71_1, fa_71_2, fa_71_3, fa_71_4, fa_73_0, fa_73_1, fa_73_2, ld_3, ld_9, ld_50, ld_51, ld_59, ld_60, ld_68, ld_69, st_3, st_9, st_51, st_60, st_69, al_53, al_62, al_71, bd_53_0_1, bd_55_0_2, bd_62_0_1, bd_64_0_2, bd_71_0_1, bd_73_0_2, pe0_24, pe1_24, pe2_24, pe0_33, pe1_33, pe2_33, pe0_41, pe1_41, pe2_41, pe0_51, pe1_51, pe2_51, pe0_60, pe1_60, pe2_60, pe0_69, pe1_69, pe2_69, bn_4, pn0_51, pn1_51, pn2_51, pn0_60, pn1_60, pn2_60, pn0_69, pn1_69, pn2_69, ln_22, ln_32, ix_22, ix_32, bs_22, bs_32, em, Option.isSome_some, Option.getD_some]
  have hmp : mp (offW w p q) mb = some l := by rw [mp_off (h.mb_pl mp') (h.mb_pl mq)]; exact hl
  refine md_68 hmp (h.okKv hp) (h.okk n (by simp)) fun w2 hm2 => ?_
  refine hq _ (h.del hi hqr hs' hp hm2) ?_
  exact (keep_off (.inl (pl_foot mp')) (.inl (pl_foot mq))).trans (hm2.keep.mono (F' := foot c mb (A ++ n :: C)) (fun b _ e => .inr (.inl e)))
end
end Go.Proofs.Ytkdanklgcgjijaa.Lii
