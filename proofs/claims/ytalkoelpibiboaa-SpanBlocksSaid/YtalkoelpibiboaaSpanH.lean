/- The blocks of ranges: what span.Blocks and SpanBlocks compute. Conditions: as each says. -/
import Derived.Test.YtalkoelpibiboaaSpanE
import Derived.Test.YtalkoelpibiboaaSpanC
import Derived.Test.YtalkoelpibiboaaShU
import Derived.Test.YtalkoelpibiboaaImapX
set_option linter.unusedSimpArgs false
set_option linter.unusedVariables false
namespace Go.Proofs.Ytalkoelpibiboaa
open Go.Sh
set_option maxRecDepth 100000
def encN (x : Int) : List Value := [.int .i64 x]
theorem encN_len (x : Int) : (encN x).length = 1 := rfl
def blkS (s : Sp) : List Int := (List.range (s.2 - s.1).toNat).map fun j : Nat => s.1 + (j : Int)
def blkL (N : List Sp) : List Int := N.flatMap blkS
theorem blkS_len (s : Sp) : (blkS s).length = (s.2 - s.1).toNat := by simp [blkS]
theorem blkS_take {s : Sp} {j : Nat} (h : j < (s.2 - s.1).toNat) : (blkS s).take (j + 1) = (blkS s).take j ++ [s.1 + (j : Int)] := by
  rw [List.take_add_one]
  congr 1
  unfold blkS
  rw [List.getElem?_map, List.getElem?_eq_getElem (by simpa using h)]
  simp
theorem blkL_take {N : List Sp} {i : Nat} (h : i < N.length) : blkL (N.take (i + 1)) = blkL (N.take i) ++ blkS N[i] := by
  unfold blkL
  rw [List.take_add_one, List.getElem?_eq_getElem h, Option.toList_some, List.flatMap_append, List.flatMap_cons, List.flatMap_nil, List.append_nil]
theorem blkL_len : ∀ N : List Sp, (∀ s ∈ N, ok s) → ((blkL N).length : Int) = sumS N
  | [], _ => rfl
  | s :: N, h => by
    have := blkL_len N fun t ht => h t (by simp [ht])
    have ho := (h s (by simp)).2
    unfold blkL at *
    rw [List.flatMap_cons, List.length_append, blkS_len, sumS]
    omega
theorem blkS_rise (s : Sp) : (blkS s).Pairwise (· < ·) := by
  unfold blkS
  refine List.pairwise_map.2 (List.pairwise_lt_range.imp fun {a b} h => by omega)
theorem blkS_in {s : Sp} {x : Int} (h : x ∈ blkS s) : s.1 ≤ x ∧ x < s.2 := by
  unfold blkS at h
  obtain ⟨j, hj, rfl⟩ := List.mem_map.1 h
  have := List.mem_range.1 hj
  omega
theorem blkL_rise : ∀ N : List Sp, Nrm N → (blkL N).Pairwise (· < ·)
  | [], _ => List.Pairwise.nil
  | s :: N, h => by
    have ih := blkL_rise N h.tail
    unfold blkL at *
    rw [List.flatMap_cons, List.pairwise_append]
    refine ⟨blkS_rise s, ih, fun x hx y hy => ?_⟩
    obtain ⟨t, ht, hy⟩ := List.mem_flatMap.1 hy
    have := (List.pairwise_cons.1 h.2).1 t ht
    have := blkS_in hx
    have := blkS_in hy
    omega
theorem norm_ends {l N : List Sp} (hn : IsNorm l N) {M : Int} (hb : ∀ s ∈ l, s.2 ≤ M) : ∀ s ∈ N, s.2 ≤ M := fun s hs => by
  have ho := hn.1.1 s hs
  obtain ⟨t, ht, h⟩ := (hn.2 (s.2 - 1)).1 ⟨s, hs, ho, by have := ho.2; omega, by omega⟩
  have := hb t ht
  have := h.2.2
  omega
section
variable {w : World} {Q : Value → World → Prop}
theorem blocks_c {v : Value} {l : List Sp} {most : Int} (h : Rd 2 w v l.length (flat encS l)) (hl : l.length ≤ 100) (hb : ∀ s ∈ l, s.2 ≤ 9223372036854775807) (hm : most ≤ 2000)
    (hq : ∀ w' v' N bs, IsNorm l N → (sumS N ≤ most → bs = blkL N) → (¬ sumS N ≤ most → bs = []) → Rd 1 w' v' bs.length (flat encN bs) → Keep (fun _ => False) w w' → Q (.tuple #[v', .bool (decide (sumS N ≤ most))]) w') :
    callS Try.prog 14 #[.int .i64 most, v] Q w := by
  refine ref14 ?_
  unfold S14
  refine norm_c h (by omega) fun w1 v1 N hn hlen o1 k1 => ?_
  have hNl : N.length ≤ 100 := by have := List.length_filter_le (fun s => decide (ok s)) l; omega
  have endN := norm_ends hn hb
  have sumOk : ∀ i, 0 ≤ sumS (N.take i) ∧ sumS (N.take i) ≤ 9223372036854775807 := fun i => by
    have hc : Nrm (N.take i) := ⟨fun p hp => hn.1.1 p (List.mem_of_mem_take hp), hn.1.2.sublist (List.take_sublist _ _)⟩
    exact ⟨sumS_nonneg hc.1, sumS_max hc (by omega) fun s hs => endN s (List.mem_of_mem_take hs)⟩
  obtain ⟨p1, c1, rfl⟩ := o1.form
  simp only [pur_add, pur_sub, pur_mul, pur_eql, pur_neq, pur_lss, pur_leq, pur_gtr, pur_geq, pur_seql, pur_sneq, pur_max, pur_min, pur_nil, pur_pick_t, pur_pick_f, pur_not, pur_pure, pur_ext2_0, pur_ext2_1, pur_ext3_0, pur_ext3_1, pur_ext3_2, pur_ext4_0, pur_ext4_1, pur_ext4_2, pur_ext4_3, gd_hit, gd_tf, gd_ft, gd_undef, condS_true, condS_false, one_int, one_ptr, one_str, one_bool, one_map, one_slice, act_box, act_makeMap, agg_cells, Nat.zero_add, Nat.reduceAdd, decide_true, decide_false, Bool.not_true, Bool.not_false, not_true_eq_false, not_false_eq_true, ne_eq, Bool.bne_true, Bool.bne_false, Bool.true_bne, Bool.false_bne, Bool.true_beq, Bool.false_beq, bne_self_eq_false, beq_self_eq_true, Int.reduceLT, Int.reduceLE, Int.reduceEq, Int.reduceNe, fa_27_0, fa_27_1, ld_3, ld_22, ld_27, ld_67, st_3, st_27, st_67, al_3, al_27, al_67, bd_27_, bd_27_0_1, be_4, bn_4, ln_22, ln_35, ln_53, ix_22, ix_35, ix_53, slt_22, bs_22, bs_35, bs2_35, bs2_53, cv_3_51, cv_3_67, cv_5_3, cv_51_3, cv_51_64, cv_64_5, cv_66_5]
  refine lp2 (fun mm y z w' => Keep (fun _ => False) w1 w' ∧ ∃ i : Nat, y = .int .i64 (sumS (N.take i)) ∧ z = .int .i64 (i : Int) ∧ i ≤ N.length ∧ mm = N.length - i) N.length
    ⟨Keep.refl _ _, 0, by simp [sumS], rfl, Nat.zero_le _, by omega⟩ ?_
  rintro mm y z w2 ⟨k2, i, rfl, rfl, hi, rfl⟩ J hJ _
  have hwi := wrap_succ (i := i) (by omega)
  by_cases hlt : i < N.length
  · have hlt' : ((i : Int) < (N.length : Int)) := by omega
    have hsi : N[i]? = some N[i] := List.getElem?_eq_getElem hlt
    have hend := endN _ (List.getElem_mem hlt)
    have hok := hn.1.1 _ (List.getElem_mem hlt)
    obtain ⟨g, cg, e, _, _, _, _, _, hcel⟩ := (o1.keep k2 fun _ _ => id).at (by omega)
    injection e with e1 _ e2
    subst e1 e2
    obtain ⟨q0, q1⟩ := spans_at (b := g) (o := 0) (l := N) (fun j hj => by rw [Nat.zero_add]; exact hcel j hj) hsi
    rw [Nat.zero_add] at q0 q1
    simp only [pur_add, pur_sub, pur_mul, pur_eql, pur_neq, pur_lss, pur_leq, pur_gtr, pur_geq, pur_seql, pur_sneq, pur_max, pur_min, pur_nil, pur_pick_t, pur_pick_f, pur_not, pur_pure, pur_ext2_0, pur_ext2_1, pur_ext3_0, pur_ext3_1, pur_ext3_2, pur_ext4_0, pur_ext4_1, pur_ext4_2, pur_ext4_3, gd_hit, gd_tf, gd_ft, gd_undef, condS_true, condS_false, one_int, one_ptr, one_str, one_bool, one_map, one_slice, act_box, act_makeMap, agg_cells, Nat.zero_add, Nat.reduceAdd, decide_true, decide_false, Bool.not_true, Bool.not_false, not_true_eq_false, not_false_eq_true, ne_eq, Bool.bne_true, Bool.bne_false, Bool.true_bne, Bool.false_bne, Bool.true_beq, Bool.false_beq, bne_self_eq_false, beq_self_eq_true, Int.reduceLT, Int.reduceLE, Int.reduceEq, Int.reduceNe, fa_27_0, fa_27_1, ld_3, ld_22, ld_27, ld_67, st_3, st_27, st_67, al_3, al_27, al_67, bd_27_, bd_27_0_1, be_4, bn_4, ln_22, ln_35, ln_53, ix_22, ix_35, ix_53, slt_22, bs_22, bs_35, bs2_35, bs2_53, cv_3_51, cv_3_67, cv_5_3, cv_51_3, cv_51_64, cv_64_5, cv_66_5, hlt']
    rw [ix_22 hlt]
    simp only [pur_add, pur_sub, pur_mul, pur_eql, pur_neq, pur_lss, pur_leq, pur_gtr, pur_geq, pur_seql, pur_sneq, pur_max, pur_min, pur_nil, pur_pick_t, pur_pick_f, pur_not, pur_pure, pur_ext2_0, pur_ext2_1, pur_ext3_0, pur_ext3_1, pur_ext3_2, pur_ext4_0, pur_ext4_1, pur_ext4_2, pur_ext4_3, gd_hit, gd_tf, gd_ft, gd_undef, condS_true, condS_false, one_int, one_ptr, one_str, one_bool, one_map, one_slice, act_box, act_makeMap, agg_cells, Nat.zero_add, Nat.reduceAdd, decide_true, decide_false, Bool.not_true, Bool.not_false, not_true_eq_false, not_false_eq_true, ne_eq, Bool.bne_true, Bool.bne_false, Bool.true_bne, Bool.false_bne, Bool.true_beq, Bool.false_beq, bne_self_eq_false, beq_self_eq_true, Int.reduceLT, Int.reduceLE, Int.reduceEq, Int.reduceNe, fa_27_0, fa_27_1, ld_3, ld_22, ld_27, ld_67, st_3, st_27, st_67, al_3, al_27, al_67, bd_27_, bd_27_0_1, be_4, bn_4, ln_22, ln_35, ln_53, ix_22, ix_35, ix_53, slt_22, bs_22, bs_35, bs2_35, bs2_53, cv_3_51, cv_3_67, cv_5_3, cv_51_3, cv_51_64, cv_64_5, cv_66_5, callF_plain, nw1, nw2, nw3, nw4, nw5, nw6, nw7, nw8, nw9, nw10, nw11, nw12, resL_ptr, cel_alloc_new, cel_alloc_old, siz_lt1, siz_lt2, siz_lt3, siz_lt4, fre_alloc_new, fre_alloc_old, cel_drew, fre_drew, siz_drew, List.getElem?_toArray, List.getElem?_cons_zero, List.getElem?_cons_succ, Option.isSome_some, Option.getD_some, Option.isNone_none, Option.isNone_some, Option.isSome_none, sq_22, se_27, sn_27, bz_22_0, bz_22_1, bz_22_2, bz_22_3, bz_35_1, bz_35_2, bz_53_2, slt0_22, slf0_22, cp_22, stn_3, stn_27, stn_67, q0, q1]
    refine len_c hend fun w3 g3 => ?_
    have hsum := sumOk (i + 1)
    have hS : sumS (N.take (i + 1)) = sumS (N.take i) + (N[i].2 - N[i].1) := by rw [List.take_add_one, hsi, Option.toList_some, sumS_snoc]
    rw [hS] at hsum
    have hw2 : IntKind.i64.wrap (sumS (N.take i) + (if ok (N[i].1, N[i].2) then N[i].2 - N[i].1 else 0)) = sumS (N.take (i + 1)) := by
      rw [if_pos (show ok (N[i].1, N[i].2) from hok), wrap_id (by omega) (by omega), hS]
    simp only [pur_add, pur_sub, pur_mul, pur_eql, pur_neq, pur_lss, pur_leq, pur_gtr, pur_geq, pur_seql, pur_sneq, pur_max, pur_min, pur_nil, pur_pick_t, pur_pick_f, pur_not, pur_pure, pur_ext2_0, pur_ext2_1, pur_ext3_0, pur_ext3_1, pur_ext3_2, pur_ext4_0, pur_ext4_1, pur_ext4_2, pur_ext4_3, gd_hit, gd_tf, gd_ft, gd_undef, condS_true, condS_false, one_int, one_ptr, one_str, one_bool, one_map, one_slice, act_box, act_makeMap, agg_cells, Nat.zero_add, Nat.reduceAdd, decide_true, decide_false, Bool.not_true, Bool.not_false, not_true_eq_false, not_false_eq_true, ne_eq, Bool.bne_true, Bool.bne_false, Bool.true_bne, Bool.false_bne, Bool.true_beq, Bool.false_beq, bne_self_eq_false, beq_self_eq_true, Int.reduceLT, Int.reduceLE, Int.reduceEq, Int.reduceNe, fa_27_0, fa_27_1, ld_3, ld_22, ld_27, ld_67, st_3, st_27, st_67, al_3, al_27, al_67, bd_27_, bd_27_0_1, be_4, bn_4, ln_22, ln_35, ln_53, ix_22, ix_35, ix_53, slt_22, bs_22, bs_35, bs2_35, bs2_53, cv_3_51, cv_3_67, cv_5_3, cv_51_3, cv_51_64, cv_64_5, cv_66_5, hw2, hwi]
    exact hJ (N.length - (i + 1)) _ _ _ (by omega) ⟨(k2.alloc _).trans g3.1, i + 1, rfl, rfl, by omega, rfl⟩
  · have hlt' : ¬ ((i : Int) < (N.length : Int)) := by omega
    have hil : i = N.length := by omega
    simp only [pur_add, pur_sub, pur_mul, pur_eql, pur_neq, pur_lss, pur_leq, pur_gtr, pur_geq, pur_seql, pur_sneq, pur_max, pur_min, pur_nil, pur_pick_t, pur_pick_f, pur_not, pur_pure, pur_ext2_0, pur_ext2_1, pur_ext3_0, pur_ext3_1, pur_ext3_2, pur_ext4_0, pur_ext4_1, pur_ext4_2, pur_ext4_3, gd_hit, gd_tf, gd_ft, gd_undef, condS_true, condS_false, one_int, one_ptr, one_str, one_bool, one_map, one_slice, act_box, act_makeMap, agg_cells, Nat.zero_add, Nat.reduceAdd, decide_true, decide_false, Bool.not_true, Bool.not_false, not_true_eq_false, not_false_eq_true, ne_eq, Bool.bne_true, Bool.bne_false, Bool.true_bne, Bool.false_bne, Bool.true_beq, Bool.false_beq, bne_self_eq_false, beq_self_eq_true, Int.reduceLT, Int.reduceLE, Int.reduceEq, Int.reduceNe, fa_27_0, fa_27_1, ld_3, ld_22, ld_27, ld_67, st_3, st_27, st_67, al_3, al_27, al_67, bd_27_, bd_27_0_1, be_4, bn_4, ln_22, ln_35, ln_53, ix_22, ix_35, ix_53, slt_22, bs_22, bs_35, bs2_35, bs2_53, cv_3_51, cv_3_67, cv_5_3, cv_51_3, cv_51_64, cv_64_5, cv_66_5, hlt']
    rw [hil, List.take_length]
    by_cases hgt : most < sumS N
    · have hle : ¬ sumS N ≤ most := by omega
      simp only [pur_add, pur_sub, pur_mul, pur_eql, pur_neq, pur_lss, pur_leq, pur_gtr, pur_geq, pur_seql, pur_sneq, pur_max, pur_min, pur_nil, pur_pick_t, pur_pick_f, pur_not, pur_pure, pur_ext2_0, pur_ext2_1, pur_ext3_0, pur_ext3_1, pur_ext3_2, pur_ext4_0, pur_ext4_1, pur_ext4_2, pur_ext4_3, gd_hit, gd_tf, gd_ft, gd_undef, condS_true, condS_false, one_int, one_ptr, one_str, one_bool, one_map, one_slice, act_box, act_makeMap, agg_cells, Nat.zero_add, Nat.reduceAdd, decide_true, decide_false, Bool.not_true, Bool.not_false, not_true_eq_false, not_false_eq_true, ne_eq, Bool.bne_true, Bool.bne_false, Bool.true_bne, Bool.false_bne, Bool.true_beq, Bool.false_beq, bne_self_eq_false, beq_self_eq_true, Int.reduceLT, Int.reduceLE, Int.reduceEq, Int.reduceNe, fa_27_0, fa_27_1, ld_3, ld_22, ld_27, ld_67, st_3, st_27, st_67, al_3, al_27, al_67, bd_27_, bd_27_0_1, be_4, bn_4, ln_22, ln_35, ln_53, ix_22, ix_35, ix_53, slt_22, bs_22, bs_35, bs2_35, bs2_53, cv_3_51, cv_3_67, cv_5_3, cv_51_3, cv_51_64, cv_64_5, cv_66_5, hgt]
      have := hq _ _ N [] hn (fun e => absurd e hle) (fun _ => rfl) (Rd.nil _ _) (k1.trans k2)
      rw [decide_eq_false hle] at this
      exact this
    · have hle : sumS N ≤ most := by omega
      have blen : ∀ i, ((blkL (N.take i)).length : Int) = sumS (N.take i) := fun i => blkL_len _ fun s hs => hn.1.1 s (List.mem_of_mem_take hs)
      have bmax : ∀ i, i < N.length → (blkL (N.take i)).length + (blkS N[i]!).length ≤ 2000 := fun i hi => by
        have h1 := blkL_take (N := N) hi
        have h2 := blkL_len N hn.1.1
        have h3 : blkL N = blkL (N.take (i + 1)) ++ blkL (N.drop (i + 1)) := by unfold blkL; rw [← List.flatMap_append, List.take_append_drop]
        have h4 : N[i]! = N[i] := getElem!_pos N i hi
        rw [h4, ← List.length_append, ← h1]
        have h5 : (blkL (N.take (i + 1))).length ≤ (blkL N).length := by rw [h3, List.length_append]; omega
        omega
      simp only [pur_add, pur_sub, pur_mul, pur_eql, pur_neq, pur_lss, pur_leq, pur_gtr, pur_geq, pur_seql, pur_sneq, pur_max, pur_min, pur_nil, pur_pick_t, pur_pick_f, pur_not, pur_pure, pur_ext2_0, pur_ext2_1, pur_ext3_0, pur_ext3_1, pur_ext3_2, pur_ext4_0, pur_ext4_1, pur_ext4_2, pur_ext4_3, gd_hit, gd_tf, gd_ft, gd_undef, condS_true, condS_false, one_int, one_ptr, one_str, one_bool, one_map, one_slice, act_box, act_makeMap, agg_cells, Nat.zero_add, Nat.reduceAdd, decide_true, decide_false, Bool.not_true, Bool.not_false, not_true_eq_false, not_false_eq_true, ne_eq, Bool.bne_true, Bool.bne_false, Bool.true_bne, Bool.false_bne, Bool.true_beq, Bool.false_beq, bne_self_eq_false, beq_self_eq_true, Int.reduceLT, Int.reduceLE, Int.reduceEq, Int.reduceNe, fa_27_0, fa_27_1, ld_3, ld_22, ld_27, ld_67, st_3, st_27, st_67, al_3, al_27, al_67, bd_27_, bd_27_0_1, be_4, bn_4, ln_22, ln_35, ln_53, ix_22, ix_35, ix_53, slt_22, bs_22, bs_35, bs2_35, bs2_53, cv_3_51, cv_3_67, cv_5_3, cv_51_3, cv_51_64, cv_64_5, cv_66_5, hgt]
      refine lp2 (fun mm x y w' => Keep (fun _ => False) w1 w' ∧ ∃ i : Nat, y = .int .i64 (i : Int) ∧ i ≤ N.length ∧ mm = N.length - i ∧ Own w' (siz w1) 3 1 x (blkL (N.take i)).length (flat encN (blkL (N.take i)))) N.length
        ⟨k2, 0, rfl, Nat.zero_le _, by omega, Own.nil _ _ _ _⟩ ?_
      rintro mm x y w3 ⟨k3, i, rfl, hi, rfl, o3⟩ J' hJ' _
      have hwi := wrap_succ (i := i) (by omega)
      have s3 := k3.size
      by_cases hlt : i < N.length
      · have hlt' : ((i : Int) < (N.length : Int)) := by omega
        have hsi : N[i]? = some N[i] := List.getElem?_eq_getElem hlt
        have hend := endN _ (List.getElem_mem hlt)
        have hok := hn.1.1 _ (List.getElem_mem hlt)
        have hmx := bmax i hlt
        rw [getElem!_pos N i hlt, blkS_len] at hmx
        obtain ⟨g, cg, e, _, _, _, _, _, hcel⟩ := (o1.keep k3 fun _ _ => id).at (by omega)
        injection e with e1 _ e2
        subst e1 e2
        obtain ⟨q0, q1⟩ := spans_at (b := g) (o := 0) (l := N) (fun j hj => by rw [Nat.zero_add]; exact hcel j hj) hsi
        rw [Nat.zero_add] at q0 q1
        simp only [pur_add, pur_sub, pur_mul, pur_eql, pur_neq, pur_lss, pur_leq, pur_gtr, pur_geq, pur_seql, pur_sneq, pur_max, pur_min, pur_nil, pur_pick_t, pur_pick_f, pur_not, pur_pure, pur_ext2_0, pur_ext2_1, pur_ext3_0, pur_ext3_1, pur_ext3_2, pur_ext4_0, pur_ext4_1, pur_ext4_2, pur_ext4_3, gd_hit, gd_tf, gd_ft, gd_undef, condS_true, condS_false, one_int, one_ptr, one_str, one_bool, one_map, one_slice, act_box, act_makeMap, agg_cells, Nat.zero_add, Nat.reduceAdd, decide_true, decide_false, Bool.not_true, Bool.not_false, not_true_eq_false, not_false_eq_true, ne_eq, Bool.bne_true, Bool.bne_false, Bool.true_bne, Bool.false_bne, Bool.true_beq, Bool.false_beq, bne_self_eq_false, beq_self_eq_true, Int.reduceLT, Int.reduceLE, Int.reduceEq, Int.reduceNe, fa_27_0, fa_27_1, ld_3, ld_22, ld_27, ld_67, st_3, st_27, st_67, al_3, al_27, al_67, bd_27_, bd_27_0_1, be_4, bn_4, ln_22, ln_35, ln_53, ix_22, ix_35, ix_53, slt_22, bs_22, bs_35, bs2_35, bs2_53, cv_3_51, cv_3_67, cv_5_3, cv_51_3, cv_51_64, cv_64_5, cv_66_5, hlt']
        rw [ix_22 hlt]
        simp only [pur_add, pur_sub, pur_mul, pur_eql, pur_neq, pur_lss, pur_leq, pur_gtr, pur_geq, pur_seql, pur_sneq, pur_max, pur_min, pur_nil, pur_pick_t, pur_pick_f, pur_not, pur_pure, pur_ext2_0, pur_ext2_1, pur_ext3_0, pur_ext3_1, pur_ext3_2, pur_ext4_0, pur_ext4_1, pur_ext4_2, pur_ext4_3, gd_hit, gd_tf, gd_ft, gd_undef, condS_true, condS_false, one_int, one_ptr, one_str, one_bool, one_map, one_slice, act_box, act_makeMap, agg_cells, Nat.zero_add, Nat.reduceAdd, decide_true, decide_false, Bool.not_true, Bool.not_false, not_true_eq_false, not_false_eq_true, ne_eq, Bool.bne_true, Bool.bne_false, Bool.true_bne, Bool.false_bne, Bool.true_beq, Bool.false_beq, bne_self_eq_false, beq_self_eq_true, Int.reduceLT, Int.reduceLE, Int.reduceEq, Int.reduceNe, fa_27_0, fa_27_1, ld_3, ld_22, ld_27, ld_67, st_3, st_27, st_67, al_3, al_27, al_67, bd_27_, bd_27_0_1, be_4, bn_4, ln_22, ln_35, ln_53, ix_22, ix_35, ix_53, slt_22, bs_22, bs_35, bs2_35, bs2_53, cv_3_51, cv_3_67, cv_5_3, cv_51_3, cv_51_64, cv_64_5, cv_66_5, callF_plain, nw1, nw2, nw3, nw4, nw5, nw6, nw7, nw8, nw9, nw10, nw11, nw12, resL_ptr, cel_alloc_new, cel_alloc_old, siz_lt1, siz_lt2, siz_lt3, siz_lt4, fre_alloc_new, fre_alloc_old, cel_drew, fre_drew, siz_drew, List.getElem?_toArray, List.getElem?_cons_zero, List.getElem?_cons_succ, Option.isSome_some, Option.getD_some, Option.isNone_none, Option.isNone_some, Option.isSome_none, sq_22, se_27, sn_27, bz_22_0, bz_22_1, bz_22_2, bz_22_3, bz_35_1, bz_35_2, bz_53_2, slt0_22, slf0_22, cp_22, stn_3, stn_27, stn_67, q0, q1]
        have k4 := k3.alloc (.cells #[.int .i64 N[i].1, .int .i64 N[i].2] 27)
        have o4 := o3.keep ((Keep.refl (fun _ => False) w3).alloc (.cells #[.int .i64 N[i].1, .int .i64 N[i].2] 27)) fun _ _ => id
        have y1 : cel (w3.alloc (.cells #[.int .i64 N[i].1, .int .i64 N[i].2] 27)) (siz w3) 1 = some (.int .i64 N[i].2) := cel_alloc_new
        have s4 : siz (w3.alloc (.cells #[.int .i64 N[i].1, .int .i64 N[i].2] 27)) = siz w3 + 1 := siz_alloc
        generalize w3.alloc (.cells #[.int .i64 N[i].1, .int .i64 N[i].2] 27) = w4 at k4 o4 y1 s4
        refine lp2 (fun mm x y w' => Keep (fun _ => False) w1 w' ∧ ∃ j : Nat, y = .int .i64 (N[i].1 + (j : Int)) ∧ j ≤ (N[i].2 - N[i].1).toNat ∧ mm = (N[i].2 - N[i].1).toNat - j ∧ cel w' (siz w3) 1 = some (.int .i64 N[i].2) ∧ siz w3 < siz w' ∧ (∀ b, x.ownBlock = some b → b ≠ siz w3) ∧
            Own w' (siz w1) 3 1 x (blkL (N.take i) ++ (blkS N[i]).take j).length (flat encN (blkL (N.take i) ++ (blkS N[i]).take j))) (N[i].2 - N[i].1).toNat
          ⟨k4, 0, by simp, Nat.zero_le _, by omega, y1, by omega, fun b hb' e => by have := (o3.lt hb').2; omega, by rw [List.take_zero, List.append_nil]; exact o4⟩ ?_
        rintro mm x y w5 ⟨k5, j, rfl, hj, rfl, y5, s5, hx5, o5⟩ J'' hJ'' _
        have hok2 := hok.2
        have hok1 := hok.1
        by_cases hjt : j < (N[i].2 - N[i].1).toNat
        · have hjt' : N[i].1 + (j : Int) < N[i].2 := by omega
          have hwj : IntKind.i64.wrap (N[i].1 + (j : Int) + 1) = N[i].1 + ((j + 1 : Nat) : Int) := by rw [wrap_id (by omega) (by omega)]; omega
          have hlen5 : (blkL (N.take i) ++ (blkS N[i]).take j).length ≤ 2000 := by rw [List.length_append, List.length_take]; omega
          simp only [pur_add, pur_sub, pur_mul, pur_eql, pur_neq, pur_lss, pur_leq, pur_gtr, pur_geq, pur_seql, pur_sneq, pur_max, pur_min, pur_nil, pur_pick_t, pur_pick_f, pur_not, pur_pure, pur_ext2_0, pur_ext2_1, pur_ext3_0, pur_ext3_1, pur_ext3_2, pur_ext4_0, pur_ext4_1, pur_ext4_2, pur_ext4_3, gd_hit, gd_tf, gd_ft, gd_undef, condS_true, condS_false, one_int, one_ptr, one_str, one_bool, one_map, one_slice, act_box, act_makeMap, agg_cells, Nat.zero_add, Nat.reduceAdd, decide_true, decide_false, Bool.not_true, Bool.not_false, not_true_eq_false, not_false_eq_true, ne_eq, Bool.bne_true, Bool.bne_false, Bool.true_bne, Bool.false_bne, Bool.true_beq, Bool.false_beq, bne_self_eq_false, beq_self_eq_true, Int.reduceLT, Int.reduceLE, Int.reduceEq, Int.reduceNe, fa_27_0, fa_27_1, ld_3, ld_22, ld_27, ld_67, st_3, st_27, st_67, al_3, al_27, al_67, bd_27_, bd_27_0_1, be_4, bn_4, ln_22, ln_35, ln_53, ix_22, ix_35, ix_53, slt_22, bs_22, bs_35, bs2_35, bs2_53, cv_3_51, cv_3_67, cv_5_3, cv_51_3, cv_51_64, cv_64_5, cv_66_5, callF_plain, nw1, nw2, nw3, nw4, nw5, nw6, nw7, nw8, nw9, nw10, nw11, nw12, resL_ptr, cel_alloc_new, cel_alloc_old, siz_lt1, siz_lt2, siz_lt3, siz_lt4, fre_alloc_new, fre_alloc_old, cel_drew, fre_drew, siz_drew, List.getElem?_toArray, List.getElem?_cons_zero, List.getElem?_cons_succ, Option.isSome_some, Option.getD_some, Option.isNone_none, Option.isNone_some, Option.isSome_none, sq_22, se_27, sn_27, bz_22_0, bz_22_1, bz_22_2, bz_22_3, bz_35_1, bz_35_2, bz_53_2, slt0_22, slf0_22, cp_22, stn_3, stn_27, stn_67, y5, hjt']
          refine pu_35 o5 (by intro u hu; simp only [List.mem_cons, List.not_mem_nil, or_false] at hu; rcases hu with rfl; exact one_int) (by omega) (by omega) fun v' w' ho hk hr => ?_
          have k6 : Keep (fun _ => False) w1 w' := k5.trans' hk fun b hb' e => by have := (o5.lt e).1; omega
          simp only [pur_add, pur_sub, pur_mul, pur_eql, pur_neq, pur_lss, pur_leq, pur_gtr, pur_geq, pur_seql, pur_sneq, pur_max, pur_min, pur_nil, pur_pick_t, pur_pick_f, pur_not, pur_pure, pur_ext2_0, pur_ext2_1, pur_ext3_0, pur_ext3_1, pur_ext3_2, pur_ext4_0, pur_ext4_1, pur_ext4_2, pur_ext4_3, gd_hit, gd_tf, gd_ft, gd_undef, condS_true, condS_false, one_int, one_ptr, one_str, one_bool, one_map, one_slice, act_box, act_makeMap, agg_cells, Nat.zero_add, Nat.reduceAdd, decide_true, decide_false, Bool.not_true, Bool.not_false, not_true_eq_false, not_false_eq_true, ne_eq, Bool.bne_true, Bool.bne_false, Bool.true_bne, Bool.false_bne, Bool.true_beq, Bool.false_beq, bne_self_eq_false, beq_self_eq_true, Int.reduceLT, Int.reduceLE, Int.reduceEq, Int.reduceNe, fa_27_0, fa_27_1, ld_3, ld_22, ld_27, ld_67, st_3, st_27, st_67, al_3, al_27, al_67, bd_27_, bd_27_0_1, be_4, bn_4, ln_22, ln_35, ln_53, ix_22, ix_35, ix_53, slt_22, bs_22, bs_35, bs2_35, bs2_53, cv_3_51, cv_3_67, cv_5_3, cv_51_3, cv_51_64, cv_64_5, cv_66_5, hwj]
          refine hJ'' ((N[i].2 - N[i].1).toNat - (j + 1)) _ _ _ (by omega) ⟨k6, j + 1, rfl, by omega, rfl, hk.cel y5 (fun e => hx5 _ e rfl), Nat.lt_of_lt_of_le s5 hk.size, fun b hb' e => ?_, ?_⟩
          · rcases hr b hb' with h1 | h1
            · exact hx5 b h1 e
            · omega
          · rw [blkS_take hjt, ← List.append_assoc, flat_append, flat_one, List.length_append]
            exact ho
        · have hjt' : ¬ N[i].1 + (j : Int) < N[i].2 := by omega
          have hjl : (blkS N[i]).take j = blkS N[i] := List.take_of_length_le (by rw [blkS_len]; omega)
          simp only [pur_add, pur_sub, pur_mul, pur_eql, pur_neq, pur_lss, pur_leq, pur_gtr, pur_geq, pur_seql, pur_sneq, pur_max, pur_min, pur_nil, pur_pick_t, pur_pick_f, pur_not, pur_pure, pur_ext2_0, pur_ext2_1, pur_ext3_0, pur_ext3_1, pur_ext3_2, pur_ext4_0, pur_ext4_1, pur_ext4_2, pur_ext4_3, gd_hit, gd_tf, gd_ft, gd_undef, condS_true, condS_false, one_int, one_ptr, one_str, one_bool, one_map, one_slice, act_box, act_makeMap, agg_cells, Nat.zero_add, Nat.reduceAdd, decide_true, decide_false, Bool.not_true, Bool.not_false, not_true_eq_false, not_false_eq_true, ne_eq, Bool.bne_true, Bool.bne_false, Bool.true_bne, Bool.false_bne, Bool.true_beq, Bool.false_beq, bne_self_eq_false, beq_self_eq_true, Int.reduceLT, Int.reduceLE, Int.reduceEq, Int.reduceNe, fa_27_0, fa_27_1, ld_3, ld_22, ld_27, ld_67, st_3, st_27, st_67, al_3, al_27, al_67, bd_27_, bd_27_0_1, be_4, bn_4, ln_22, ln_35, ln_53, ix_22, ix_35, ix_53, slt_22, bs_22, bs_35, bs2_35, bs2_53, cv_3_51, cv_3_67, cv_5_3, cv_51_3, cv_51_64, cv_64_5, cv_66_5, callF_plain, nw1, nw2, nw3, nw4, nw5, nw6, nw7, nw8, nw9, nw10, nw11, nw12, resL_ptr, cel_alloc_new, cel_alloc_old, siz_lt1, siz_lt2, siz_lt3, siz_lt4, fre_alloc_new, fre_alloc_old, cel_drew, fre_drew, siz_drew, List.getElem?_toArray, List.getElem?_cons_zero, List.getElem?_cons_succ, Option.isSome_some, Option.getD_some, Option.isNone_none, Option.isNone_some, Option.isSome_none, sq_22, se_27, sn_27, bz_22_0, bz_22_1, bz_22_2, bz_22_3, bz_35_1, bz_35_2, bz_53_2, slt0_22, slf0_22, cp_22, stn_3, stn_27, stn_67, y5, hjt', hwi]
          rw [hjl, ← blkL_take hlt] at o5
          exact hJ' (N.length - (i + 1)) _ _ _ (by omega) ⟨k5, i + 1, rfl, by omega, rfl, o5⟩
      · have hlt' : ¬ ((i : Int) < (N.length : Int)) := by omega
        have hil : i = N.length := by omega
        simp only [pur_add, pur_sub, pur_mul, pur_eql, pur_neq, pur_lss, pur_leq, pur_gtr, pur_geq, pur_seql, pur_sneq, pur_max, pur_min, pur_nil, pur_pick_t, pur_pick_f, pur_not, pur_pure, pur_ext2_0, pur_ext2_1, pur_ext3_0, pur_ext3_1, pur_ext3_2, pur_ext4_0, pur_ext4_1, pur_ext4_2, pur_ext4_3, gd_hit, gd_tf, gd_ft, gd_undef, condS_true, condS_false, one_int, one_ptr, one_str, one_bool, one_map, one_slice, act_box, act_makeMap, agg_cells, Nat.zero_add, Nat.reduceAdd, decide_true, decide_false, Bool.not_true, Bool.not_false, not_true_eq_false, not_false_eq_true, ne_eq, Bool.bne_true, Bool.bne_false, Bool.true_bne, Bool.false_bne, Bool.true_beq, Bool.false_beq, bne_self_eq_false, beq_self_eq_true, Int.reduceLT, Int.reduceLE, Int.reduceEq, Int.reduceNe, fa_27_0, fa_27_1, ld_3, ld_22, ld_27, ld_67, st_3, st_27, st_67, al_3, al_27, al_67, bd_27_, bd_27_0_1, be_4, bn_4, ln_22, ln_35, ln_53, ix_22, ix_35, ix_53, slt_22, bs_22, bs_35, bs2_35, bs2_53, cv_3_51, cv_3_67, cv_5_3, cv_51_3, cv_51_64, cv_64_5, cv_66_5, hlt']
        rw [hil, List.take_length] at o3
        have := hq _ _ N (blkL N) hn (fun _ => rfl) (fun e => absurd hle e) o3.rd (k1.trans k3)
        rw [decide_eq_true hle] at this
        exact this
theorem blocks_law {v : Value} {l : List (Int × Int)} {most : Int} (h : Rd 2 w v l.length (flat encS l)) (_ : l.length ≤ maxLen) (hg : ∀ s ∈ l, rngS s) (hwf : (Lit.int .i64 most).wf = true) (hq : ∀ w', Keep (fun b => siz w ≤ b) w w' → Q (.bool true) w') :
    callS Try.prog 5 #[v, .int .i64 most] Q w := by
  refine ref5 ?_
  unfold S5
  obtain ⟨pa, ca, rfl⟩ := h.form
  simp only [pur_add, pur_sub, pur_mul, pur_eql, pur_neq, pur_lss, pur_leq, pur_gtr, pur_geq, pur_seql, pur_sneq, pur_max, pur_min, pur_nil, pur_pick_t, pur_pick_f, pur_not, pur_pure, pur_ext2_0, pur_ext2_1, pur_ext3_0, pur_ext3_1, pur_ext3_2, pur_ext4_0, pur_ext4_1, pur_ext4_2, pur_ext4_3, gd_hit, gd_tf, gd_ft, gd_undef, condS_true, condS_false, one_int, one_ptr, one_str, one_bool, one_map, one_slice, act_box, act_makeMap, agg_cells, Nat.zero_add, Nat.reduceAdd, decide_true, decide_false, Bool.not_true, Bool.not_false, not_true_eq_false, not_false_eq_true, ne_eq, Bool.bne_true, Bool.bne_false, Bool.true_bne, Bool.false_bne, Bool.true_beq, Bool.false_beq, bne_self_eq_false, beq_self_eq_true, Int.reduceLT, Int.reduceLE, Int.reduceEq, Int.reduceNe, fa_27_0, fa_27_1, ld_3, ld_22, ld_27, ld_67, st_3, st_27, st_67, al_3, al_27, al_67, bd_27_, bd_27_0_1, be_4, bn_4, ln_22, ln_35, ln_53, ix_22, ix_35, ix_53, slt_22, bs_22, bs_35, bs2_35, bs2_53, cv_3_51, cv_3_67, cv_5_3, cv_51_3, cv_51_64, cv_64_5, cv_66_5]
  by_cases hbig : (30 : Int) < (l.length : Int)
  · simp only [pur_add, pur_sub, pur_mul, pur_eql, pur_neq, pur_lss, pur_leq, pur_gtr, pur_geq, pur_seql, pur_sneq, pur_max, pur_min, pur_nil, pur_pick_t, pur_pick_f, pur_not, pur_pure, pur_ext2_0, pur_ext2_1, pur_ext3_0, pur_ext3_1, pur_ext3_2, pur_ext4_0, pur_ext4_1, pur_ext4_2, pur_ext4_3, gd_hit, gd_tf, gd_ft, gd_undef, condS_true, condS_false, one_int, one_ptr, one_str, one_bool, one_map, one_slice, act_box, act_makeMap, agg_cells, Nat.zero_add, Nat.reduceAdd, decide_true, decide_false, Bool.not_true, Bool.not_false, not_true_eq_false, not_false_eq_true, ne_eq, Bool.bne_true, Bool.bne_false, Bool.true_bne, Bool.false_bne, Bool.true_beq, Bool.false_beq, bne_self_eq_false, beq_self_eq_true, Int.reduceLT, Int.reduceLE, Int.reduceEq, Int.reduceNe, fa_27_0, fa_27_1, ld_3, ld_22, ld_27, ld_67, st_3, st_27, st_67, al_3, al_27, al_67, bd_27_, bd_27_0_1, be_4, bn_4, ln_22, ln_35, ln_53, ix_22, ix_35, ix_53, slt_22, bs_22, bs_35, bs2_35, bs2_53, cv_3_51, cv_3_67, cv_5_3, cv_51_3, cv_51_64, cv_64_5, cv_66_5, hbig]; exact alive_c fun w' k => hq w' k.none
  by_cases hm0 : most < 0
  · simp only [pur_add, pur_sub, pur_mul, pur_eql, pur_neq, pur_lss, pur_leq, pur_gtr, pur_geq, pur_seql, pur_sneq, pur_max, pur_min, pur_nil, pur_pick_t, pur_pick_f, pur_not, pur_pure, pur_ext2_0, pur_ext2_1, pur_ext3_0, pur_ext3_1, pur_ext3_2, pur_ext4_0, pur_ext4_1, pur_ext4_2, pur_ext4_3, gd_hit, gd_tf, gd_ft, gd_undef, condS_true, condS_false, one_int, one_ptr, one_str, one_bool, one_map, one_slice, act_box, act_makeMap, agg_cells, Nat.zero_add, Nat.reduceAdd, decide_true, decide_false, Bool.not_true, Bool.not_false, not_true_eq_false, not_false_eq_true, ne_eq, Bool.bne_true, Bool.bne_false, Bool.true_bne, Bool.false_bne, Bool.true_beq, Bool.false_beq, bne_self_eq_false, beq_self_eq_true, Int.reduceLT, Int.reduceLE, Int.reduceEq, Int.reduceNe, fa_27_0, fa_27_1, ld_3, ld_22, ld_27, ld_67, st_3, st_27, st_67, al_3, al_27, al_67, bd_27_, bd_27_0_1, be_4, bn_4, ln_22, ln_35, ln_53, ix_22, ix_35, ix_53, slt_22, bs_22, bs_35, bs2_35, bs2_53, cv_3_51, cv_3_67, cv_5_3, cv_51_3, cv_51_64, cv_64_5, cv_66_5, hbig, hm0]; exact alive_c fun w' k => hq w' k.none
  by_cases hm1 : 2000 < most
  · simp only [pur_add, pur_sub, pur_mul, pur_eql, pur_neq, pur_lss, pur_leq, pur_gtr, pur_geq, pur_seql, pur_sneq, pur_max, pur_min, pur_nil, pur_pick_t, pur_pick_f, pur_not, pur_pure, pur_ext2_0, pur_ext2_1, pur_ext3_0, pur_ext3_1, pur_ext3_2, pur_ext4_0, pur_ext4_1, pur_ext4_2, pur_ext4_3, gd_hit, gd_tf, gd_ft, gd_undef, condS_true, condS_false, one_int, one_ptr, one_str, one_bool, one_map, one_slice, act_box, act_makeMap, agg_cells, Nat.zero_add, Nat.reduceAdd, decide_true, decide_false, Bool.not_true, Bool.not_false, not_true_eq_false, not_false_eq_true, ne_eq, Bool.bne_true, Bool.bne_false, Bool.true_bne, Bool.false_bne, Bool.true_beq, Bool.false_beq, bne_self_eq_false, beq_self_eq_true, Int.reduceLT, Int.reduceLE, Int.reduceEq, Int.reduceNe, fa_27_0, fa_27_1, ld_3, ld_22, ld_27, ld_67, st_3, st_27, st_67, al_3, al_27, al_67, bd_27_, bd_27_0_1, be_4, bn_4, ln_22, ln_35, ln_53, ix_22, ix_35, ix_53, slt_22, bs_22, bs_35, bs2_35, bs2_53, cv_3_51, cv_3_67, cv_5_3, cv_51_3, cv_51_64, cv_64_5, cv_66_5, hbig, hm0, hm1]; exact alive_c fun w' k => hq w' k.none
  simp only [pur_add, pur_sub, pur_mul, pur_eql, pur_neq, pur_lss, pur_leq, pur_gtr, pur_geq, pur_seql, pur_sneq, pur_max, pur_min, pur_nil, pur_pick_t, pur_pick_f, pur_not, pur_pure, pur_ext2_0, pur_ext2_1, pur_ext3_0, pur_ext3_1, pur_ext3_2, pur_ext4_0, pur_ext4_1, pur_ext4_2, pur_ext4_3, gd_hit, gd_tf, gd_ft, gd_undef, condS_true, condS_false, one_int, one_ptr, one_str, one_bool, one_map, one_slice, act_box, act_makeMap, agg_cells, Nat.zero_add, Nat.reduceAdd, decide_true, decide_false, Bool.not_true, Bool.not_false, not_true_eq_false, not_false_eq_true, ne_eq, Bool.bne_true, Bool.bne_false, Bool.true_bne, Bool.false_bne, Bool.true_beq, Bool.false_beq, bne_self_eq_false, beq_self_eq_true, Int.reduceLT, Int.reduceLE, Int.reduceEq, Int.reduceNe, fa_27_0, fa_27_1, ld_3, ld_22, ld_27, ld_67, st_3, st_27, st_67, al_3, al_27, al_67, bd_27_, bd_27_0_1, be_4, bn_4, ln_22, ln_35, ln_53, ix_22, ix_35, ix_53, slt_22, bs_22, bs_35, bs2_35, bs2_53, cv_3_51, cv_3_67, cv_5_3, cv_51_3, cv_51_64, cv_64_5, cv_66_5, hbig, hm0, hm1]
  refine norm_c h (by omega) fun w1 v1 N hn hlen o1 k1 => ?_
  have hNl : N.length ≤ 30 := by have := List.length_filter_le (fun s => decide (ok s)) l; omega
  have endN := norm_ends hn (M := 9223372036854775807) fun s hs => (hg s hs).2.2.2
  refine blocks_c (h.keep0 k1) (by omega) (fun s hs => (hg s hs).2.2.2) (by omega) fun w2 v2 N' bs hn' hb1 hb2 r2 k2 => ?_
  have eN : N' = N := IsNorm.unique hn' hn fun x => Iff.rfl
  subst eN
  obtain ⟨p1, c1, rfl⟩ := o1.form
  obtain ⟨p2, c2, rfl⟩ := r2.form
  have hbl : bs.length ≤ 2000 := by
    by_cases hs : sumS N' ≤ most
    · have := blkL_len N' hn.1.1; rw [hb1 hs]; omega
    · rw [hb2 hs]; simp
  have sumPos : ∀ i, 0 ≤ sumS (N'.take i) := fun i => sumS_nonneg fun s hs => hn.1.1 s (List.mem_of_mem_take hs)
  have sumLe : ∀ i, sumS (N'.take i) ≤ sumS N' := fun i => by
    have h1 : ∀ a b : List Sp, sumS (a ++ b) = sumS a + sumS b := fun a b => by
      induction a with
      | nil => simp [sumS]
      | cons t a ih => rw [List.cons_append, sumS, ih, sumS]; omega
    have h2 := h1 (N'.take i) (N'.drop i)
    rw [List.take_append_drop] at h2
    have := sumS_nonneg (l := N'.drop i) fun s hs => hn.1.1 s (List.mem_of_mem_drop hs)
    omega
  simp only [pur_add, pur_sub, pur_mul, pur_eql, pur_neq, pur_lss, pur_leq, pur_gtr, pur_geq, pur_seql, pur_sneq, pur_max, pur_min, pur_nil, pur_pick_t, pur_pick_f, pur_not, pur_pure, pur_ext2_0, pur_ext2_1, pur_ext3_0, pur_ext3_1, pur_ext3_2, pur_ext4_0, pur_ext4_1, pur_ext4_2, pur_ext4_3, gd_hit, gd_tf, gd_ft, gd_undef, condS_true, condS_false, one_int, one_ptr, one_str, one_bool, one_map, one_slice, act_box, act_makeMap, agg_cells, Nat.zero_add, Nat.reduceAdd, decide_true, decide_false, Bool.not_true, Bool.not_false, not_true_eq_false, not_false_eq_true, ne_eq, Bool.bne_true, Bool.bne_false, Bool.true_bne, Bool.false_bne, Bool.true_beq, Bool.false_beq, bne_self_eq_false, beq_self_eq_true, Int.reduceLT, Int.reduceLE, Int.reduceEq, Int.reduceNe, fa_27_0, fa_27_1, ld_3, ld_22, ld_27, ld_67, st_3, st_27, st_67, al_3, al_27, al_67, bd_27_, bd_27_0_1, be_4, bn_4, ln_22, ln_35, ln_53, ix_22, ix_35, ix_53, slt_22, bs_22, bs_35, bs2_35, bs2_53, cv_3_51, cv_3_67, cv_5_3, cv_51_3, cv_51_64, cv_64_5, cv_66_5]
  refine lp2 (fun mm y z w' => Keep (fun _ => False) w2 w' ∧ ∃ (i : Nat) (n : Int), y = .int .i64 n ∧ z = .int .i64 (i : Int) ∧ i ≤ N'.length ∧ mm = N'.length - i ∧ ((n = sumS (N'.take i) ∧ n ≤ most) ∨ (n = most + 1 ∧ most < sumS N'))) N'.length
    ⟨Keep.refl _ _, 0, 0, rfl, rfl, Nat.zero_le _, by omega, .inl ⟨by simp [sumS], by omega⟩⟩ ?_
  rintro mm y z w3 ⟨k3, i, n, rfl, rfl, hi, rfl, hn3⟩ J hJ _
  have hwi := wrap_succ (i := i) (by omega)
  have fin : (n ≤ most ↔ sumS N' ≤ most) → (n ≤ most → n = sumS N') → lp 1 (fun J_2 => fun v_i_1 w_22 => ∀ _j : Fr, 
      pur Try.prog (Builtin.len_ #[35] 3 #[.slice p2 bs.length c2]) fun t62 => 
      pur Try.prog (binS .lss 3 false false v_i_1 t62) fun t63 => 
      condS t63
       (pur Try.prog (Instr.indexAt 35 (.slice p2 bs.length c2) v_i_1) fun t68 => 
      rd Try.prog (Instr.loadAt 3 t68) (fun t69 => 
      pur Try.prog (binS .sub 3 false true v_i_1 (.int .i64 1)) fun t72 => 
      pur Try.prog (Instr.indexAt 35 (.slice p2 bs.length c2) t72) fun t73 => 
      rd Try.prog (Instr.loadAt 3 t73) (fun t74 => 
      pur Try.prog (binS .leq 3 false false t69 t74) fun t75 => 
      condS t75
       (Q (.bool false) (World.drew w_22))
       (pur Try.prog (binS .add 3 false true v_i_1 (.int .i64 1)) fun t65 => 
      J_2 t65 (World.drew w_22))) (World.drew w_22)) (World.drew w_22))
       (callS Try.prog 7 #[] (fun t76 w_23 => 
     gd t76 true (fun k_7 w_24 => k_7 (.bool (decide (sumS N' ≤ most))) w_24) (fun t78_1 w_25 => 
     gd t76 true (fun k_8 w_26 => k_8 (.int .i64 n) w_26) (fun t79_1 w_27 => 
     gd t76 true (fun k_9 w_28 => k_9 (.int .i64 most) w_28) (fun t80_1 w_29 => 
     gd t76 true (fun k_10 w_30 => pur Try.prog (binS .leq 3 false false t79_1 t80_1) fun t81 => k_10 t81 w_30) (fun t81_1 w_31 => 
     gd t76 true (fun k_11 w_32 => pur Try.prog (binS .eql 4 false false t78_1 t81_1) fun t82 => k_11 t82 w_32) (fun t82_1 w_33 => 
     pur Try.prog (pickS t76 t82_1 (.bool false)) fun t83 => 
     gd t83 true (fun k_12 w_34 => k_12 (.bool (decide (sumS N' ≤ most))) w_34) (fun t85_1 w_35 => 
     gd t83 true (fun k_13 w_36 => pur Try.prog (Op.unary .not t85_1) fun t86 => k_13 t86 w_36) (fun t86_1 w_37 => 
     gd t83 true (fun k_14 w_38 => k_14 t86_1 w_38) (fun t87_1 w_39 => 
     gd t87_1 false (fun k_15 w_40 => k_15 (.slice p2 bs.length c2) w_40) (fun t88_1 w_41 => 
     gd t87_1 false (fun k_16 w_42 => pur Try.prog (Builtin.len_ #[35] 3 #[t88_1]) fun t89 => k_16 t89 w_42) (fun t89_1 w_43 => 
     gd t87_1 false (fun k_17 w_44 => k_17 (.int .i64 n) w_44) (fun t90_1 w_45 => 
     gd t87_1 false (fun k_18 w_46 => pur Try.prog (binS .eql 3 false false t89_1 t90_1) fun t91 => k_18 t91 w_46) (fun t91_1 w_47 => 
     gd t83 true (fun k_19 w_48 => pur Try.prog (pickS t87_1 (.bool true) t91_1) fun t92 => k_19 t92 w_48) (fun t92_1 w_49 => 
     pur Try.prog (pickS t83 t92_1 (.bool false)) fun t93 => 
     gd t93 true (fun k_20 w_50 => k_20 (.bool (decide (sumS N' ≤ most))) w_50) (fun t95_1 w_51 => 
     gd t93 true (fun k_21 w_52 => k_21 t95_1 w_52) (fun t96_1 w_53 => 
     gd t96_1 false (fun k_22 w_54 => k_22 (.slice p2 bs.length c2) w_54) (fun t97_1 w_55 => 
     gd t96_1 false (fun k_23 w_56 => pur Try.prog (Builtin.len_ #[35] 3 #[t97_1]) fun t98 => k_23 t98 w_56) (fun t98_1 w_57 => 
     gd t96_1 false (fun k_24 w_58 => pur Try.prog (binS .eql 3 false true t98_1 (.int .i64 0)) fun t99 => k_24 t99 w_58) (fun t99_1 w_59 => 
     gd t93 true (fun k_25 w_60 => pur Try.prog (pickS t96_1 (.bool true) t99_1) fun t100 => k_25 t100 w_60) (fun t100_1 w_61 => 
     pur Try.prog (pickS t93 t100_1 (.bool false)) fun t101 => 
     Q t101 w_61) w_59) w_57) w_55) w_53) w_51) w_49) w_47) w_45) w_43) w_41) w_39) w_37) w_35) w_33) w_31) w_29) w_27) w_25) w_23) w_22)) [(.int .i64 1)] w3 := fun hiff heq => by
    refine lp1 (fun mm y w' => Keep (fun _ => False) w3 w' ∧ ∃ i : Nat, y = .int .i64 (i : Int) ∧ 1 ≤ i ∧ i ≤ bs.length + 1 ∧ mm = bs.length + 1 - i) bs.length
      ⟨Keep.refl _ _, 1, rfl, by omega, by omega, by omega⟩ ?_
    rintro mm y w4 ⟨k4, i, rfl, hi1, hi, rfl⟩ J hJ _
    have hwi := wrap_succ (i := i) (by omega)
    have hwp := wrap_pred (i := i) (by omega) (by omega)
    have k24 := k3.trans k4
    by_cases hlt : i < bs.length
    · have hlt' : ((i : Int) < (bs.length : Int)) := by omega
      have hlt1 : i - 1 < bs.length := by omega
      obtain ⟨b, o, c', e, _, hcel⟩ := (r2.keep0 k24.drew).at (by omega)
      injection e with e1 _ e2
      subst e1 e2
      have x1 : cel w4.drew b (o + i) = some (.int .i64 bs[i]) := by
        have := hcel i (by omega)
        rw [this]
        have := flat_get (enc := encN) encN_len (List.getElem?_eq_getElem hlt) (j := 0) (by omega)
        simpa [encN] using this
      have x0 : cel w4.drew b (o + (i - 1)) = some (.int .i64 bs[i - 1]) := by
        have := hcel (i - 1) (by omega)
        rw [this]
        have := flat_get (enc := encN) encN_len (List.getElem?_eq_getElem hlt1) (j := 0) (by omega)
        simpa [encN] using this
      have hr : bs.Pairwise (· < ·) := by
        by_cases hs : sumS N' ≤ most
        · rw [hb1 hs]; exact blkL_rise _ hn.1
        · rw [hb2 hs]; exact List.Pairwise.nil
      have hno : ¬ bs[i] ≤ bs[i - 1] := by
        have := List.pairwise_iff_getElem.1 hr (i - 1) i hlt1 hlt (by omega)
        omega
      simp only [pur_add, pur_sub, pur_mul, pur_eql, pur_neq, pur_lss, pur_leq, pur_gtr, pur_geq, pur_seql, pur_sneq, pur_max, pur_min, pur_nil, pur_pick_t, pur_pick_f, pur_not, pur_pure, pur_ext2_0, pur_ext2_1, pur_ext3_0, pur_ext3_1, pur_ext3_2, pur_ext4_0, pur_ext4_1, pur_ext4_2, pur_ext4_3, gd_hit, gd_tf, gd_ft, gd_undef, condS_true, condS_false, one_int, one_ptr, one_str, one_bool, one_map, one_slice, act_box, act_makeMap, agg_cells, Nat.zero_add, Nat.reduceAdd, decide_true, decide_false, Bool.not_true, Bool.not_false, not_true_eq_false, not_false_eq_true, ne_eq, Bool.bne_true, Bool.bne_false, Bool.true_bne, Bool.false_bne, Bool.true_beq, Bool.false_beq, bne_self_eq_false, beq_self_eq_true, Int.reduceLT, Int.reduceLE, Int.reduceEq, Int.reduceNe, fa_27_0, fa_27_1, ld_3, ld_22, ld_27, ld_67, st_3, st_27, st_67, al_3, al_27, al_67, bd_27_, bd_27_0_1, be_4, bn_4, ln_22, ln_35, ln_53, ix_22, ix_35, ix_53, slt_22, bs_22, bs_35, bs2_35, bs2_53, cv_3_51, cv_3_67, cv_5_3, cv_51_3, cv_51_64, cv_64_5, cv_66_5, hlt']
      rw [ix_35 hlt]
      simp only [pur_add, pur_sub, pur_mul, pur_eql, pur_neq, pur_lss, pur_leq, pur_gtr, pur_geq, pur_seql, pur_sneq, pur_max, pur_min, pur_nil, pur_pick_t, pur_pick_f, pur_not, pur_pure, pur_ext2_0, pur_ext2_1, pur_ext3_0, pur_ext3_1, pur_ext3_2, pur_ext4_0, pur_ext4_1, pur_ext4_2, pur_ext4_3, gd_hit, gd_tf, gd_ft, gd_undef, condS_true, condS_false, one_int, one_ptr, one_str, one_bool, one_map, one_slice, act_box, act_makeMap, agg_cells, Nat.zero_add, Nat.reduceAdd, decide_true, decide_false, Bool.not_true, Bool.not_false, not_true_eq_false, not_false_eq_true, ne_eq, Bool.bne_true, Bool.bne_false, Bool.true_bne, Bool.false_bne, Bool.true_beq, Bool.false_beq, bne_self_eq_false, beq_self_eq_true, Int.reduceLT, Int.reduceLE, Int.reduceEq, Int.reduceNe, fa_27_0, fa_27_1, ld_3, ld_22, ld_27, ld_67, st_3, st_27, st_67, al_3, al_27, al_67, bd_27_, bd_27_0_1, be_4, bn_4, ln_22, ln_35, ln_53, ix_22, ix_35, ix_53, slt_22, bs_22, bs_35, bs2_35, bs2_53, cv_3_51, cv_3_67, cv_5_3, cv_51_3, cv_51_64, cv_64_5, cv_66_5, callF_plain, nw1, nw2, nw3, nw4, nw5, nw6, nw7, nw8, nw9, nw10, nw11, nw12, resL_ptr, cel_alloc_new, cel_alloc_old, siz_lt1, siz_lt2, siz_lt3, siz_lt4, fre_alloc_new, fre_alloc_old, cel_drew, fre_drew, siz_drew, List.getElem?_toArray, List.getElem?_cons_zero, List.getElem?_cons_succ, Option.isSome_some, Option.getD_some, Option.isNone_none, Option.isNone_some, Option.isSome_none, sq_22, se_27, sn_27, bz_22_0, bz_22_1, bz_22_2, bz_22_3, bz_35_1, bz_35_2, bz_53_2, slt0_22, slf0_22, cp_22, stn_3, stn_27, stn_67, x1, hwp]
      rw [ix_35 hlt1]
      simp only [pur_add, pur_sub, pur_mul, pur_eql, pur_neq, pur_lss, pur_leq, pur_gtr, pur_geq, pur_seql, pur_sneq, pur_max, pur_min, pur_nil, pur_pick_t, pur_pick_f, pur_not, pur_pure, pur_ext2_0, pur_ext2_1, pur_ext3_0, pur_ext3_1, pur_ext3_2, pur_ext4_0, pur_ext4_1, pur_ext4_2, pur_ext4_3, gd_hit, gd_tf, gd_ft, gd_undef, condS_true, condS_false, one_int, one_ptr, one_str, one_bool, one_map, one_slice, act_box, act_makeMap, agg_cells, Nat.zero_add, Nat.reduceAdd, decide_true, decide_false, Bool.not_true, Bool.not_false, not_true_eq_false, not_false_eq_true, ne_eq, Bool.bne_true, Bool.bne_false, Bool.true_bne, Bool.false_bne, Bool.true_beq, Bool.false_beq, bne_self_eq_false, beq_self_eq_true, Int.reduceLT, Int.reduceLE, Int.reduceEq, Int.reduceNe, fa_27_0, fa_27_1, ld_3, ld_22, ld_27, ld_67, st_3, st_27, st_67, al_3, al_27, al_67, bd_27_, bd_27_0_1, be_4, bn_4, ln_22, ln_35, ln_53, ix_22, ix_35, ix_53, slt_22, bs_22, bs_35, bs2_35, bs2_53, cv_3_51, cv_3_67, cv_5_3, cv_51_3, cv_51_64, cv_64_5, cv_66_5, callF_plain, nw1, nw2, nw3, nw4, nw5, nw6, nw7, nw8, nw9, nw10, nw11, nw12, resL_ptr, cel_alloc_new, cel_alloc_old, siz_lt1, siz_lt2, siz_lt3, siz_lt4, fre_alloc_new, fre_alloc_old, cel_drew, fre_drew, siz_drew, List.getElem?_toArray, List.getElem?_cons_zero, List.getElem?_cons_succ, Option.isSome_some, Option.getD_some, Option.isNone_none, Option.isNone_some, Option.isSome_none, sq_22, se_27, sn_27, bz_22_0, bz_22_1, bz_22_2, bz_22_3, bz_35_1, bz_35_2, bz_53_2, slt0_22, slf0_22, cp_22, stn_3, stn_27, stn_67, x0, hno, hwi]
      exact hJ (bs.length + 1 - (i + 1)) _ _ (by omega) ⟨k4.drew, i + 1, rfl, by omega, by omega, rfl⟩
    · have hlt' : ¬ ((i : Int) < (bs.length : Int)) := by omega
      simp only [pur_add, pur_sub, pur_mul, pur_eql, pur_neq, pur_lss, pur_leq, pur_gtr, pur_geq, pur_seql, pur_sneq, pur_max, pur_min, pur_nil, pur_pick_t, pur_pick_f, pur_not, pur_pure, pur_ext2_0, pur_ext2_1, pur_ext3_0, pur_ext3_1, pur_ext3_2, pur_ext4_0, pur_ext4_1, pur_ext4_2, pur_ext4_3, gd_hit, gd_tf, gd_ft, gd_undef, condS_true, condS_false, one_int, one_ptr, one_str, one_bool, one_map, one_slice, act_box, act_makeMap, agg_cells, Nat.zero_add, Nat.reduceAdd, decide_true, decide_false, Bool.not_true, Bool.not_false, not_true_eq_false, not_false_eq_true, ne_eq, Bool.bne_true, Bool.bne_false, Bool.true_bne, Bool.false_bne, Bool.true_beq, Bool.false_beq, bne_self_eq_false, beq_self_eq_true, Int.reduceLT, Int.reduceLE, Int.reduceEq, Int.reduceNe, fa_27_0, fa_27_1, ld_3, ld_22, ld_27, ld_67, st_3, st_27, st_67, al_3, al_27, al_67, bd_27_, bd_27_0_1, be_4, bn_4, ln_22, ln_35, ln_53, ix_22, ix_35, ix_53, slt_22, bs_22, bs_35, bs2_35, bs2_53, cv_3_51, cv_3_67, cv_5_3, cv_51_3, cv_51_64, cv_64_5, cv_66_5, hlt']
      refine alive_c fun w5 k5 => ?_
      have k05 := ((k1.trans k2).trans k24).trans k5
      by_cases hs : sumS N' ≤ most
      · have hn1 := hiff.2 hs
        have hn2 := heq hn1
        have hbn : (bs.length : Int) = n := by rw [hb1 hs, blkL_len N' hn.1.1, hn2]
        simp only [pur_add, pur_sub, pur_mul, pur_eql, pur_neq, pur_lss, pur_leq, pur_gtr, pur_geq, pur_seql, pur_sneq, pur_max, pur_min, pur_nil, pur_pick_t, pur_pick_f, pur_not, pur_pure, pur_ext2_0, pur_ext2_1, pur_ext3_0, pur_ext3_1, pur_ext3_2, pur_ext4_0, pur_ext4_1, pur_ext4_2, pur_ext4_3, gd_hit, gd_tf, gd_ft, gd_undef, condS_true, condS_false, one_int, one_ptr, one_str, one_bool, one_map, one_slice, act_box, act_makeMap, agg_cells, Nat.zero_add, Nat.reduceAdd, decide_true, decide_false, Bool.not_true, Bool.not_false, not_true_eq_false, not_false_eq_true, ne_eq, Bool.bne_true, Bool.bne_false, Bool.true_bne, Bool.false_bne, Bool.true_beq, Bool.false_beq, bne_self_eq_false, beq_self_eq_true, Int.reduceLT, Int.reduceLE, Int.reduceEq, Int.reduceNe, fa_27_0, fa_27_1, ld_3, ld_22, ld_27, ld_67, st_3, st_27, st_67, al_3, al_27, al_67, bd_27_, bd_27_0_1, be_4, bn_4, ln_22, ln_35, ln_53, ix_22, ix_35, ix_53, slt_22, bs_22, bs_35, bs2_35, bs2_53, cv_3_51, cv_3_67, cv_5_3, cv_51_3, cv_51_64, cv_64_5, cv_66_5, hs, hn1, hbn]
        exact hq _ k05.none
      · have hn1 : ¬ n ≤ most := fun e => hs (hiff.1 e)
        have hbn : (bs.length : Int) = 0 := by rw [hb2 hs]; rfl
        simp only [pur_add, pur_sub, pur_mul, pur_eql, pur_neq, pur_lss, pur_leq, pur_gtr, pur_geq, pur_seql, pur_sneq, pur_max, pur_min, pur_nil, pur_pick_t, pur_pick_f, pur_not, pur_pure, pur_ext2_0, pur_ext2_1, pur_ext3_0, pur_ext3_1, pur_ext3_2, pur_ext4_0, pur_ext4_1, pur_ext4_2, pur_ext4_3, gd_hit, gd_tf, gd_ft, gd_undef, condS_true, condS_false, one_int, one_ptr, one_str, one_bool, one_map, one_slice, act_box, act_makeMap, agg_cells, Nat.zero_add, Nat.reduceAdd, decide_true, decide_false, Bool.not_true, Bool.not_false, not_true_eq_false, not_false_eq_true, ne_eq, Bool.bne_true, Bool.bne_false, Bool.true_bne, Bool.false_bne, Bool.true_beq, Bool.false_beq, bne_self_eq_false, beq_self_eq_true, Int.reduceLT, Int.reduceLE, Int.reduceEq, Int.reduceNe, fa_27_0, fa_27_1, ld_3, ld_22, ld_27, ld_67, st_3, st_27, st_67, al_3, al_27, al_67, bd_27_, bd_27_0_1, be_4, bn_4, ln_22, ln_35, ln_53, ix_22, ix_35, ix_53, slt_22, bs_22, bs_35, bs2_35, bs2_53, cv_3_51, cv_3_67, cv_5_3, cv_51_3, cv_51_64, cv_64_5, cv_66_5, hs, hn1, hbn]
        exact hq _ k05.none
  by_cases hlt : i < N'.length
  · have hlt' : ((i : Int) < (N'.length : Int)) := by omega
    by_cases hnm : n ≤ most
    · have hcase : n = sumS (N'.take i) := by rcases hn3 with h3 | h3 <;> omega
      have hsi : N'[i]? = some N'[i] := List.getElem?_eq_getElem hlt
      have hend := endN _ (List.getElem_mem hlt)
      have hok := hn.1.1 _ (List.getElem_mem hlt)
      have hok2 := hok.2
      have hok1 := hok.1
      have hpos := sumPos i
      have hS : sumS (N'.take (i + 1)) = sumS (N'.take i) + (N'[i].2 - N'[i].1) := by rw [List.take_add_one, hsi, Option.toList_some, sumS_snoc]
      have hle1 := sumLe (i + 1)
      have o1' := o1.keep (k2.trans k3) fun _ _ => id
      obtain ⟨g, cg, e, _, _, _, _, _, hcel⟩ := o1'.at (by omega)
      injection e with e1 _ e2
      subst e1 e2
      obtain ⟨q0, q1⟩ := spans_at (b := g) (o := 0) (l := N') (fun j hj => by rw [Nat.zero_add]; exact hcel j hj) hsi
      rw [Nat.zero_add] at q0 q1
      simp only [pur_add, pur_sub, pur_mul, pur_eql, pur_neq, pur_lss, pur_leq, pur_gtr, pur_geq, pur_seql, pur_sneq, pur_max, pur_min, pur_nil, pur_pick_t, pur_pick_f, pur_not, pur_pure, pur_ext2_0, pur_ext2_1, pur_ext3_0, pur_ext3_1, pur_ext3_2, pur_ext4_0, pur_ext4_1, pur_ext4_2, pur_ext4_3, gd_hit, gd_tf, gd_ft, gd_undef, condS_true, condS_false, one_int, one_ptr, one_str, one_bool, one_map, one_slice, act_box, act_makeMap, agg_cells, Nat.zero_add, Nat.reduceAdd, decide_true, decide_false, Bool.not_true, Bool.not_false, not_true_eq_false, not_false_eq_true, ne_eq, Bool.bne_true, Bool.bne_false, Bool.true_bne, Bool.false_bne, Bool.true_beq, Bool.false_beq, bne_self_eq_false, beq_self_eq_true, Int.reduceLT, Int.reduceLE, Int.reduceEq, Int.reduceNe, fa_27_0, fa_27_1, ld_3, ld_22, ld_27, ld_67, st_3, st_27, st_67, al_3, al_27, al_67, bd_27_, bd_27_0_1, be_4, bn_4, ln_22, ln_35, ln_53, ix_22, ix_35, ix_53, slt_22, bs_22, bs_35, bs2_35, bs2_53, cv_3_51, cv_3_67, cv_5_3, cv_51_3, cv_51_64, cv_64_5, cv_66_5, hlt', hnm]
      refine jn1 (fun (x' : Value) (w' : World) => Keep (fun _ => False) w2 w' ∧ ∃ n' : Int, x' = .int .i64 n' ∧ ((n' = sumS (N'.take (i + 1)) ∧ n' ≤ most) ∨ (n' = most + 1 ∧ most < sumS N'))) (fun J' hJ' => ?_) ?_
      · rw [ix_22 hlt]
        simp only [pur_add, pur_sub, pur_mul, pur_eql, pur_neq, pur_lss, pur_leq, pur_gtr, pur_geq, pur_seql, pur_sneq, pur_max, pur_min, pur_nil, pur_pick_t, pur_pick_f, pur_not, pur_pure, pur_ext2_0, pur_ext2_1, pur_ext3_0, pur_ext3_1, pur_ext3_2, pur_ext4_0, pur_ext4_1, pur_ext4_2, pur_ext4_3, gd_hit, gd_tf, gd_ft, gd_undef, condS_true, condS_false, one_int, one_ptr, one_str, one_bool, one_map, one_slice, act_box, act_makeMap, agg_cells, Nat.zero_add, Nat.reduceAdd, decide_true, decide_false, Bool.not_true, Bool.not_false, not_true_eq_false, not_false_eq_true, ne_eq, Bool.bne_true, Bool.bne_false, Bool.true_bne, Bool.false_bne, Bool.true_beq, Bool.false_beq, bne_self_eq_false, beq_self_eq_true, Int.reduceLT, Int.reduceLE, Int.reduceEq, Int.reduceNe, fa_27_0, fa_27_1, ld_3, ld_22, ld_27, ld_67, st_3, st_27, st_67, al_3, al_27, al_67, bd_27_, bd_27_0_1, be_4, bn_4, ln_22, ln_35, ln_53, ix_22, ix_35, ix_53, slt_22, bs_22, bs_35, bs2_35, bs2_53, cv_3_51, cv_3_67, cv_5_3, cv_51_3, cv_51_64, cv_64_5, cv_66_5, callF_plain, nw1, nw2, nw3, nw4, nw5, nw6, nw7, nw8, nw9, nw10, nw11, nw12, resL_ptr, cel_alloc_new, cel_alloc_old, siz_lt1, siz_lt2, siz_lt3, siz_lt4, fre_alloc_new, fre_alloc_old, cel_drew, fre_drew, siz_drew, List.getElem?_toArray, List.getElem?_cons_zero, List.getElem?_cons_succ, Option.isSome_some, Option.getD_some, Option.isNone_none, Option.isNone_some, Option.isSome_none, sq_22, se_27, sn_27, bz_22_0, bz_22_1, bz_22_2, bz_22_3, bz_35_1, bz_35_2, bz_53_2, slt0_22, slf0_22, cp_22, stn_3, stn_27, stn_67, q0, q1]
        refine len_c hend fun w4 g4 => ?_
        have hif : (if ok (N'[i].1, N'[i].2) then N'[i].2 - N'[i].1 else 0) = N'[i].2 - N'[i].1 := if_pos hok
        have hw1 : IntKind.i64.wrap (most - n) = most - n := wrap_id (by omega) (by omega)
        have hw2 : IntKind.i64.wrap (most + 1) = most + 1 := wrap_id (by omega) (by omega)
        rw [hif]
        by_cases hgt : most - n < N'[i].2 - N'[i].1
        · simp only [pur_add, pur_sub, pur_mul, pur_eql, pur_neq, pur_lss, pur_leq, pur_gtr, pur_geq, pur_seql, pur_sneq, pur_max, pur_min, pur_nil, pur_pick_t, pur_pick_f, pur_not, pur_pure, pur_ext2_0, pur_ext2_1, pur_ext3_0, pur_ext3_1, pur_ext3_2, pur_ext4_0, pur_ext4_1, pur_ext4_2, pur_ext4_3, gd_hit, gd_tf, gd_ft, gd_undef, condS_true, condS_false, one_int, one_ptr, one_str, one_bool, one_map, one_slice, act_box, act_makeMap, agg_cells, Nat.zero_add, Nat.reduceAdd, decide_true, decide_false, Bool.not_true, Bool.not_false, not_true_eq_false, not_false_eq_true, ne_eq, Bool.bne_true, Bool.bne_false, Bool.true_bne, Bool.false_bne, Bool.true_beq, Bool.false_beq, bne_self_eq_false, beq_self_eq_true, Int.reduceLT, Int.reduceLE, Int.reduceEq, Int.reduceNe, fa_27_0, fa_27_1, ld_3, ld_22, ld_27, ld_67, st_3, st_27, st_67, al_3, al_27, al_67, bd_27_, bd_27_0_1, be_4, bn_4, ln_22, ln_35, ln_53, ix_22, ix_35, ix_53, slt_22, bs_22, bs_35, bs2_35, bs2_53, cv_3_51, cv_3_67, cv_5_3, cv_51_3, cv_51_64, cv_64_5, cv_66_5, hw1, hw2, hgt]
          exact hJ' _ _ ⟨k3.trans g4.1, most + 1, rfl, .inr ⟨rfl, by omega⟩⟩
        · have q0' := g4.1.cel q0 id
          have q1' := g4.1.cel q1 id
          simp only [pur_add, pur_sub, pur_mul, pur_eql, pur_neq, pur_lss, pur_leq, pur_gtr, pur_geq, pur_seql, pur_sneq, pur_max, pur_min, pur_nil, pur_pick_t, pur_pick_f, pur_not, pur_pure, pur_ext2_0, pur_ext2_1, pur_ext3_0, pur_ext3_1, pur_ext3_2, pur_ext4_0, pur_ext4_1, pur_ext4_2, pur_ext4_3, gd_hit, gd_tf, gd_ft, gd_undef, condS_true, condS_false, one_int, one_ptr, one_str, one_bool, one_map, one_slice, act_box, act_makeMap, agg_cells, Nat.zero_add, Nat.reduceAdd, decide_true, decide_false, Bool.not_true, Bool.not_false, not_true_eq_false, not_false_eq_true, ne_eq, Bool.bne_true, Bool.bne_false, Bool.true_bne, Bool.false_bne, Bool.true_beq, Bool.false_beq, bne_self_eq_false, beq_self_eq_true, Int.reduceLT, Int.reduceLE, Int.reduceEq, Int.reduceNe, fa_27_0, fa_27_1, ld_3, ld_22, ld_27, ld_67, st_3, st_27, st_67, al_3, al_27, al_67, bd_27_, bd_27_0_1, be_4, bn_4, ln_22, ln_35, ln_53, ix_22, ix_35, ix_53, slt_22, bs_22, bs_35, bs2_35, bs2_53, cv_3_51, cv_3_67, cv_5_3, cv_51_3, cv_51_64, cv_64_5, cv_66_5, hw1, hgt]
          rw [ix_22 hlt]
          simp only [pur_add, pur_sub, pur_mul, pur_eql, pur_neq, pur_lss, pur_leq, pur_gtr, pur_geq, pur_seql, pur_sneq, pur_max, pur_min, pur_nil, pur_pick_t, pur_pick_f, pur_not, pur_pure, pur_ext2_0, pur_ext2_1, pur_ext3_0, pur_ext3_1, pur_ext3_2, pur_ext4_0, pur_ext4_1, pur_ext4_2, pur_ext4_3, gd_hit, gd_tf, gd_ft, gd_undef, condS_true, condS_false, one_int, one_ptr, one_str, one_bool, one_map, one_slice, act_box, act_makeMap, agg_cells, Nat.zero_add, Nat.reduceAdd, decide_true, decide_false, Bool.not_true, Bool.not_false, not_true_eq_false, not_false_eq_true, ne_eq, Bool.bne_true, Bool.bne_false, Bool.true_bne, Bool.false_bne, Bool.true_beq, Bool.false_beq, bne_self_eq_false, beq_self_eq_true, Int.reduceLT, Int.reduceLE, Int.reduceEq, Int.reduceNe, fa_27_0, fa_27_1, ld_3, ld_22, ld_27, ld_67, st_3, st_27, st_67, al_3, al_27, al_67, bd_27_, bd_27_0_1, be_4, bn_4, ln_22, ln_35, ln_53, ix_22, ix_35, ix_53, slt_22, bs_22, bs_35, bs2_35, bs2_53, cv_3_51, cv_3_67, cv_5_3, cv_51_3, cv_51_64, cv_64_5, cv_66_5, callF_plain, nw1, nw2, nw3, nw4, nw5, nw6, nw7, nw8, nw9, nw10, nw11, nw12, resL_ptr, cel_alloc_new, cel_alloc_old, siz_lt1, siz_lt2, siz_lt3, siz_lt4, fre_alloc_new, fre_alloc_old, cel_drew, fre_drew, siz_drew, List.getElem?_toArray, List.getElem?_cons_zero, List.getElem?_cons_succ, Option.isSome_some, Option.getD_some, Option.isNone_none, Option.isNone_some, Option.isSome_none, sq_22, se_27, sn_27, bz_22_0, bz_22_1, bz_22_2, bz_22_3, bz_35_1, bz_35_2, bz_53_2, slt0_22, slf0_22, cp_22, stn_3, stn_27, stn_67, q0', q1']
          refine len_c hend fun w5 g5 => ?_
          rw [hif]
          have hw3 : IntKind.i64.wrap (n + (N'[i].2 - N'[i].1)) = n + (N'[i].2 - N'[i].1) := wrap_id (by omega) (by omega)
          simp only [pur_add, pur_sub, pur_mul, pur_eql, pur_neq, pur_lss, pur_leq, pur_gtr, pur_geq, pur_seql, pur_sneq, pur_max, pur_min, pur_nil, pur_pick_t, pur_pick_f, pur_not, pur_pure, pur_ext2_0, pur_ext2_1, pur_ext3_0, pur_ext3_1, pur_ext3_2, pur_ext4_0, pur_ext4_1, pur_ext4_2, pur_ext4_3, gd_hit, gd_tf, gd_ft, gd_undef, condS_true, condS_false, one_int, one_ptr, one_str, one_bool, one_map, one_slice, act_box, act_makeMap, agg_cells, Nat.zero_add, Nat.reduceAdd, decide_true, decide_false, Bool.not_true, Bool.not_false, not_true_eq_false, not_false_eq_true, ne_eq, Bool.bne_true, Bool.bne_false, Bool.true_bne, Bool.false_bne, Bool.true_beq, Bool.false_beq, bne_self_eq_false, beq_self_eq_true, Int.reduceLT, Int.reduceLE, Int.reduceEq, Int.reduceNe, fa_27_0, fa_27_1, ld_3, ld_22, ld_27, ld_67, st_3, st_27, st_67, al_3, al_27, al_67, bd_27_, bd_27_0_1, be_4, bn_4, ln_22, ln_35, ln_53, ix_22, ix_35, ix_53, slt_22, bs_22, bs_35, bs2_35, bs2_53, cv_3_51, cv_3_67, cv_5_3, cv_51_3, cv_51_64, cv_64_5, cv_66_5, hw3]
          exact hJ' _ _ ⟨(k3.trans g4.1).trans g5.1, _, rfl, .inl ⟨by omega, by omega⟩⟩
      · rintro x' w4 ⟨k4, n', rfl, hn4⟩ _
        simp only [pur_add, pur_sub, pur_mul, pur_eql, pur_neq, pur_lss, pur_leq, pur_gtr, pur_geq, pur_seql, pur_sneq, pur_max, pur_min, pur_nil, pur_pick_t, pur_pick_f, pur_not, pur_pure, pur_ext2_0, pur_ext2_1, pur_ext3_0, pur_ext3_1, pur_ext3_2, pur_ext4_0, pur_ext4_1, pur_ext4_2, pur_ext4_3, gd_hit, gd_tf, gd_ft, gd_undef, condS_true, condS_false, one_int, one_ptr, one_str, one_bool, one_map, one_slice, act_box, act_makeMap, agg_cells, Nat.zero_add, Nat.reduceAdd, decide_true, decide_false, Bool.not_true, Bool.not_false, not_true_eq_false, not_false_eq_true, ne_eq, Bool.bne_true, Bool.bne_false, Bool.true_bne, Bool.false_bne, Bool.true_beq, Bool.false_beq, bne_self_eq_false, beq_self_eq_true, Int.reduceLT, Int.reduceLE, Int.reduceEq, Int.reduceNe, fa_27_0, fa_27_1, ld_3, ld_22, ld_27, ld_67, st_3, st_27, st_67, al_3, al_27, al_67, bd_27_, bd_27_0_1, be_4, bn_4, ln_22, ln_35, ln_53, ix_22, ix_35, ix_53, slt_22, bs_22, bs_35, bs2_35, bs2_53, cv_3_51, cv_3_67, cv_5_3, cv_51_3, cv_51_64, cv_64_5, cv_66_5, hwi]
        exact hJ (N'.length - (i + 1)) _ _ _ (by omega) ⟨k4, i + 1, n', rfl, rfl, by omega, rfl, hn4⟩
    · have hcase : n = most + 1 ∧ most < sumS N' := by rcases hn3 with h3 | h3 <;> omega
      have fin' := fin (by constructor <;> intro <;> omega) (fun e => absurd e hnm)
      simp only [pur_add, pur_sub, pur_mul, pur_eql, pur_neq, pur_lss, pur_leq, pur_gtr, pur_geq, pur_seql, pur_sneq, pur_max, pur_min, pur_nil, pur_pick_t, pur_pick_f, pur_not, pur_pure, pur_ext2_0, pur_ext2_1, pur_ext3_0, pur_ext3_1, pur_ext3_2, pur_ext4_0, pur_ext4_1, pur_ext4_2, pur_ext4_3, gd_hit, gd_tf, gd_ft, gd_undef, condS_true, condS_false, one_int, one_ptr, one_str, one_bool, one_map, one_slice, act_box, act_makeMap, agg_cells, Nat.zero_add, Nat.reduceAdd, decide_true, decide_false, Bool.not_true, Bool.not_false, not_true_eq_false, not_false_eq_true, ne_eq, Bool.bne_true, Bool.bne_false, Bool.true_bne, Bool.false_bne, Bool.true_beq, Bool.false_beq, bne_self_eq_false, beq_self_eq_true, Int.reduceLT, Int.reduceLE, Int.reduceEq, Int.reduceNe, fa_27_0, fa_27_1, ld_3, ld_22, ld_27, ld_67, st_3, st_27, st_67, al_3, al_27, al_67, bd_27_, bd_27_0_1, be_4, bn_4, ln_22, ln_35, ln_53, ix_22, ix_35, ix_53, slt_22, bs_22, bs_35, bs2_35, bs2_53, cv_3_51, cv_3_67, cv_5_3, cv_51_3, cv_51_64, cv_64_5, cv_66_5, hlt', hnm] at fin' ⊢
      exact fin'
  · have hlt' : ¬ ((i : Int) < (N'.length : Int)) := by omega
    have hil : i = N'.length := by omega
    rw [hil, List.take_length] at hn3
    have fin' := fin (by constructor <;> intro <;> rcases hn3 with h3 | h3 <;> omega) (by intro _; rcases hn3 with h3 | h3 <;> omega)
    simp only [pur_add, pur_sub, pur_mul, pur_eql, pur_neq, pur_lss, pur_leq, pur_gtr, pur_geq, pur_seql, pur_sneq, pur_max, pur_min, pur_nil, pur_pick_t, pur_pick_f, pur_not, pur_pure, pur_ext2_0, pur_ext2_1, pur_ext3_0, pur_ext3_1, pur_ext3_2, pur_ext4_0, pur_ext4_1, pur_ext4_2, pur_ext4_3, gd_hit, gd_tf, gd_ft, gd_undef, condS_true, condS_false, one_int, one_ptr, one_str, one_bool, one_map, one_slice, act_box, act_makeMap, agg_cells, Nat.zero_add, Nat.reduceAdd, decide_true, decide_false, Bool.not_true, Bool.not_false, not_true_eq_false, not_false_eq_true, ne_eq, Bool.bne_true, Bool.bne_false, Bool.true_bne, Bool.false_bne, Bool.true_beq, Bool.false_beq, bne_self_eq_false, beq_self_eq_true, Int.reduceLT, Int.reduceLE, Int.reduceEq, Int.reduceNe, fa_27_0, fa_27_1, ld_3, ld_22, ld_27, ld_67, st_3, st_27, st_67, al_3, al_27, al_67, bd_27_, bd_27_0_1, be_4, bn_4, ln_22, ln_35, ln_53, ix_22, ix_35, ix_53, slt_22, bs_22, bs_35, bs2_35, bs2_53, cv_3_51, cv_3_67, cv_5_3, cv_51_3, cv_51_64, cv_64_5, cv_66_5, hlt'] at fin' ⊢
    exact fin'
end
end Go.Proofs.Ytalkoelpibiboaa
