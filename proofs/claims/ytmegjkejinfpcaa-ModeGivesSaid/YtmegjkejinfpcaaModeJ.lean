/- The document's norm of locks; a map held, and the document's. Conditions: as each says. -/
import Derived.Test.YtmegjkejinfpcaaModeI
set_option linter.unusedSimpArgs false
set_option linter.unusedVariables false
namespace Go.Proofs.Ytmegjkejinfpcaa
open Go.Sh Go.Proofs.Ytmegjkejinfpcaa.Mi
set_option maxRecDepth 100000
def Lay (md : Int) (L : List I3) (f g : Int → Option Int) : Prop := ∀ x, ((∃ k ∈ L, k.2.2 = md ∧ hasB (k.1, k.2.1) x) → g x = some md) ∧ ((¬ ∃ k ∈ L, k.2.2 = md ∧ hasB (k.1, k.2.1) x) → g x = f x)
theorem Lay.nil {md : Int} {f : Int → Option Int} : Lay md [] f f := fun x => ⟨fun h => (by obtain ⟨k, hk, _⟩ := h; cases hk), fun _ => rfl⟩
theorem Lay.skip {md : Int} {L : List I3} {f g : Int → Option Int} {k : I3} (h : Lay md L f g) (hk : k.2.2 ≠ md) : Lay md (L ++ [k]) f g := fun x => by
  have e : (∃ q ∈ L ++ [k], q.2.2 = md ∧ hasB (q.1, q.2.1) x) ↔ ∃ q ∈ L, q.2.2 = md ∧ hasB (q.1, q.2.1) x := by
    constructor
    · rintro ⟨q, hq, h1, h2⟩
      rcases List.mem_append.1 hq with hq | hq
      · exact ⟨q, hq, h1, h2⟩
      · simp only [List.mem_cons, List.not_mem_nil, or_false] at hq; subst hq; exact absurd h1 hk
    · rintro ⟨q, hq, h1⟩; exact ⟨q, List.mem_append_left _ hq, h1⟩
  rw [e]; exact h x
theorem Lay.put {md : Int} {L : List I3} {f g g' : Int → Option Int} {k : I3} (h : Lay md L f g) (hk : k.2.2 = md) (hg : ∀ x, g' x = if hasB (k.1, k.2.1) x then some md else g x) : Lay md (L ++ [k]) f g' := fun x => by
  refine ⟨fun ⟨q, hq, h1, h2⟩ => ?_, fun hn => ?_⟩
  · rw [hg]
    by_cases hx : hasB (k.1, k.2.1) x
    · rw [if_pos hx]
    · rw [if_neg hx]
      rcases List.mem_append.1 hq with hq | hq
      · exact (h x).1 ⟨q, hq, h1, h2⟩
      · simp only [List.mem_cons, List.not_mem_nil, or_false] at hq; subst hq; exact absurd h2 hx
  · rw [hg, if_neg fun hx => hn ⟨k, by simp, hk, hx⟩]
    exact (h x).2 fun ⟨q, hq, h1⟩ => hn ⟨q, List.mem_append_left _ hq, h1⟩
def SpN (L : List I3) : Nat → (Int → Option Int) → Prop
  | 0, g => ∀ x, g x = none
  | j + 1, g => ∃ f, SpN L j f ∧ Lay ((j + 1 : Nat) : Int) L f g
theorem SpN_ask {L : List I3} {g : Int → Option Int} (h : SpN L 2 g) (x : Int) : g x = askF L x := by
  obtain ⟨f1, ⟨f0, h0, l1⟩, l2⟩ := h
  refine askIs_unique (L := L) (L' := L) (x := x) (fun _ => Iff.rfl) ?_ (askF_is L x)
  by_cases h2 : ∃ k ∈ L, k.2.2 = ((2 : Nat) : Int) ∧ hasB (k.1, k.2.1) x
  · rw [(l2 x).1 h2]
    obtain ⟨k, hk, h3, h4⟩ := h2
    refine ⟨⟨k, hk, ⟨.inr h3, h4⟩, h3⟩, fun q hq hon => ?_⟩
    have := hon.1
    unfold isM at this
    show q.2.2 ≤ (2 : Int)
    rcases this with h5 | h5 <;> rw [h5] <;> decide
  · rw [(l2 x).2 h2]
    by_cases h1 : ∃ k ∈ L, k.2.2 = ((1 : Nat) : Int) ∧ hasB (k.1, k.2.1) x
    · rw [(l1 x).1 h1]
      obtain ⟨k, hk, h3, h4⟩ := h1
      refine ⟨⟨k, hk, ⟨.inl h3, h4⟩, h3⟩, fun q hq hon => ?_⟩
      have h5 := hon.1
      unfold isM at h5
      rcases h5 with h5 | h5
      · omega
      · exact absurd ⟨q, hq, h5, hon.2⟩ h2
    · rw [(l1 x).2 h1, h0]
      intro q hq hon
      have h5 := hon.1
      unfold isM at h5
      rcases h5 with h5 | h5
      · exact h1 ⟨q, hq, h5, hon.2⟩
      · exact h2 ⟨q, hq, h5, hon.2⟩
section
variable {w : World} {Q : Value → World → Prop} {l : List (Pt Int)} {v : Value} {m : Nat}
def ChgN (l : List (Pt Int)) (n : Nat) : Prop := ∃ E, Chg (valB l) E ∧ E.length ≤ n
theorem ChgN.nil : ChgN [] 0 := ⟨[], fun x hx => absurd rfl hx, Nat.le_refl _⟩
theorem ChgN.len {n : Nat} (h : ChgN l n) (hc : Canon l) : l.length ≤ n := by
  obtain ⟨E, h1, h2⟩ := h
  exact Nat.le_trans (chg_len hc h1) h2
theorem ChgN.put {n : Nat} {s : Sp} {u : Int} {l' : List (Pt Int)} (h : ChgN l n) (hv : ∀ x, valB l' x = if hasB s x then some u else valB l x) : ChgN l' (n + 2) := by
  obtain ⟨E, h1, h2⟩ := h
  exact ⟨_, chg_upd (s := s) (g := fun _ => some u) h1 hv, by simp; omega⟩
theorem rnorm_c {L : List I3} (h : Rd 3 w v L.length (flat enc3 L)) (hL : L.length ≤ 100)
    (hq : ∀ w' v' l', RM w' (siz w) v' l' → Canon l' → (∀ x, valB l' x = askF L x) → l'.length ≤ 1000 → Keep (fun _ => False) w w' → Q v' w') :
    callS Try.prog 24 #[v] Q w := by
  refine ref24 ?_
  unfold S24
  obtain ⟨pa, ca, rfl⟩ := h.form
  refine lp2 (fun mm x y w' => Keep (fun _ => False) w w' ∧ ∃ (j : Nat) (lj : List (Pt Int)), y = .int .i64 ((j + 1 : Nat) : Int) ∧ j ≤ 2 ∧ mm = 2 - j ∧ RM w' (siz w) x lj ∧ Canon lj ∧ SpN L j (valB lj) ∧ ChgN lj (2 * (j * L.length))) 2
    ⟨Keep.refl _ _, 0, [], rfl, by omega, rfl, Own.nil _ _ _ _, Canon.nil, fun x => rfl, by simpa using ChgN.nil⟩ ?_
  rintro mm x y w1 ⟨k1, j, lj, rfl, hj, rfl, o1, hc1, hsp1, hch1⟩ J hJ _
  have s1 := k1.size
  have hwj := wrap_succ (i := j + 1) (by omega)
  have hjL : j * L.length ≤ 2 * L.length := Nat.mul_le_mul_right _ hj
  by_cases hjt : j < 2
  · have hjt' : ((j + 1 : Nat) : Int) ≤ 2 := by omega
    simp only [pur_add, pur_sub, pur_mul, pur_eql, pur_neq, pur_lss, pur_leq, pur_gtr, pur_geq, pur_seql, pur_sneq, pur_max, pur_min, pur_nil, pur_pick_t, pur_pick_f, pur_not, pur_pure, pur_ext2_0, pur_ext2_1, pur_ext3_0, pur_ext3_1, pur_ext3_2, pur_ext4_0, pur_ext4_1, pur_ext4_2, pur_ext4_3, gd_hit, gd_tf, gd_ft, gd_undef, condS_true, condS_false, one_int, one_ptr, one_str, one_bool, one_map, one_slice, act_box, act_makeMap, agg_cells, Nat.zero_add, Nat.reduceAdd, decide_true, decide_false, Bool.not_true, Bool.not_false, not_true_eq_false, not_false_eq_true, ne_eq, Bool.bne_true, Bool.bne_false, Bool.true_bne, Bool.false_bne, Bool.true_beq, Bool.false_beq, bne_self_eq_false, beq_self_eq_true, Int.reduceLT, Int.reduceLE, Int.reduceEq, Int.reduceNe, fa_25_0, fa_25_1, fa_27_0, fa_27_1, fa_54_0, fa_54_1, fa_60_0, fa_60_1, fa_68_0, ld_3, ld_9, ld_25, ld_27, ld_54, ld_57, ld_60, ld_95, st_3, st_25, st_27, st_54, st_57, st_60, st_95, al_3, al_25, al_27, al_54, al_60, al_95, bd_25_, bd_25_0_1, bd_25_1, bd_27_0_1, bd_54_0_1, bd_60_0_1, bd_68_, be_4, pe0_43, pe1_43, pe2_43, bn_4, ln_9, ln_22, ln_45, ln_57, ln_71, ln_103, ix_22, ix_31, ix_45, ix_57, ix_71, ix_103, slt_45, slt_71, bs_22, bs_45, bs_57, bs_71, bs2_103, cv_3_76, cv_3_95, cv_5_3, cv_76_3, cv_76_87, cv_87_5, cv_89_5, hjt']
    refine lp2 (fun mm x y w' => Keep (fun _ => False) w w' ∧ ∃ (i : Nat) (li : List (Pt Int)), y = .int .i64 (i : Int) ∧ i ≤ L.length ∧ mm = L.length - i ∧ RM w' (siz w) x li ∧ Canon li ∧ Lay ((j + 1 : Nat) : Int) (L.take i) (valB lj) (valB li) ∧ ChgN li (2 * (j * L.length) + 2 * i)) L.length
      ⟨k1, 0, lj, rfl, Nat.zero_le _, by omega, o1, hc1, Lay.nil, hch1⟩ ?_
    rintro mm x y w2 ⟨k2, i, li, rfl, hi, rfl, o2, hc2, hlay, hch2⟩ J' hJ' _
    have s2 := k2.size
    have hwi := wrap_succ (i := i) (by omega)
    have hlen2 := hch2.len hc2
    by_cases hlt : i < L.length
    · have hlt' : ((i : Int) < (L.length : Int)) := by omega
      have hsi : L[i]? = some L[i] := List.getElem?_eq_getElem hlt
      have hT : L.take (i + 1) = L.take i ++ [L[i]] := by rw [List.take_add_one, hsi]; rfl
      obtain ⟨g, o, c', e, _, hcel⟩ := (h.keep0 k2).at (by omega)
      injection e with e1 _ e2
      subst e1 e2
      obtain ⟨c0, c1, c2⟩ := locks_at hcel hsi
      simp only [pur_add, pur_sub, pur_mul, pur_eql, pur_neq, pur_lss, pur_leq, pur_gtr, pur_geq, pur_seql, pur_sneq, pur_max, pur_min, pur_nil, pur_pick_t, pur_pick_f, pur_not, pur_pure, pur_ext2_0, pur_ext2_1, pur_ext3_0, pur_ext3_1, pur_ext3_2, pur_ext4_0, pur_ext4_1, pur_ext4_2, pur_ext4_3, gd_hit, gd_tf, gd_ft, gd_undef, condS_true, condS_false, one_int, one_ptr, one_str, one_bool, one_map, one_slice, act_box, act_makeMap, agg_cells, Nat.zero_add, Nat.reduceAdd, decide_true, decide_false, Bool.not_true, Bool.not_false, not_true_eq_false, not_false_eq_true, ne_eq, Bool.bne_true, Bool.bne_false, Bool.true_bne, Bool.false_bne, Bool.true_beq, Bool.false_beq, bne_self_eq_false, beq_self_eq_true, Int.reduceLT, Int.reduceLE, Int.reduceEq, Int.reduceNe, fa_25_0, fa_25_1, fa_27_0, fa_27_1, fa_54_0, fa_54_1, fa_60_0, fa_60_1, fa_68_0, ld_3, ld_9, ld_25, ld_27, ld_54, ld_57, ld_60, ld_95, st_3, st_25, st_27, st_54, st_57, st_60, st_95, al_3, al_25, al_27, al_54, al_60, al_95, bd_25_, bd_25_0_1, bd_25_1, bd_27_0_1, bd_54_0_1, bd_60_0_1, bd_68_, be_4, pe0_43, pe1_43, pe2_43, bn_4, ln_9, ln_22, ln_45, ln_57, ln_71, ln_103, ix_22, ix_31, ix_45, ix_57, ix_71, ix_103, slt_45, slt_71, bs_22, bs_45, bs_57, bs_71, bs2_103, cv_3_76, cv_3_95, cv_5_3, cv_76_3, cv_76_87, cv_87_5, cv_89_5, hlt']
      refine jn1 (fun x' w' => Keep (fun _ => False) w w' ∧ ∃ li' : List (Pt Int), RM w' (siz w) x' li' ∧ Canon li' ∧ Lay ((j + 1 : Nat) : Int) (L.take (i + 1)) (valB lj) (valB li') ∧ ChgN li' (2 * (j * L.length) + 2 * (i + 1))) (fun J2 hJ2 => ?_) ?_
      · rw [ix_22 hlt]
        by_cases hmd : L[i].2.2 = ((j + 1 : Nat) : Int)
        · simp only [pur_add, pur_sub, pur_mul, pur_eql, pur_neq, pur_lss, pur_leq, pur_gtr, pur_geq, pur_seql, pur_sneq, pur_max, pur_min, pur_nil, pur_pick_t, pur_pick_f, pur_not, pur_pure, pur_ext2_0, pur_ext2_1, pur_ext3_0, pur_ext3_1, pur_ext3_2, pur_ext4_0, pur_ext4_1, pur_ext4_2, pur_ext4_3, gd_hit, gd_tf, gd_ft, gd_undef, condS_true, condS_false, one_int, one_ptr, one_str, one_bool, one_map, one_slice, act_box, act_makeMap, agg_cells, Nat.zero_add, Nat.reduceAdd, decide_true, decide_false, Bool.not_true, Bool.not_false, not_true_eq_false, not_false_eq_true, ne_eq, Bool.bne_true, Bool.bne_false, Bool.true_bne, Bool.false_bne, Bool.true_beq, Bool.false_beq, bne_self_eq_false, beq_self_eq_true, Int.reduceLT, Int.reduceLE, Int.reduceEq, Int.reduceNe, fa_25_0, fa_25_1, fa_27_0, fa_27_1, fa_54_0, fa_54_1, fa_60_0, fa_60_1, fa_68_0, ld_3, ld_9, ld_25, ld_27, ld_54, ld_57, ld_60, ld_95, st_3, st_25, st_27, st_54, st_57, st_60, st_95, al_3, al_25, al_27, al_54, al_60, al_95, bd_25_, bd_25_0_1, bd_25_1, bd_27_0_1, bd_54_0_1, bd_60_0_1, bd_68_, be_4, pe0_43, pe1_43, pe2_43, bn_4, ln_9, ln_22, ln_45, ln_57, ln_71, ln_103, ix_22, ix_31, ix_45, ix_57, ix_71, ix_103, slt_45, slt_71, bs_22, bs_45, bs_57, bs_71, bs2_103, cv_3_76, cv_3_95, cv_5_3, cv_76_3, cv_76_87, cv_87_5, cv_89_5, callF_plain, nw1, nw2, nw3, nw4, nw5, nw6, nw7, nw8, nw9, nw10, nw11, nw12, resL_ptr, cel_alloc_new, cel_alloc_old, siz_lt1, siz_lt2, siz_lt3, siz_lt4, fre_alloc_new, fre_alloc_old, cel_drew, fre_drew, siz_drew, List.getElem?_toArray, List.getElem?_cons_zero, List.getElem?_cons_succ, Option.isSome_some, Option.getD_some, Option.isNone_none, Option.isNone_some, Option.isSome_none, se_27, sq_57, sq_71, sn_25, sn_27, bz_22_1, bz_22_2, bz_31_3, bz_45_1, bz_57_0, bz_57_1, bz_71_0, bz_71_1, bz_71_2, bz_103_2, slt0_45, slf0_45, slt0_71, slf0_71, stn_3, stn_25, stn_27, stn_54, stn_60, stn_95, c2, hmd]
          rw [ix_22 hlt]
          simp only [pur_add, pur_sub, pur_mul, pur_eql, pur_neq, pur_lss, pur_leq, pur_gtr, pur_geq, pur_seql, pur_sneq, pur_max, pur_min, pur_nil, pur_pick_t, pur_pick_f, pur_not, pur_pure, pur_ext2_0, pur_ext2_1, pur_ext3_0, pur_ext3_1, pur_ext3_2, pur_ext4_0, pur_ext4_1, pur_ext4_2, pur_ext4_3, gd_hit, gd_tf, gd_ft, gd_undef, condS_true, condS_false, one_int, one_ptr, one_str, one_bool, one_map, one_slice, act_box, act_makeMap, agg_cells, Nat.zero_add, Nat.reduceAdd, decide_true, decide_false, Bool.not_true, Bool.not_false, not_true_eq_false, not_false_eq_true, ne_eq, Bool.bne_true, Bool.bne_false, Bool.true_bne, Bool.false_bne, Bool.true_beq, Bool.false_beq, bne_self_eq_false, beq_self_eq_true, Int.reduceLT, Int.reduceLE, Int.reduceEq, Int.reduceNe, fa_25_0, fa_25_1, fa_27_0, fa_27_1, fa_54_0, fa_54_1, fa_60_0, fa_60_1, fa_68_0, ld_3, ld_9, ld_25, ld_27, ld_54, ld_57, ld_60, ld_95, st_3, st_25, st_27, st_54, st_57, st_60, st_95, al_3, al_25, al_27, al_54, al_60, al_95, bd_25_, bd_25_0_1, bd_25_1, bd_27_0_1, bd_54_0_1, bd_60_0_1, bd_68_, be_4, pe0_43, pe1_43, pe2_43, bn_4, ln_9, ln_22, ln_45, ln_57, ln_71, ln_103, ix_22, ix_31, ix_45, ix_57, ix_71, ix_103, slt_45, slt_71, bs_22, bs_45, bs_57, bs_71, bs2_103, cv_3_76, cv_3_95, cv_5_3, cv_76_3, cv_76_87, cv_87_5, cv_89_5, callF_plain, nw1, nw2, nw3, nw4, nw5, nw6, nw7, nw8, nw9, nw10, nw11, nw12, resL_ptr, cel_alloc_new, cel_alloc_old, siz_lt1, siz_lt2, siz_lt3, siz_lt4, fre_alloc_new, fre_alloc_old, cel_drew, fre_drew, siz_drew, List.getElem?_toArray, List.getElem?_cons_zero, List.getElem?_cons_succ, Option.isSome_some, Option.getD_some, Option.isNone_none, Option.isNone_some, Option.isSome_none, se_27, sq_57, sq_71, sn_25, sn_27, bz_22_1, bz_22_2, bz_31_3, bz_45_1, bz_57_0, bz_57_1, bz_71_0, bz_71_1, bz_71_2, bz_103_2, slt0_45, slf0_45, slt0_71, slf0_71, stn_3, stn_25, stn_27, stn_54, stn_60, stn_95, c0, c1]
          refine rset_c o2 s2 hc2 (by omega) fun w3 v3 l3 o3 hc3 hv3 k3 => ?_
          refine hJ2 _ _ ⟨k2.trans k3, l3, o3, hc3, ?_, ?_⟩
          · rw [hT]; exact hlay.put hmd hv3
          · exact hch2.put hv3
        · simp only [pur_add, pur_sub, pur_mul, pur_eql, pur_neq, pur_lss, pur_leq, pur_gtr, pur_geq, pur_seql, pur_sneq, pur_max, pur_min, pur_nil, pur_pick_t, pur_pick_f, pur_not, pur_pure, pur_ext2_0, pur_ext2_1, pur_ext3_0, pur_ext3_1, pur_ext3_2, pur_ext4_0, pur_ext4_1, pur_ext4_2, pur_ext4_3, gd_hit, gd_tf, gd_ft, gd_undef, condS_true, condS_false, one_int, one_ptr, one_str, one_bool, one_map, one_slice, act_box, act_makeMap, agg_cells, Nat.zero_add, Nat.reduceAdd, decide_true, decide_false, Bool.not_true, Bool.not_false, not_true_eq_false, not_false_eq_true, ne_eq, Bool.bne_true, Bool.bne_false, Bool.true_bne, Bool.false_bne, Bool.true_beq, Bool.false_beq, bne_self_eq_false, beq_self_eq_true, Int.reduceLT, Int.reduceLE, Int.reduceEq, Int.reduceNe, fa_25_0, fa_25_1, fa_27_0, fa_27_1, fa_54_0, fa_54_1, fa_60_0, fa_60_1, fa_68_0, ld_3, ld_9, ld_25, ld_27, ld_54, ld_57, ld_60, ld_95, st_3, st_25, st_27, st_54, st_57, st_60, st_95, al_3, al_25, al_27, al_54, al_60, al_95, bd_25_, bd_25_0_1, bd_25_1, bd_27_0_1, bd_54_0_1, bd_60_0_1, bd_68_, be_4, pe0_43, pe1_43, pe2_43, bn_4, ln_9, ln_22, ln_45, ln_57, ln_71, ln_103, ix_22, ix_31, ix_45, ix_57, ix_71, ix_103, slt_45, slt_71, bs_22, bs_45, bs_57, bs_71, bs2_103, cv_3_76, cv_3_95, cv_5_3, cv_76_3, cv_76_87, cv_87_5, cv_89_5, callF_plain, nw1, nw2, nw3, nw4, nw5, nw6, nw7, nw8, nw9, nw10, nw11, nw12, resL_ptr, cel_alloc_new, cel_alloc_old, siz_lt1, siz_lt2, siz_lt3, siz_lt4, fre_alloc_new, fre_alloc_old, cel_drew, fre_drew, siz_drew, List.getElem?_toArray, List.getElem?_cons_zero, List.getElem?_cons_succ, Option.isSome_some, Option.getD_some, Option.isNone_none, Option.isNone_some, Option.isSome_none, se_27, sq_57, sq_71, sn_25, sn_27, bz_22_1, bz_22_2, bz_31_3, bz_45_1, bz_57_0, bz_57_1, bz_71_0, bz_71_1, bz_71_2, bz_103_2, slt0_45, slf0_45, slt0_71, slf0_71, stn_3, stn_25, stn_27, stn_54, stn_60, stn_95, c2, hmd]
          refine hJ2 _ _ ⟨k2, li, o2, hc2, ?_, ?_⟩
          · rw [hT]; exact hlay.skip hmd
          · obtain ⟨E, h1, h2⟩ := hch2; exact ⟨E, h1, by omega⟩
      · rintro x' w3 ⟨k3, l3, o3, hc3, hlay3, hch3⟩ _
        simp only [pur_add, pur_sub, pur_mul, pur_eql, pur_neq, pur_lss, pur_leq, pur_gtr, pur_geq, pur_seql, pur_sneq, pur_max, pur_min, pur_nil, pur_pick_t, pur_pick_f, pur_not, pur_pure, pur_ext2_0, pur_ext2_1, pur_ext3_0, pur_ext3_1, pur_ext3_2, pur_ext4_0, pur_ext4_1, pur_ext4_2, pur_ext4_3, gd_hit, gd_tf, gd_ft, gd_undef, condS_true, condS_false, one_int, one_ptr, one_str, one_bool, one_map, one_slice, act_box, act_makeMap, agg_cells, Nat.zero_add, Nat.reduceAdd, decide_true, decide_false, Bool.not_true, Bool.not_false, not_true_eq_false, not_false_eq_true, ne_eq, Bool.bne_true, Bool.bne_false, Bool.true_bne, Bool.false_bne, Bool.true_beq, Bool.false_beq, bne_self_eq_false, beq_self_eq_true, Int.reduceLT, Int.reduceLE, Int.reduceEq, Int.reduceNe, fa_25_0, fa_25_1, fa_27_0, fa_27_1, fa_54_0, fa_54_1, fa_60_0, fa_60_1, fa_68_0, ld_3, ld_9, ld_25, ld_27, ld_54, ld_57, ld_60, ld_95, st_3, st_25, st_27, st_54, st_57, st_60, st_95, al_3, al_25, al_27, al_54, al_60, al_95, bd_25_, bd_25_0_1, bd_25_1, bd_27_0_1, bd_54_0_1, bd_60_0_1, bd_68_, be_4, pe0_43, pe1_43, pe2_43, bn_4, ln_9, ln_22, ln_45, ln_57, ln_71, ln_103, ix_22, ix_31, ix_45, ix_57, ix_71, ix_103, slt_45, slt_71, bs_22, bs_45, bs_57, bs_71, bs2_103, cv_3_76, cv_3_95, cv_5_3, cv_76_3, cv_76_87, cv_87_5, cv_89_5, hwi]
        exact hJ' (L.length - (i + 1)) _ _ _ (by omega) ⟨k3, i + 1, l3, rfl, by omega, rfl, o3, hc3, hlay3, hch3⟩
    · have hlt' : ¬ ((i : Int) < (L.length : Int)) := by omega
      have hil : i = L.length := by omega
      rw [hil, List.take_length] at hlay
      subst hil
      simp only [pur_add, pur_sub, pur_mul, pur_eql, pur_neq, pur_lss, pur_leq, pur_gtr, pur_geq, pur_seql, pur_sneq, pur_max, pur_min, pur_nil, pur_pick_t, pur_pick_f, pur_not, pur_pure, pur_ext2_0, pur_ext2_1, pur_ext3_0, pur_ext3_1, pur_ext3_2, pur_ext4_0, pur_ext4_1, pur_ext4_2, pur_ext4_3, gd_hit, gd_tf, gd_ft, gd_undef, condS_true, condS_false, one_int, one_ptr, one_str, one_bool, one_map, one_slice, act_box, act_makeMap, agg_cells, Nat.zero_add, Nat.reduceAdd, decide_true, decide_false, Bool.not_true, Bool.not_false, not_true_eq_false, not_false_eq_true, ne_eq, Bool.bne_true, Bool.bne_false, Bool.true_bne, Bool.false_bne, Bool.true_beq, Bool.false_beq, bne_self_eq_false, beq_self_eq_true, Int.reduceLT, Int.reduceLE, Int.reduceEq, Int.reduceNe, fa_25_0, fa_25_1, fa_27_0, fa_27_1, fa_54_0, fa_54_1, fa_60_0, fa_60_1, fa_68_0, ld_3, ld_9, ld_25, ld_27, ld_54, ld_57, ld_60, ld_95, st_3, st_25, st_27, st_54, st_57, st_60, st_95, al_3, al_25, al_27, al_54, al_60, al_95, bd_25_, bd_25_0_1, bd_25_1, bd_27_0_1, bd_54_0_1, bd_60_0_1, bd_68_, be_4, pe0_43, pe1_43, pe2_43, bn_4, ln_9, ln_22, ln_45, ln_57, ln_71, ln_103, ix_22, ix_31, ix_45, ix_57, ix_71, ix_103, slt_45, slt_71, bs_22, bs_45, bs_57, bs_71, bs2_103, cv_3_76, cv_3_95, cv_5_3, cv_76_3, cv_76_87, cv_87_5, cv_89_5, hlt', hwj]
      refine hJ (2 - (j + 1)) _ _ _ (by omega) ⟨k2, j + 1, li, rfl, by omega, rfl, o2, hc2, ⟨_, hsp1, hlay⟩, ?_⟩
      have e : 2 * ((j + 1) * L.length) = 2 * (j * L.length) + 2 * L.length := by rw [Nat.succ_mul j L.length, Nat.mul_add]
      rw [e]; exact hch2
  · have hjt' : ¬ ((j + 1 : Nat) : Int) ≤ 2 := by omega
    have hj2 : j = 2 := by omega
    subst hj2
    simp only [pur_add, pur_sub, pur_mul, pur_eql, pur_neq, pur_lss, pur_leq, pur_gtr, pur_geq, pur_seql, pur_sneq, pur_max, pur_min, pur_nil, pur_pick_t, pur_pick_f, pur_not, pur_pure, pur_ext2_0, pur_ext2_1, pur_ext3_0, pur_ext3_1, pur_ext3_2, pur_ext4_0, pur_ext4_1, pur_ext4_2, pur_ext4_3, gd_hit, gd_tf, gd_ft, gd_undef, condS_true, condS_false, one_int, one_ptr, one_str, one_bool, one_map, one_slice, act_box, act_makeMap, agg_cells, Nat.zero_add, Nat.reduceAdd, decide_true, decide_false, Bool.not_true, Bool.not_false, not_true_eq_false, not_false_eq_true, ne_eq, Bool.bne_true, Bool.bne_false, Bool.true_bne, Bool.false_bne, Bool.true_beq, Bool.false_beq, bne_self_eq_false, beq_self_eq_true, Int.reduceLT, Int.reduceLE, Int.reduceEq, Int.reduceNe, fa_25_0, fa_25_1, fa_27_0, fa_27_1, fa_54_0, fa_54_1, fa_60_0, fa_60_1, fa_68_0, ld_3, ld_9, ld_25, ld_27, ld_54, ld_57, ld_60, ld_95, st_3, st_25, st_27, st_54, st_57, st_60, st_95, al_3, al_25, al_27, al_54, al_60, al_95, bd_25_, bd_25_0_1, bd_25_1, bd_27_0_1, bd_54_0_1, bd_60_0_1, bd_68_, be_4, pe0_43, pe1_43, pe2_43, bn_4, ln_9, ln_22, ln_45, ln_57, ln_71, ln_103, ix_22, ix_31, ix_45, ix_57, ix_71, ix_103, slt_45, slt_71, bs_22, bs_45, bs_57, bs_71, bs2_103, cv_3_76, cv_3_95, cv_5_3, cv_76_3, cv_76_87, cv_87_5, cv_89_5, hjt']
    exact hq _ _ lj o1 hc1 (SpN_ask hsp1) (by have := hch1.len hc1; omega) k1
theorem mset_any {a b u : Int} (hm : IM w m l) (hl : l.length ≤ 300000)
    (hq : ∀ w' l' r, IM w' m l' → (∀ x, valB l' x = if hasB (a, b) x then some u else valB l x) → l'.length ≤ l.length + 2 → Keep (fun b => b = m) w w' → Q (.bool r) w') :
    callS Try.prog 22 #[.pointer (some ⟨m, 0, none⟩), .agg #[.int .i64 a, .int .i64 b], .int .i64 u] Q w := by
  by_cases h0 : ok (a, b)
  · exact set_ok hm h0 hl fun w' l' h1 h2 h3 h4 => hq w' l' _ h1 h2 h3 h4
  · exact set_no (v := u) h0 fun w' k => hq w' l _ (hm.keep0 k) (fun x => by rw [if_neg (fun h => h0 h.1)]) (by omega) k.none
theorem held_c {L : List I3} (h : Rd 3 w v L.length (flat enc3 L)) (hL : L.length ≤ 100)
    (hq : ∀ w' lm vr, IM w' (siz w) lm → ChgN lm (2 * L.length) → Keep (fun b => siz w ≤ b) w w' → Q (.tuple #[.pointer (some ⟨siz w, 0, none⟩), vr]) w') :
    callS Try.prog 21 #[v] Q w := by
  refine ref21 ?_
  unfold S21
  obtain ⟨pa, ca, rfl⟩ := h.form
  refine new_c fun w1 m1 k1 => ?_
  generalize hm : siz w = m at m1
  have s01 := k1.size
  have hm1 := m1.lt
  simp only [pur_add, pur_sub, pur_mul, pur_eql, pur_neq, pur_lss, pur_leq, pur_gtr, pur_geq, pur_seql, pur_sneq, pur_max, pur_min, pur_nil, pur_pick_t, pur_pick_f, pur_not, pur_pure, pur_ext2_0, pur_ext2_1, pur_ext3_0, pur_ext3_1, pur_ext3_2, pur_ext4_0, pur_ext4_1, pur_ext4_2, pur_ext4_3, gd_hit, gd_tf, gd_ft, gd_undef, condS_true, condS_false, one_int, one_ptr, one_str, one_bool, one_map, one_slice, act_box, act_makeMap, agg_cells, Nat.zero_add, Nat.reduceAdd, decide_true, decide_false, Bool.not_true, Bool.not_false, not_true_eq_false, not_false_eq_true, ne_eq, Bool.bne_true, Bool.bne_false, Bool.true_bne, Bool.false_bne, Bool.true_beq, Bool.false_beq, bne_self_eq_false, beq_self_eq_true, Int.reduceLT, Int.reduceLE, Int.reduceEq, Int.reduceNe, fa_25_0, fa_25_1, fa_27_0, fa_27_1, fa_54_0, fa_54_1, fa_60_0, fa_60_1, fa_68_0, ld_3, ld_9, ld_25, ld_27, ld_54, ld_57, ld_60, ld_95, st_3, st_25, st_27, st_54, st_57, st_60, st_95, al_3, al_25, al_27, al_54, al_60, al_95, bd_25_, bd_25_0_1, bd_25_1, bd_27_0_1, bd_54_0_1, bd_60_0_1, bd_68_, be_4, pe0_43, pe1_43, pe2_43, bn_4, ln_9, ln_22, ln_45, ln_57, ln_71, ln_103, ix_22, ix_31, ix_45, ix_57, ix_71, ix_103, slt_45, slt_71, bs_22, bs_45, bs_57, bs_71, bs2_103, cv_3_76, cv_3_95, cv_5_3, cv_76_3, cv_76_87, cv_87_5, cv_89_5]
  refine lp2 (fun mm x y w' => Keep (fun b => b = m) w1 w' ∧ ∃ (i : Nat) (lm lr : List (Pt Int)), y = .int .i64 (i : Int) ∧ i ≤ L.length ∧ mm = L.length - i ∧ IM w' m lm ∧ ChgN lm (2 * i) ∧ RM w' (siz w1) x lr ∧ Canon lr ∧ ChgN lr (2 * i)) L.length
    ⟨Keep.refl _ _, 0, [], [], rfl, Nat.zero_le _, by omega, m1, by simpa using ChgN.nil, Own.nil _ _ _ _, Canon.nil, by simpa using ChgN.nil⟩ ?_
  rintro mm x y w2 ⟨k2, i, lm, lr, rfl, hi, rfl, m2, hcm, o2, hcr, hchr⟩ J hJ _
  have hwi := wrap_succ (i := i) (by omega)
  have kB : ∀ {w' : World}, Keep (fun b => b = m) w1 w' → Keep (fun b => siz w ≤ b) w w' := fun {w'} k => k1.none.trans' k fun b _ e => by subst e; omega
  by_cases hlt : i < L.length
  · have hlt' : ((i : Int) < (L.length : Int)) := by omega
    have hsi : L[i]? = some L[i] := List.getElem?_eq_getElem hlt
    obtain ⟨g, o, c', e, _, hcel⟩ := (rd_keep h (kB k2)).at (by omega)
    injection e with e1 _ e2
    subst e1 e2
    obtain ⟨c0, c1, c2⟩ := locks_at hcel hsi
    simp only [pur_add, pur_sub, pur_mul, pur_eql, pur_neq, pur_lss, pur_leq, pur_gtr, pur_geq, pur_seql, pur_sneq, pur_max, pur_min, pur_nil, pur_pick_t, pur_pick_f, pur_not, pur_pure, pur_ext2_0, pur_ext2_1, pur_ext3_0, pur_ext3_1, pur_ext3_2, pur_ext4_0, pur_ext4_1, pur_ext4_2, pur_ext4_3, gd_hit, gd_tf, gd_ft, gd_undef, condS_true, condS_false, one_int, one_ptr, one_str, one_bool, one_map, one_slice, act_box, act_makeMap, agg_cells, Nat.zero_add, Nat.reduceAdd, decide_true, decide_false, Bool.not_true, Bool.not_false, not_true_eq_false, not_false_eq_true, ne_eq, Bool.bne_true, Bool.bne_false, Bool.true_bne, Bool.false_bne, Bool.true_beq, Bool.false_beq, bne_self_eq_false, beq_self_eq_true, Int.reduceLT, Int.reduceLE, Int.reduceEq, Int.reduceNe, fa_25_0, fa_25_1, fa_27_0, fa_27_1, fa_54_0, fa_54_1, fa_60_0, fa_60_1, fa_68_0, ld_3, ld_9, ld_25, ld_27, ld_54, ld_57, ld_60, ld_95, st_3, st_25, st_27, st_54, st_57, st_60, st_95, al_3, al_25, al_27, al_54, al_60, al_95, bd_25_, bd_25_0_1, bd_25_1, bd_27_0_1, bd_54_0_1, bd_60_0_1, bd_68_, be_4, pe0_43, pe1_43, pe2_43, bn_4, ln_9, ln_22, ln_45, ln_57, ln_71, ln_103, ix_22, ix_31, ix_45, ix_57, ix_71, ix_103, slt_45, slt_71, bs_22, bs_45, bs_57, bs_71, bs2_103, cv_3_76, cv_3_95, cv_5_3, cv_76_3, cv_76_87, cv_87_5, cv_89_5, hlt']
    refine jn1 (fun x' w' => Keep (fun b => b = m) w1 w' ∧ ∃ (lm' lr' : List (Pt Int)), IM w' m lm' ∧ ChgN lm' (2 * (i + 1)) ∧ RM w' (siz w1) x' lr' ∧ Canon lr' ∧ ChgN lr' (2 * (i + 1))) (fun J2 hJ2 => ?_) ?_
    · rw [ix_22 hlt]
      simp only [pur_add, pur_sub, pur_mul, pur_eql, pur_neq, pur_lss, pur_leq, pur_gtr, pur_geq, pur_seql, pur_sneq, pur_max, pur_min, pur_nil, pur_pick_t, pur_pick_f, pur_not, pur_pure, pur_ext2_0, pur_ext2_1, pur_ext3_0, pur_ext3_1, pur_ext3_2, pur_ext4_0, pur_ext4_1, pur_ext4_2, pur_ext4_3, gd_hit, gd_tf, gd_ft, gd_undef, condS_true, condS_false, one_int, one_ptr, one_str, one_bool, one_map, one_slice, act_box, act_makeMap, agg_cells, Nat.zero_add, Nat.reduceAdd, decide_true, decide_false, Bool.not_true, Bool.not_false, not_true_eq_false, not_false_eq_true, ne_eq, Bool.bne_true, Bool.bne_false, Bool.true_bne, Bool.false_bne, Bool.true_beq, Bool.false_beq, bne_self_eq_false, beq_self_eq_true, Int.reduceLT, Int.reduceLE, Int.reduceEq, Int.reduceNe, fa_25_0, fa_25_1, fa_27_0, fa_27_1, fa_54_0, fa_54_1, fa_60_0, fa_60_1, fa_68_0, ld_3, ld_9, ld_25, ld_27, ld_54, ld_57, ld_60, ld_95, st_3, st_25, st_27, st_54, st_57, st_60, st_95, al_3, al_25, al_27, al_54, al_60, al_95, bd_25_, bd_25_0_1, bd_25_1, bd_27_0_1, bd_54_0_1, bd_60_0_1, bd_68_, be_4, pe0_43, pe1_43, pe2_43, bn_4, ln_9, ln_22, ln_45, ln_57, ln_71, ln_103, ix_22, ix_31, ix_45, ix_57, ix_71, ix_103, slt_45, slt_71, bs_22, bs_45, bs_57, bs_71, bs2_103, cv_3_76, cv_3_95, cv_5_3, cv_76_3, cv_76_87, cv_87_5, cv_89_5, callF_plain, nw1, nw2, nw3, nw4, nw5, nw6, nw7, nw8, nw9, nw10, nw11, nw12, resL_ptr, cel_alloc_new, cel_alloc_old, siz_lt1, siz_lt2, siz_lt3, siz_lt4, fre_alloc_new, fre_alloc_old, cel_drew, fre_drew, siz_drew, List.getElem?_toArray, List.getElem?_cons_zero, List.getElem?_cons_succ, Option.isSome_some, Option.getD_some, Option.isNone_none, Option.isNone_some, Option.isSome_none, se_27, sq_57, sq_71, sn_25, sn_27, bz_22_1, bz_22_2, bz_31_3, bz_45_1, bz_57_0, bz_57_1, bz_71_0, bz_71_1, bz_71_2, bz_103_2, slt0_45, slf0_45, slt0_71, slf0_71, stn_3, stn_25, stn_27, stn_54, stn_60, stn_95, c2]
      refine rmode_c ?_
      by_cases hmd : isMd L[i].2.2
      · simp only [pur_add, pur_sub, pur_mul, pur_eql, pur_neq, pur_lss, pur_leq, pur_gtr, pur_geq, pur_seql, pur_sneq, pur_max, pur_min, pur_nil, pur_pick_t, pur_pick_f, pur_not, pur_pure, pur_ext2_0, pur_ext2_1, pur_ext3_0, pur_ext3_1, pur_ext3_2, pur_ext4_0, pur_ext4_1, pur_ext4_2, pur_ext4_3, gd_hit, gd_tf, gd_ft, gd_undef, condS_true, condS_false, one_int, one_ptr, one_str, one_bool, one_map, one_slice, act_box, act_makeMap, agg_cells, Nat.zero_add, Nat.reduceAdd, decide_true, decide_false, Bool.not_true, Bool.not_false, not_true_eq_false, not_false_eq_true, ne_eq, Bool.bne_true, Bool.bne_false, Bool.true_bne, Bool.false_bne, Bool.true_beq, Bool.false_beq, bne_self_eq_false, beq_self_eq_true, Int.reduceLT, Int.reduceLE, Int.reduceEq, Int.reduceNe, fa_25_0, fa_25_1, fa_27_0, fa_27_1, fa_54_0, fa_54_1, fa_60_0, fa_60_1, fa_68_0, ld_3, ld_9, ld_25, ld_27, ld_54, ld_57, ld_60, ld_95, st_3, st_25, st_27, st_54, st_57, st_60, st_95, al_3, al_25, al_27, al_54, al_60, al_95, bd_25_, bd_25_0_1, bd_25_1, bd_27_0_1, bd_54_0_1, bd_60_0_1, bd_68_, be_4, pe0_43, pe1_43, pe2_43, bn_4, ln_9, ln_22, ln_45, ln_57, ln_71, ln_103, ix_22, ix_31, ix_45, ix_57, ix_71, ix_103, slt_45, slt_71, bs_22, bs_45, bs_57, bs_71, bs2_103, cv_3_76, cv_3_95, cv_5_3, cv_76_3, cv_76_87, cv_87_5, cv_89_5, hmd]
        rw [ix_22 hlt]
        simp only [pur_add, pur_sub, pur_mul, pur_eql, pur_neq, pur_lss, pur_leq, pur_gtr, pur_geq, pur_seql, pur_sneq, pur_max, pur_min, pur_nil, pur_pick_t, pur_pick_f, pur_not, pur_pure, pur_ext2_0, pur_ext2_1, pur_ext3_0, pur_ext3_1, pur_ext3_2, pur_ext4_0, pur_ext4_1, pur_ext4_2, pur_ext4_3, gd_hit, gd_tf, gd_ft, gd_undef, condS_true, condS_false, one_int, one_ptr, one_str, one_bool, one_map, one_slice, act_box, act_makeMap, agg_cells, Nat.zero_add, Nat.reduceAdd, decide_true, decide_false, Bool.not_true, Bool.not_false, not_true_eq_false, not_false_eq_true, ne_eq, Bool.bne_true, Bool.bne_false, Bool.true_bne, Bool.false_bne, Bool.true_beq, Bool.false_beq, bne_self_eq_false, beq_self_eq_true, Int.reduceLT, Int.reduceLE, Int.reduceEq, Int.reduceNe, fa_25_0, fa_25_1, fa_27_0, fa_27_1, fa_54_0, fa_54_1, fa_60_0, fa_60_1, fa_68_0, ld_3, ld_9, ld_25, ld_27, ld_54, ld_57, ld_60, ld_95, st_3, st_25, st_27, st_54, st_57, st_60, st_95, al_3, al_25, al_27, al_54, al_60, al_95, bd_25_, bd_25_0_1, bd_25_1, bd_27_0_1, bd_54_0_1, bd_60_0_1, bd_68_, be_4, pe0_43, pe1_43, pe2_43, bn_4, ln_9, ln_22, ln_45, ln_57, ln_71, ln_103, ix_22, ix_31, ix_45, ix_57, ix_71, ix_103, slt_45, slt_71, bs_22, bs_45, bs_57, bs_71, bs2_103, cv_3_76, cv_3_95, cv_5_3, cv_76_3, cv_76_87, cv_87_5, cv_89_5, callF_plain, nw1, nw2, nw3, nw4, nw5, nw6, nw7, nw8, nw9, nw10, nw11, nw12, resL_ptr, cel_alloc_new, cel_alloc_old, siz_lt1, siz_lt2, siz_lt3, siz_lt4, fre_alloc_new, fre_alloc_old, cel_drew, fre_drew, siz_drew, List.getElem?_toArray, List.getElem?_cons_zero, List.getElem?_cons_succ, Option.isSome_some, Option.getD_some, Option.isNone_none, Option.isNone_some, Option.isSome_none, se_27, sq_57, sq_71, sn_25, sn_27, bz_22_1, bz_22_2, bz_31_3, bz_45_1, bz_57_0, bz_57_1, bz_71_0, bz_71_1, bz_71_2, bz_103_2, slt0_45, slf0_45, slt0_71, slf0_71, stn_3, stn_25, stn_27, stn_54, stn_60, stn_95, c0, c1]
        rw [ix_22 hlt]
        simp only [pur_add, pur_sub, pur_mul, pur_eql, pur_neq, pur_lss, pur_leq, pur_gtr, pur_geq, pur_seql, pur_sneq, pur_max, pur_min, pur_nil, pur_pick_t, pur_pick_f, pur_not, pur_pure, pur_ext2_0, pur_ext2_1, pur_ext3_0, pur_ext3_1, pur_ext3_2, pur_ext4_0, pur_ext4_1, pur_ext4_2, pur_ext4_3, gd_hit, gd_tf, gd_ft, gd_undef, condS_true, condS_false, one_int, one_ptr, one_str, one_bool, one_map, one_slice, act_box, act_makeMap, agg_cells, Nat.zero_add, Nat.reduceAdd, decide_true, decide_false, Bool.not_true, Bool.not_false, not_true_eq_false, not_false_eq_true, ne_eq, Bool.bne_true, Bool.bne_false, Bool.true_bne, Bool.false_bne, Bool.true_beq, Bool.false_beq, bne_self_eq_false, beq_self_eq_true, Int.reduceLT, Int.reduceLE, Int.reduceEq, Int.reduceNe, fa_25_0, fa_25_1, fa_27_0, fa_27_1, fa_54_0, fa_54_1, fa_60_0, fa_60_1, fa_68_0, ld_3, ld_9, ld_25, ld_27, ld_54, ld_57, ld_60, ld_95, st_3, st_25, st_27, st_54, st_57, st_60, st_95, al_3, al_25, al_27, al_54, al_60, al_95, bd_25_, bd_25_0_1, bd_25_1, bd_27_0_1, bd_54_0_1, bd_60_0_1, bd_68_, be_4, pe0_43, pe1_43, pe2_43, bn_4, ln_9, ln_22, ln_45, ln_57, ln_71, ln_103, ix_22, ix_31, ix_45, ix_57, ix_71, ix_103, slt_45, slt_71, bs_22, bs_45, bs_57, bs_71, bs2_103, cv_3_76, cv_3_95, cv_5_3, cv_76_3, cv_76_87, cv_87_5, cv_89_5, callF_plain, nw1, nw2, nw3, nw4, nw5, nw6, nw7, nw8, nw9, nw10, nw11, nw12, resL_ptr, cel_alloc_new, cel_alloc_old, siz_lt1, siz_lt2, siz_lt3, siz_lt4, fre_alloc_new, fre_alloc_old, cel_drew, fre_drew, siz_drew, List.getElem?_toArray, List.getElem?_cons_zero, List.getElem?_cons_succ, Option.isSome_some, Option.getD_some, Option.isNone_none, Option.isNone_some, Option.isSome_none, se_27, sq_57, sq_71, sn_25, sn_27, bz_22_1, bz_22_2, bz_31_3, bz_45_1, bz_57_0, bz_57_1, bz_71_0, bz_71_1, bz_71_2, bz_103_2, slt0_45, slf0_45, slt0_71, slf0_71, stn_3, stn_25, stn_27, stn_54, stn_60, stn_95, c2]
        have kd := (Keep.refl (fun _ => False) w2).drew
        refine mset_any (m2.keep0 kd) (by have := hcm.len m2.canon; omega) fun w3 l3 _ m3 hv3 hl3 k3 => ?_
        have k23 := (k2.trans kd.none).trans k3
        have o3 : RM w3 (siz w1) x lr := (m2.keep0 kd).list (o2.keep0 kd) (by decide) k3
        obtain ⟨g', o', c'', e, _, hcel'⟩ := (rd_keep h (kB k23)).at (by omega)
        injection e with e1 _ e2
        injection e1 with e1
        injection e1 with e1 e3
        subst e1 e2 e3
        obtain ⟨d0, d1, d2⟩ := locks_at hcel' hsi
        rw [ix_22 hlt]
        simp only [pur_add, pur_sub, pur_mul, pur_eql, pur_neq, pur_lss, pur_leq, pur_gtr, pur_geq, pur_seql, pur_sneq, pur_max, pur_min, pur_nil, pur_pick_t, pur_pick_f, pur_not, pur_pure, pur_ext2_0, pur_ext2_1, pur_ext3_0, pur_ext3_1, pur_ext3_2, pur_ext4_0, pur_ext4_1, pur_ext4_2, pur_ext4_3, gd_hit, gd_tf, gd_ft, gd_undef, condS_true, condS_false, one_int, one_ptr, one_str, one_bool, one_map, one_slice, act_box, act_makeMap, agg_cells, Nat.zero_add, Nat.reduceAdd, decide_true, decide_false, Bool.not_true, Bool.not_false, not_true_eq_false, not_false_eq_true, ne_eq, Bool.bne_true, Bool.bne_false, Bool.true_bne, Bool.false_bne, Bool.true_beq, Bool.false_beq, bne_self_eq_false, beq_self_eq_true, Int.reduceLT, Int.reduceLE, Int.reduceEq, Int.reduceNe, fa_25_0, fa_25_1, fa_27_0, fa_27_1, fa_54_0, fa_54_1, fa_60_0, fa_60_1, fa_68_0, ld_3, ld_9, ld_25, ld_27, ld_54, ld_57, ld_60, ld_95, st_3, st_25, st_27, st_54, st_57, st_60, st_95, al_3, al_25, al_27, al_54, al_60, al_95, bd_25_, bd_25_0_1, bd_25_1, bd_27_0_1, bd_54_0_1, bd_60_0_1, bd_68_, be_4, pe0_43, pe1_43, pe2_43, bn_4, ln_9, ln_22, ln_45, ln_57, ln_71, ln_103, ix_22, ix_31, ix_45, ix_57, ix_71, ix_103, slt_45, slt_71, bs_22, bs_45, bs_57, bs_71, bs2_103, cv_3_76, cv_3_95, cv_5_3, cv_76_3, cv_76_87, cv_87_5, cv_89_5, callF_plain, nw1, nw2, nw3, nw4, nw5, nw6, nw7, nw8, nw9, nw10, nw11, nw12, resL_ptr, cel_alloc_new, cel_alloc_old, siz_lt1, siz_lt2, siz_lt3, siz_lt4, fre_alloc_new, fre_alloc_old, cel_drew, fre_drew, siz_drew, List.getElem?_toArray, List.getElem?_cons_zero, List.getElem?_cons_succ, Option.isSome_some, Option.getD_some, Option.isNone_none, Option.isNone_some, Option.isSome_none, se_27, sq_57, sq_71, sn_25, sn_27, bz_22_1, bz_22_2, bz_31_3, bz_45_1, bz_57_0, bz_57_1, bz_71_0, bz_71_1, bz_71_2, bz_103_2, slt0_45, slf0_45, slt0_71, slf0_71, stn_3, stn_25, stn_27, stn_54, stn_60, stn_95, d0, d1]
        rw [ix_22 hlt]
        simp only [pur_add, pur_sub, pur_mul, pur_eql, pur_neq, pur_lss, pur_leq, pur_gtr, pur_geq, pur_seql, pur_sneq, pur_max, pur_min, pur_nil, pur_pick_t, pur_pick_f, pur_not, pur_pure, pur_ext2_0, pur_ext2_1, pur_ext3_0, pur_ext3_1, pur_ext3_2, pur_ext4_0, pur_ext4_1, pur_ext4_2, pur_ext4_3, gd_hit, gd_tf, gd_ft, gd_undef, condS_true, condS_false, one_int, one_ptr, one_str, one_bool, one_map, one_slice, act_box, act_makeMap, agg_cells, Nat.zero_add, Nat.reduceAdd, decide_true, decide_false, Bool.not_true, Bool.not_false, not_true_eq_false, not_false_eq_true, ne_eq, Bool.bne_true, Bool.bne_false, Bool.true_bne, Bool.false_bne, Bool.true_beq, Bool.false_beq, bne_self_eq_false, beq_self_eq_true, Int.reduceLT, Int.reduceLE, Int.reduceEq, Int.reduceNe, fa_25_0, fa_25_1, fa_27_0, fa_27_1, fa_54_0, fa_54_1, fa_60_0, fa_60_1, fa_68_0, ld_3, ld_9, ld_25, ld_27, ld_54, ld_57, ld_60, ld_95, st_3, st_25, st_27, st_54, st_57, st_60, st_95, al_3, al_25, al_27, al_54, al_60, al_95, bd_25_, bd_25_0_1, bd_25_1, bd_27_0_1, bd_54_0_1, bd_60_0_1, bd_68_, be_4, pe0_43, pe1_43, pe2_43, bn_4, ln_9, ln_22, ln_45, ln_57, ln_71, ln_103, ix_22, ix_31, ix_45, ix_57, ix_71, ix_103, slt_45, slt_71, bs_22, bs_45, bs_57, bs_71, bs2_103, cv_3_76, cv_3_95, cv_5_3, cv_76_3, cv_76_87, cv_87_5, cv_89_5, callF_plain, nw1, nw2, nw3, nw4, nw5, nw6, nw7, nw8, nw9, nw10, nw11, nw12, resL_ptr, cel_alloc_new, cel_alloc_old, siz_lt1, siz_lt2, siz_lt3, siz_lt4, fre_alloc_new, fre_alloc_old, cel_drew, fre_drew, siz_drew, List.getElem?_toArray, List.getElem?_cons_zero, List.getElem?_cons_succ, Option.isSome_some, Option.getD_some, Option.isNone_none, Option.isNone_some, Option.isSome_none, se_27, sq_57, sq_71, sn_25, sn_27, bz_22_1, bz_22_2, bz_31_3, bz_45_1, bz_57_0, bz_57_1, bz_71_0, bz_71_1, bz_71_2, bz_103_2, slt0_45, slf0_45, slt0_71, slf0_71, stn_3, stn_25, stn_27, stn_54, stn_60, stn_95, d2]
        have kd3 := (Keep.refl (fun _ => False) w3).drew
        have sd3 : siz w3.drew = siz w3 := rfl
        have s3 := k23.size
        refine rset_c (o3.keep0 kd3) (by omega) hcr (by have := hchr.len hcr; omega) fun w4 v4 l4 o4 hc4 hv4 k4 => ?_
        exact hJ2 _ _ ⟨(k23.trans kd3.none).trans k4.none, l3, l4, (m3.keep0 kd3).keep0 k4, hcm.put hv3, o4, hc4, hchr.put hv4⟩
      · simp only [pur_add, pur_sub, pur_mul, pur_eql, pur_neq, pur_lss, pur_leq, pur_gtr, pur_geq, pur_seql, pur_sneq, pur_max, pur_min, pur_nil, pur_pick_t, pur_pick_f, pur_not, pur_pure, pur_ext2_0, pur_ext2_1, pur_ext3_0, pur_ext3_1, pur_ext3_2, pur_ext4_0, pur_ext4_1, pur_ext4_2, pur_ext4_3, gd_hit, gd_tf, gd_ft, gd_undef, condS_true, condS_false, one_int, one_ptr, one_str, one_bool, one_map, one_slice, act_box, act_makeMap, agg_cells, Nat.zero_add, Nat.reduceAdd, decide_true, decide_false, Bool.not_true, Bool.not_false, not_true_eq_false, not_false_eq_true, ne_eq, Bool.bne_true, Bool.bne_false, Bool.true_bne, Bool.false_bne, Bool.true_beq, Bool.false_beq, bne_self_eq_false, beq_self_eq_true, Int.reduceLT, Int.reduceLE, Int.reduceEq, Int.reduceNe, fa_25_0, fa_25_1, fa_27_0, fa_27_1, fa_54_0, fa_54_1, fa_60_0, fa_60_1, fa_68_0, ld_3, ld_9, ld_25, ld_27, ld_54, ld_57, ld_60, ld_95, st_3, st_25, st_27, st_54, st_57, st_60, st_95, al_3, al_25, al_27, al_54, al_60, al_95, bd_25_, bd_25_0_1, bd_25_1, bd_27_0_1, bd_54_0_1, bd_60_0_1, bd_68_, be_4, pe0_43, pe1_43, pe2_43, bn_4, ln_9, ln_22, ln_45, ln_57, ln_71, ln_103, ix_22, ix_31, ix_45, ix_57, ix_71, ix_103, slt_45, slt_71, bs_22, bs_45, bs_57, bs_71, bs2_103, cv_3_76, cv_3_95, cv_5_3, cv_76_3, cv_76_87, cv_87_5, cv_89_5, hmd]
        obtain ⟨E, h1, h2⟩ := hcm
        obtain ⟨E', h1', h2'⟩ := hchr
        exact hJ2 _ _ ⟨k2, lm, lr, m2, ⟨E, h1, by omega⟩, o2, hcr, ⟨E', h1', by omega⟩⟩
    · rintro x' w3 ⟨k3, lm3, lr3, m3, hcm3, o3, hcr3, hch3⟩ _
      simp only [pur_add, pur_sub, pur_mul, pur_eql, pur_neq, pur_lss, pur_leq, pur_gtr, pur_geq, pur_seql, pur_sneq, pur_max, pur_min, pur_nil, pur_pick_t, pur_pick_f, pur_not, pur_pure, pur_ext2_0, pur_ext2_1, pur_ext3_0, pur_ext3_1, pur_ext3_2, pur_ext4_0, pur_ext4_1, pur_ext4_2, pur_ext4_3, gd_hit, gd_tf, gd_ft, gd_undef, condS_true, condS_false, one_int, one_ptr, one_str, one_bool, one_map, one_slice, act_box, act_makeMap, agg_cells, Nat.zero_add, Nat.reduceAdd, decide_true, decide_false, Bool.not_true, Bool.not_false, not_true_eq_false, not_false_eq_true, ne_eq, Bool.bne_true, Bool.bne_false, Bool.true_bne, Bool.false_bne, Bool.true_beq, Bool.false_beq, bne_self_eq_false, beq_self_eq_true, Int.reduceLT, Int.reduceLE, Int.reduceEq, Int.reduceNe, fa_25_0, fa_25_1, fa_27_0, fa_27_1, fa_54_0, fa_54_1, fa_60_0, fa_60_1, fa_68_0, ld_3, ld_9, ld_25, ld_27, ld_54, ld_57, ld_60, ld_95, st_3, st_25, st_27, st_54, st_57, st_60, st_95, al_3, al_25, al_27, al_54, al_60, al_95, bd_25_, bd_25_0_1, bd_25_1, bd_27_0_1, bd_54_0_1, bd_60_0_1, bd_68_, be_4, pe0_43, pe1_43, pe2_43, bn_4, ln_9, ln_22, ln_45, ln_57, ln_71, ln_103, ix_22, ix_31, ix_45, ix_57, ix_71, ix_103, slt_45, slt_71, bs_22, bs_45, bs_57, bs_71, bs2_103, cv_3_76, cv_3_95, cv_5_3, cv_76_3, cv_76_87, cv_87_5, cv_89_5, hwi]
      exact hJ (L.length - (i + 1)) _ _ _ (by omega) ⟨k3, i + 1, lm3, lr3, rfl, by omega, rfl, m3, hcm3, o3, hcr3, hch3⟩
  · have hlt' : ¬ ((i : Int) < (L.length : Int)) := by omega
    have hil : i = L.length := by omega
    subst hil
    simp only [pur_add, pur_sub, pur_mul, pur_eql, pur_neq, pur_lss, pur_leq, pur_gtr, pur_geq, pur_seql, pur_sneq, pur_max, pur_min, pur_nil, pur_pick_t, pur_pick_f, pur_not, pur_pure, pur_ext2_0, pur_ext2_1, pur_ext3_0, pur_ext3_1, pur_ext3_2, pur_ext4_0, pur_ext4_1, pur_ext4_2, pur_ext4_3, gd_hit, gd_tf, gd_ft, gd_undef, condS_true, condS_false, one_int, one_ptr, one_str, one_bool, one_map, one_slice, act_box, act_makeMap, agg_cells, Nat.zero_add, Nat.reduceAdd, decide_true, decide_false, Bool.not_true, Bool.not_false, not_true_eq_false, not_false_eq_true, ne_eq, Bool.bne_true, Bool.bne_false, Bool.true_bne, Bool.false_bne, Bool.true_beq, Bool.false_beq, bne_self_eq_false, beq_self_eq_true, Int.reduceLT, Int.reduceLE, Int.reduceEq, Int.reduceNe, fa_25_0, fa_25_1, fa_27_0, fa_27_1, fa_54_0, fa_54_1, fa_60_0, fa_60_1, fa_68_0, ld_3, ld_9, ld_25, ld_27, ld_54, ld_57, ld_60, ld_95, st_3, st_25, st_27, st_54, st_57, st_60, st_95, al_3, al_25, al_27, al_54, al_60, al_95, bd_25_, bd_25_0_1, bd_25_1, bd_27_0_1, bd_54_0_1, bd_60_0_1, bd_68_, be_4, pe0_43, pe1_43, pe2_43, bn_4, ln_9, ln_22, ln_45, ln_57, ln_71, ln_103, ix_22, ix_31, ix_45, ix_57, ix_71, ix_103, slt_45, slt_71, bs_22, bs_45, bs_57, bs_71, bs2_103, cv_3_76, cv_3_95, cv_5_3, cv_76_3, cv_76_87, cv_87_5, cv_89_5, hlt']
    have kk := kB k2
    subst hm
    exact hq _ lm x m2 hcm kk
end
end Go.Proofs.Ytmegjkejinfpcaa
