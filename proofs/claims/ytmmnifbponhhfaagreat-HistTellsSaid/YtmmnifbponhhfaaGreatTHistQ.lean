/- What the document writes into an array. Conditions: as it says. -/
import Derived.Test.YtmmnifbponhhfaaGreatTRowI
set_option linter.unusedSimpArgs false
set_option linter.unusedVariables false
namespace Go.Proofs.YtmmnifbponhhfaaGreatT
open Go.Sh Go.Sh.Hi
set_option maxRecDepth 100000
section
variable {w w' u u' : World} {Q : Value → World → Prop} {v x : Value} {B : Nat}
theorem insD_len {x : Im} : ∀ {D : List Im}, (insD x D).length ≤ D.length + 1
  | [] => by simp [insD]
  | y :: r => by
    unfold insD
    split
    · have := insD_len (x := x) (D := r)
      simp only [List.length_cons]; omega
    · split
      · simp
      · simp
theorem writeD_len : ∀ {l D : List Im}, (writeD D l).length ≤ D.length + l.length
  | [], D => by simp [writeD]
  | i :: l, D => by
    have := writeD_len (l := l) (D := insD (w0 i) D)
    have := insD_len (x := w0 i) (D := D)
    show (writeD (insD (w0 i) D) l).length ≤ _
    simp only [List.length_cons]; omega
theorem insD_split {x : Im} : ∀ {D : List Im} {k : Nat}, k ≤ D.length → (∀ y ∈ D.take k, y.1 < x.1) → (∀ y, D[k]? = some y → ¬ y.1 < x.1) →
    insD x D = D.take k ++ x :: (if (D[k]?.map fun y => decide (y.1 = x.1)) = some true then D.drop (k + 1) else D.drop k)
  | [], 0, _, _, _ => rfl
  | [], k + 1, h, _, _ => by simp at h
  | y :: r, 0, _, _, h2 => by
    have := h2 y rfl
    unfold insD
    rw [if_neg this]
    by_cases e : y.1 = x.1
    · rw [if_pos e, if_pos (by simp [e])]; rfl
    · rw [if_neg e, if_neg (by simp [e])]; rfl
  | y :: r, k + 1, h, h1, h2 => by
    have := h1 y (by simp)
    unfold insD
    rw [if_pos this, insD_split (D := r) (k := k) (by simpa using h) (fun z hz => h1 z (by simp [hz])) (fun z hz => h2 z (by simpa using hz))]
    simp
set_option maxHeartbeats 2000000 in
theorem dtail {E : List Im} {X : Im} {bx k cx : Nat} {px : Option Addr} {K : Value → World → Prop} (hx : Sh.Own u B tIm 3 (.slice px E.length cx) E.length (flat encM E)) (hB : B ≤ siz u) (hE : E.length ≤ 45000) (hb : BI u bx X) (hk : k ≤ E.length)
    (h1 : ∀ z ∈ E.take k, z.1 < X.1) (h2 : ∀ z, E[k]? = some z → ¬ z.1 < X.1) (hK : ∀ u' x', K0 u u' → Sh.Own u' B tIm 3 x' (insD X E).length (flat encM (insD X E)) → K x' u') :
    pur Tryz.prog (Instr.sliceAt 53 (.slice px E.length cx) (some (.int .i64 (k : Int))) none none) fun t44 => 
  jn 1 (fun J_3 => 
   pur Tryz.prog (Builtin.len_ #[53] 3 #[(.slice px E.length cx)]) fun t47 => 
   pur Tryz.prog (binS .lss 3 false false (.int .i64 (k : Int)) t47) fun t48 => 
   gd t48 true (fun k_8 w_30 => k_8 (.slice px E.length cx) w_30) (fun t50_1 w_31 => 
   gd t48 true (fun k_9 w_32 => k_9 (.int .i64 (k : Int)) w_32) (fun t51_1 w_33 => 
   gd t48 true (fun k_10 w_34 => pur Tryz.prog (Instr.indexAt 53 t50_1 t51_1) fun t52 => k_10 t52 w_34) (fun t52_1 w_35 => 
   gd t48 true (fun k_11 w_36 => pur Tryz.prog (Instr.fieldAt 69 t52_1 0) fun t53 => k_11 t53 w_36) (fun t53_1 w_37 => 
   gd t48 true (fun k_12 w_38 => rd Tryz.prog (Instr.loadAt 3 t53_1) (fun t54 => k_12 t54 w_38) w_38) (fun t54_1 w_39 => 
   gd t48 true (fun k_13 w_40 => pur Tryz.prog (Instr.fieldAt 69 (.pointer (some ⟨bx, 0, none⟩)) 0) fun t55 => k_13 t55 w_40) (fun t55_1 w_41 => 
   gd t48 true (fun k_14 w_42 => rd Tryz.prog (Instr.loadAt 3 t55_1) (fun t56 => k_14 t56 w_42) w_42) (fun t56_1 w_43 => 
   gd t48 true (fun k_15 w_44 => pur Tryz.prog (binS .eql 3 false false t54_1 t56_1) fun t57 => k_15 t57 w_44) (fun t57_1 w_45 => 
   pur Tryz.prog (pickS t48 t57_1 (.bool false)) fun t58 => 
   condS t58
    (pur Tryz.prog (binS .add 3 false true (.int .i64 (k : Int)) (.int .i64 1)) fun t61 => 
    pur Tryz.prog (Instr.sliceAt 53 (.slice px E.length cx) (some t61) none none) fun t62 => 
    J_3 t62 w_45)
    (J_3 t44 w_45)) w_43) w_41) w_39) w_37) w_35) w_33) w_31) (World.drew u))
  (fun v_rest w_46 => ∀ _j : Fr, 
   jn 1 (fun J_4 => 
    pur Tryz.prog (Instr.sliceAt 53 (.slice px E.length cx) none (some (.int .i64 (k : Int))) none) fun t65 => 
    (act Tryz.prog (Builtin.append_ #[53, 53] 53 #[(.slice none 0 0), t65]) (fun t66 w_47 => 
    rd Tryz.prog (Instr.loadAt 69 (.pointer (some ⟨bx, 0, none⟩))) (fun t67 => 
    act Tryz.prog (Instr.buildSlice 53 1 #[(0, t67)]) (fun t68 w_48 => 
    act Tryz.prog (Builtin.append_ #[53, 53] 53 #[t66, t68]) (fun t69 w_49 => 
    act Tryz.prog (Builtin.append_ #[53, 53] 53 #[t69, v_rest]) (fun t71 w_50 => 
    J_4 t71 w_50) w_49) w_48) w_47) w_47) (World.drew w_46)
    ) ∧ (rd Tryz.prog (Instr.loadAt 69 (.pointer (some ⟨bx, 0, none⟩))) (fun t67_1 => 
    (act Tryz.prog (Builtin.append_ #[53, 53] 53 #[(.slice none 0 0), t65]) (fun t66_1 w_51 => 
    act Tryz.prog (Instr.buildSlice 53 1 #[(0, t67_1)]) (fun t68_1 w_52 => 
    act Tryz.prog (Builtin.append_ #[53, 53] 53 #[t66_1, t68_1]) (fun t69_1 w_53 => 
    act Tryz.prog (Builtin.append_ #[53, 53] 53 #[t69_1, v_rest]) (fun t71_1 w_54 => 
    J_4 t71_1 w_54) w_53) w_52) w_51) (World.drew w_46)
    ) ∧ (act Tryz.prog (Instr.buildSlice 53 1 #[(0, t67_1)]) (fun t68_2 w_55 => 
    act Tryz.prog (Builtin.append_ #[53, 53] 53 #[(.slice none 0 0), t65]) (fun t66_2 w_56 => 
    act Tryz.prog (Builtin.append_ #[53, 53] 53 #[t66_2, t68_2]) (fun t69_2 w_57 => 
    act Tryz.prog (Builtin.append_ #[53, 53] 53 #[t69_2, v_rest]) (fun t71_2 w_58 => 
    J_4 t71_2 w_58) w_57) w_56) w_55) (World.drew w_46))) (World.drew w_46)))
   (fun v_a_2 w_59 => ∀ _j : Fr, 
    K v_a_2 w_59)) := by
  obtain ⟨p1, c1, p2, c2, s1, s2, r1, r2⟩ := RowI.cut hx hk
  rw [s2]
  have kd : K0 u u.drew := (K0.refl u).drew
  refine jn1 (fun y u' => ∃ R : List Im, Rd 3 u' y R.length (flat encM R) ∧ R = (if (E[k]?.map fun y => decide (y.1 = X.1)) = some true then E.drop (k + 1) else E.drop k) ∧ K0 u u') (fun J3 hJ3 => ?_) ?_
  · have hdl : (E.drop k).length = E.length - k := by rw [List.length_drop]
    by_cases hkl : k < E.length
    · have hkl' : ((k : Int) < (E.length : Int)) := by omega
      obtain ⟨gx, cx', ex, _, _, _, _, _, hcx⟩ := hx.at (by omega)
      injection ex with e1 _ e2
      subst e1 e2
      have hcx0 : ∀ j, j < E.length * 3 → Sh.cel u gx (0 + j) = (flat encM E)[j]? := fun j hj => by rw [Nat.zero_add]; exact hcx j hj
      obtain ⟨q0, q1, q2⟩ := im_at hcx0 (List.getElem?_eq_getElem hkl)
      have hek : E[k]? = some E[k] := List.getElem?_eq_getElem hkl
      have x0 : Sh.cel u.drew bx 0 = some (.int .i64 X.1) := kd.cel (hb.cel 0) id
      simp only [ln_53, pur_lss, hkl', decide_true, gd_hit, ix_53 hkl, fa_69_0]
      rw [rd_eq (rl_3 (kd.cel q0 id)), rd_eq (rl_3 x0)]
      by_cases he : E[k].1 = X.1
      · obtain ⟨p3, c3, p4, c4, s3, s4, r3, r4⟩ := RowI.cut hx (k := k + 1) (by omega)
        have hcz : (((k + 1 : Nat) : Int)) = (k : Int) + 1 := by omega
        simp only [pur_eql, he, decide_true, pur_pick_t, condS_true, pur_add]
        rw [wrap_succ (i := k) (by omega), s4]
        refine hJ3 _ _ ⟨E.drop (k + 1), ?_, by rw [if_pos (by rw [hek]; simp [he])], kd⟩
        rw [List.length_drop]; exact r4.keep0 kd
      · simp only [pur_eql, he, decide_false, pur_pick_t, condS_false]
        refine hJ3 _ _ ⟨E.drop k, ?_, by rw [if_neg (by rw [hek]; simp [he])], kd⟩
        rw [List.length_drop]; exact r2.keep0 kd
    · have hkl' : ¬ ((k : Int) < (E.length : Int)) := by omega
      have hek : E[k]? = none := List.getElem?_eq_none (by omega)
      simp only [ln_53, pur_lss, hkl', decide_false, gd_ft, gd_undef, pur_pick_f, condS_false]
      refine hJ3 _ _ ⟨E.drop k, ?_, by rw [if_neg (by rw [hek]; simp)], kd⟩
      rw [List.length_drop]; exact r2.keep0 kd
  · rintro y u1 ⟨R, hR, hRe, k1⟩ _j
    have hins := insD_split hk h1 h2
    rw [← hRe] at hins
    have htl : (E.take k).length = k := by rw [List.length_take]; omega
    have r1' : Rd 3 u (.slice p1 k c1) (E.take k).length (flat encM (E.take k)) := by rw [htl]; exact r1
    have hRl : R.length ≤ E.length := by rw [hRe]; split <;> rw [List.length_drop] <;> omega
    have s01 := k1.size
    refine jn1 (fun y u' => K0 u u' ∧ Sh.Own u' B tIm 3 y (insD X E).length (flat encM (insD X E))) (fun J4 hJ4 => ?_) ?_
    · rw [s1]
      have kd1 : K0 u1 u1.drew := (K0.refl u1).drew
      have k1d := k1.trans kd1
      have s1d := k1d.size
      have fin : ∀ (u2 u3 : World) (xa xb : Value), K0 u1.drew u2 → Sh.Own u2 (siz u1.drew) tIm 3 xa (E.take k).length (flat encM (E.take k)) → K0 u1.drew u3 → Sh.Own u3 (siz u1.drew) tIm 3 xa (E.take k).length (flat encM (E.take k)) → Rd 3 u3 xb [X].length (flat encM [X]) →
          act Tryz.prog (Builtin.append_ #[53, 53] 53 #[xa, xb]) (fun t69 w_49 => act Tryz.prog (Builtin.append_ #[53, 53] 53 #[t69, y]) (fun t71 w_50 => J4 t71 w_50) w_49) u3 := fun u2 u3 xa xb k2 o2 k3 o3 r3 => by
        refine RowI.app2 o3 k3 r3 (by rw [htl]; simp; omega) fun u4 x4 o4 k4 => ?_
        refine RowI.app2 o4 k4 ((hR.keep0 kd1).keep0 k4) (by rw [List.length_append, htl]; simp; omega) fun u5 x5 o5 k5 => ?_
        refine hJ4 _ _ ⟨k1d.trans k5, ?_⟩
        rw [hins]
        rw [List.append_assoc] at o5
        exact o5.le (by omega)
      have hbd := (hb.keep0 k1d)
      refine ⟨?_, ?_⟩
      · refine RowI.app0 (r1'.keep0 k1d) (by omega) fun u2 x2 o2 k2 => ?_
        refine ld_im (hbd.keep0 k2) ?_
        refine bld_im fun u3 x3 k3 r3 _ => ?_
        exact fin u2 u3 x2 x3 k2 o2 (k2.trans k3) (o2.keep k3 fun _ _ => id) r3
      · refine ld_im hbd ?_
        refine ⟨?_, ?_⟩
        · refine RowI.app0 (r1'.keep0 k1d) (by omega) fun u2 x2 o2 k2 => ?_
          refine bld_im fun u3 x3 k3 r3 _ => ?_
          exact fin u2 u3 x2 x3 k2 o2 (k2.trans k3) (o2.keep k3 fun _ _ => id) r3
        · refine bld_im fun u3 x3 k3 r3 _ => ?_
          refine RowI.app0 (r1'.keep0 (k1d.trans k3)) (by omega) fun u2 x2 o2 k2 => ?_
          have s3 := k3.size
          exact fin u2 u2 x2 x3 (k3.trans k2) (o2.le s3) (k3.trans k2) (o2.le s3) (r3.keep0 k2)
    · rintro y5 u5 ⟨k5, o5⟩ _j
      exact hK _ _ k5 o5
theorem dfind {E : List Im} {X : Im} {bx cx : Nat} {px : Option Addr} {u1 : World} {T : Value → World → Prop} (hx1 : Sh.Own u1 B tIm 3 (.slice px E.length cx) E.length (flat encM E)) (hE : E.length ≤ 45000) (b1 : BI u1 bx X)
    (hT : ∀ (k : Nat) u2, K0 u1 u2 → k ≤ E.length → (∀ z ∈ E.take k, z.1 < X.1) → (∀ z, E[k]? = some z → ¬ z.1 < X.1) → T (.int .i64 (k : Int)) u2) :
    lp 1 (fun J_2 => fun v_k w_13 => ∀ _j : Fr, 
   pur Tryz.prog (Builtin.len_ #[53] 3 #[(.slice px E.length cx)]) fun t28 => 
   pur Tryz.prog (binS .lss 3 false false v_k t28) fun t29 => 
   gd t29 true (fun k w_14 => k (.slice px E.length cx) w_14) (fun t31_1 w_15 => 
   gd t29 true (fun k_1 w_16 => k_1 v_k w_16) (fun t32_1 w_17 => 
   gd t29 true (fun k_2 w_18 => pur Tryz.prog (Instr.indexAt 53 t31_1 t32_1) fun t33 => k_2 t33 w_18) (fun t33_1 w_19 => 
   gd t29 true (fun k_3 w_20 => pur Tryz.prog (Instr.fieldAt 69 t33_1 0) fun t34 => k_3 t34 w_20) (fun t34_1 w_21 => 
   gd t29 true (fun k_4 w_22 => rd Tryz.prog (Instr.loadAt 3 t34_1) (fun t35 => k_4 t35 w_22) w_22) (fun t35_1 w_23 => 
   gd t29 true (fun k_5 w_24 => pur Tryz.prog (Instr.fieldAt 69 (.pointer (some ⟨bx, 0, none⟩)) 0) fun t36 => k_5 t36 w_24) (fun t36_1 w_25 => 
   gd t29 true (fun k_6 w_26 => rd Tryz.prog (Instr.loadAt 3 t36_1) (fun t37 => k_6 t37 w_26) w_26) (fun t37_1 w_27 => 
   gd t29 true (fun k_7 w_28 => pur Tryz.prog (binS .lss 3 false false t35_1 t37_1) fun t38 => k_7 t38 w_28) (fun t38_1 w_29 => 
   pur Tryz.prog (pickS t29 t38_1 (.bool false)) fun t39 => 
   condS t39
    (pur Tryz.prog (binS .add 3 false true v_k (.int .i64 1)) fun t41 => 
   J_2 t41 w_29)
    (T v_k w_29)) w_27) w_25) w_23) w_21) w_19) w_17) w_15) (World.drew w_13)) [(.int .i64 0)] u1 := by
  have ldx : ∀ {u' : World} {K : Value → Prop}, K0 u1 u' → rd Tryz.prog (Instr.loadAt 3 (.pointer (some ⟨bx, 0, none⟩))) K u' = K (.int .i64 X.1) := fun k => rd_eq (rl_3 ((b1.keep0 k).cel 0))
  refine lp1 (fun m y u2 => ∃ k : Nat, y = .int .i64 (k : Int) ∧ k ≤ E.length ∧ m = E.length - k ∧ (∀ z ∈ E.take k, z.1 < X.1) ∧ K0 u1 u2) E.length ⟨0, rfl, Nat.zero_le _, by omega, by simp, K0.refl _⟩ ?_
  rintro m y u2 ⟨k, rfl, hk, rfl, hlt, k2⟩ J2 hJ2 _j
  have hx2 := hx1.keep k2 fun _ _ => id
  have kd2 : K0 u2 u2.drew := (K0.refl u2).drew
  simp only [ln_53, pur_lss]
  by_cases hkl : k < E.length
  · have hkl' : ((k : Int) < (E.length : Int)) := by omega
    obtain ⟨gx, cx', ex, _, _, _, _, _, hcx⟩ := hx2.at (by omega)
    injection ex with e1 _ e2
    subst e1 e2
    have hcx0 : ∀ j, j < E.length * 3 → Sh.cel u2 gx (0 + j) = (flat encM E)[j]? := fun j hj => by rw [Nat.zero_add]; exact hcx j hj
    obtain ⟨q0, q1, q2⟩ := im_at hcx0 (List.getElem?_eq_getElem hkl)
    simp only [hkl', decide_true, gd_hit, ix_53 hkl, fa_69_0]
    rw [rd_eq (rl_3 (kd2.cel q0 id)), ldx (k2.trans kd2)]
    by_cases he : E[k].1 < X.1
    · simp only [pur_lss, he, decide_true, pur_pick_t, condS_true, pur_add]
      rw [wrap_succ (i := k) (by omega)]
      refine hJ2 (E.length - (k + 1)) _ _ (by omega) ⟨k + 1, rfl, by omega, rfl, fun z hz => ?_, k2.trans kd2⟩
      rw [List.take_add_one, List.getElem?_eq_getElem hkl] at hz
      rcases List.mem_append.1 hz with hz | hz
      · exact hlt z hz
      · rw [List.mem_singleton.1 hz]; exact he
    · simp only [pur_lss, he, decide_false, pur_pick_t, condS_false]
      exact hT k _ (k2.trans kd2) hk hlt fun z hz => by rw [List.getElem?_eq_getElem hkl] at hz; injection hz with hz; rw [← hz]; exact he
  · have hkl' : ¬ ((k : Int) < (E.length : Int)) := by omega
    simp only [hkl', decide_false, gd_ft, gd_undef, pur_pick_f, condS_false]
    exact hT k _ (k2.trans kd2) hk hlt fun z hz => by rw [List.getElem?_eq_none (by omega)] at hz; cases hz
set_option maxHeartbeats 2000000 in
theorem dwrite_c {D l : List Im} {v2 : Value} (hd : Sh.Own w B tIm 3 v D.length (flat encM D)) (hB : B ≤ siz w) (hD : D.length ≤ 40000) (hr : Rd 3 w v2 l.length (flat encM l)) (hl : l.length ≤ 100)
    (hq : ∀ w' v', K0 w w' → Sh.Own w' B tIm 3 v' (writeD D l).length (flat encM (writeD D l)) → Q v' w') :
    callS Tryz.prog 34 #[v, v2] Q w := by
  refine ref34 ?_
  unfold S34
  obtain ⟨pa, ca, rfl⟩ := hr.form
  refine lpc2 l.length (by omega) (fun i x u => K0 w u ∧ Sh.Own u B tIm 3 x (writeD D (l.take i)).length (flat encM (writeD D (l.take i)))) ⟨K0.refl _, hd⟩ (fun i x u hi ⟨hu, hx⟩ J hJ => ?_) (fun x u ⟨hu, hx⟩ J => ?_)
  · intro _j
    have hi' : ((i : Int) < (l.length : Int)) := by omega
    obtain ⟨g, o, c, ee, _, hc⟩ := (hr.keep0 hu).at (by omega)
    injection ee with e1 _ e2
    subst e1 e2
    obtain ⟨p0, p1, p2⟩ := im_at hc (List.getElem?_eq_getElem hi)
    have ht : l.take (i + 1) = l.take i ++ [l[i]] := by rw [List.take_add_one, List.getElem?_eq_getElem hi]; rfl
    have hwl := writeD_len (D := D) (l := l.take i)
    have hti : (l.take i).length ≤ 100 := by rw [List.length_take]; omega
    generalize hE : writeD D (l.take i) = E at hx hwl
    have hEn : writeD D (l.take (i + 1)) = insD (w0 l[i]) E := by rw [ht, writeD_snoc, hE]
    rw [hEn] at hJ
    generalize l[i] = im at p0 p1 p2 hJ
    simp only [ln_53, pur_lss, hi', decide_true, condS_true]
    have ld0 : ∀ {u' : World} {K : Value → Prop}, K0 u u' → rd Tryz.prog (Instr.loadAt 3 (.pointer (some ⟨g, o + i * 3, none⟩))) K u' = K (.int .i64 im.1) := fun k => rd_eq (rl_3 (k.cel p0 id))
    have ld2 : ∀ {u' : World} {K : Value → Prop}, K0 u u' → rd Tryz.prog (Instr.loadAt 9 (.pointer (some ⟨g, o + i * 3 + 2, none⟩))) K u' = K (.string im.2.2) := fun k => rd_eq (rl_9 (k.cel p2 id))
    refine jn1 (fun y u' => ∃ bx, y = .pointer (some ⟨bx, 0, none⟩) ∧ K0 u u' ∧ BI u' bx (w0 im)) (fun J1 hJ1 => ?_) ?_
    · have kd : K0 u u.drew := (K0.refl u).drew
      simp only [ix_53 hi, fa_69_0, fa_69_2, Nat.zero_add]
      have bl : ∀ {k : Value → Prop}, pur Tryz.prog (Instr.build tIm #[(0, .int .i64 im.1), (2, .string im.2.2)]) k = k (agI (w0 im)) := fun {k} => bd_69_0_2 one_int one_str
      have fin : ∀ (u1 u2 : World) (bx : Nat), K0 u u1 → siz u1 ≤ bx → K0 u1 u2 → BI u2 bx (0, 0, ⟨#[]⟩) → act Tryz.prog (thenU (Instr.storeAt tIm (.pointer (some ⟨bx, 0, none⟩)) (agI (w0 im)))) (fun _ w_3 => J1 (.pointer (some ⟨bx, 0, none⟩)) w_3) u2 := fun u1 u2 bx k1 hb k2 hbx => by
        refine st_im (i := w0 im) hbx fun u3 b3 k3 => ?_
        exact hJ1 _ _ ⟨bx, rfl, (k1.trans k2).trans' k3 fun q hq e => by have e : q = bx := e; have := k1.size; omega, b3⟩
      have two : ∀ u1 : World, K0 u u1 → act Tryz.prog (Instr.alloc tIm true (.tuple #[])) (fun t6 w_2 => act Tryz.prog (thenU (Instr.storeAt tIm t6 (agI (w0 im)))) (fun _ w_3 => J1 t6 w_3) w_2) u1 := fun u1 k1 => by
        refine al_im fun u2 bx k2 hb _ b2 => ?_
        exact fin u1 u2 bx k1 hb k2 b2
      refine ⟨?_, ?_, ?_⟩
      · rw [ld0 kd]
        refine ⟨?_, ?_⟩
        · rw [ld2 kd, bl]
          exact two _ kd
        · refine al_im fun u2 bx k2 hb _ b2 => ?_
          rw [ld2 (kd.trans k2), bl]
          exact fin _ u2 bx kd hb k2 b2
      · rw [ld2 kd]
        refine ⟨?_, ?_⟩
        · rw [ld0 kd, bl]
          exact two _ kd
        · refine al_im fun u2 bx k2 hb _ b2 => ?_
          rw [ld0 (kd.trans k2), bl]
          exact fin _ u2 bx kd hb k2 b2
      · refine al_im fun u2 bx k2 hb _ b2 => ?_
        rw [ld0 (kd.trans k2), ld2 (kd.trans k2), bl]
        exact fin _ u2 bx kd hb k2 b2
    rintro y u1 ⟨bx, rfl, k1, b1⟩ _j
    have hx1 := hx.keep k1 fun _ _ => id
    have hu1 := hu.trans k1
    clear p0 p1 p2 ld0 ld2 hc
    generalize hX : w0 im = X at b1 hJ
    obtain ⟨px, cx, rfl⟩ := hx1.form
    refine dfind hx1 (by omega) b1 fun k u2 k2 hk hlt hge => ?_
    refine dtail (K := fun x u => pur Tryz.prog (binS .add 3 false true (.int .i64 (i : Int)) (.int .i64 1)) fun t14 => J x t14 u) (hx1.keep k2 fun _ _ => id) (by have := hu1.size; have := k2.size; omega) (by omega) (b1.keep0 k2) hk hlt hge fun u3 x3 k3 o3 => ?_
    simp only [pur_add]
    exact hJ _ _ ⟨hu1.trans (k2.trans k3), o3⟩
  · intro _j
    have hi' : ¬ ((l.length : Int) < (l.length : Int)) := by omega
    simp only [ln_53, pur_lss, hi', decide_false, condS_false]
    rw [List.take_length] at hx
    exact hq u x hu hx
end
end Go.Proofs.YtmmnifbponhhfaaGreatT
