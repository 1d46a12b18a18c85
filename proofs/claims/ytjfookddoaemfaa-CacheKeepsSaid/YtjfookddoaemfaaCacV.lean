/- The cache: Change. Conditions: as each says. -/
import Derived.Test.YtjfookddoaemfaaCacU
set_option linter.unusedSimpArgs false
set_option linter.unusedVariables false
namespace Go.Proofs.Ytjfookddoaemfaa
open Go.Sh Go.Sh.Lrv Go.Proofs.Ytjfookddoaemfaa.Lv
set_option maxRecDepth 100000
def P10_2 (t4 : Value) (v_c : Value) (v_lsn_1 : Value) (v_was : Value) (w_38 : World) (Q : Value → World → Prop) : Prop :=
 jn 1 (fun J_2 => 
   ∃ S_1 : World → Prop, S_1 (World.drew w_38) ∧ 
  pur Try.prog (Instr.fieldAt 30 t4 0) fun t49 => 
   hld Try.prog S_1 (Instr.loadAt 3 t49) fun t50 => 
   hld Try.prog S_1 (Instr.loadAt 30 t4) fun t51 => 
   (callS Try.prog 20 #[v_c] (fun t48 w_39 => S_1 w_39 ∧ 
   (callS Try.prog 24 #[t51] (fun t52 w_40 => S_1 w_40 ∧ 
   pur Try.prog (Instr.build 49 #[(0, t52), (1, (.bool true)), (2, v_lsn_1)]) fun t54 => 
   (callS Try.prog 23 #[t48, t50, t54] (fun t55 w_41 => S_1 w_41 ∧ 
   pur Try.prog (Instr.extract t55 0) fun _ => 
   pur Try.prog (Instr.extract t55 1) fun t57 => 
   pur Try.prog (Instr.extract t55 2) fun _ => 
   pur Try.prog (Instr.extract t55 3) fun t59 => 
   act Try.prog (Instr.alloc 49 true (.tuple #[])) (fun t10 w_42 => S_1 w_42 ∧ 
   act Try.prog (thenU (Instr.storeAt 49 t10 t57)) (fun _ w_43 => S_1 w_43 ∧ 
   J_2 t59 w_43) w_42) w_41) w_40
   ) ∧ (act Try.prog (Instr.alloc 49 true (.tuple #[])) (fun t10_1 w_44 => S_1 w_44 ∧ 
   callS Try.prog 23 #[t48, t50, t54] (fun t55_1 w_45 => S_1 w_45 ∧ 
   pur Try.prog (Instr.extract t55_1 0) fun _ => 
   pur Try.prog (Instr.extract t55_1 1) fun t57_1 => 
   pur Try.prog (Instr.extract t55_1 2) fun _ => 
   pur Try.prog (Instr.extract t55_1 3) fun t59_1 => 
   act Try.prog (thenU (Instr.storeAt 49 t10_1 t57_1)) (fun _ w_46 => S_1 w_46 ∧ 
   J_2 t59_1 w_46) w_45) w_44) w_40)) w_39
   ) ∧ (act Try.prog (Instr.alloc 49 true (.tuple #[])) (fun t10_2 w_47 => S_1 w_47 ∧ 
   callS Try.prog 24 #[t51] (fun t52_1 w_48 => S_1 w_48 ∧ 
   pur Try.prog (Instr.build 49 #[(0, t52_1), (1, (.bool true)), (2, v_lsn_1)]) fun t54_1 => 
   callS Try.prog 23 #[t48, t50, t54_1] (fun t55_2 w_49 => S_1 w_49 ∧ 
   pur Try.prog (Instr.extract t55_2 0) fun _ => 
   pur Try.prog (Instr.extract t55_2 1) fun t57_2 => 
   pur Try.prog (Instr.extract t55_2 2) fun _ => 
   pur Try.prog (Instr.extract t55_2 3) fun t59_2 => 
   act Try.prog (thenU (Instr.storeAt 49 t10_2 t57_2)) (fun _ w_50 => S_1 w_50 ∧ 
   J_2 t59_2 w_50) w_49) w_48) w_47) w_39)) (World.drew w_38)
   ) ∧ (act Try.prog (Instr.alloc 49 true (.tuple #[])) (fun t10_3 w_51 => S_1 w_51 ∧ 
   callS Try.prog 20 #[v_c] (fun t48_1 w_52 => S_1 w_52 ∧ 
   callS Try.prog 24 #[t51] (fun t52_2 w_53 => S_1 w_53 ∧ 
   pur Try.prog (Instr.build 49 #[(0, t52_2), (1, (.bool true)), (2, v_lsn_1)]) fun t54_2 => 
   callS Try.prog 23 #[t48_1, t50, t54_2] (fun t55_3 w_54 => S_1 w_54 ∧ 
   pur Try.prog (Instr.extract t55_3 0) fun _ => 
   pur Try.prog (Instr.extract t55_3 1) fun t57_3 => 
   pur Try.prog (Instr.extract t55_3 2) fun _ => 
   pur Try.prog (Instr.extract t55_3 3) fun t59_3 => 
   act Try.prog (thenU (Instr.storeAt 49 t10_3 t57_3)) (fun _ w_55 => S_1 w_55 ∧ 
   J_2 t59_3 w_55) w_54) w_53) w_52) w_51) (World.drew w_38)))
  (fun v_done w_56 => ∀ _j : Fr, 
   pur Try.prog (Op.unary .not v_done) fun t61 => 
  condS t61
   (Q (.int .i64 10) w_56)
   (jn 0 (fun J_3 => 
   pur Try.prog (Instr.fieldAt 49 v_was 1) fun t62 => 
   rd Try.prog (Instr.loadAt 4 t62) (fun t63 => 
   pur Try.prog (Op.unary .not t63) fun t64 => 
   condS t64
    (∃ S_2 : World → Prop, S_2 (World.drew w_56) ∧ 
    callS Try.prog 20 #[v_c] (fun t66 w_57 => S_2 w_57 ∧ 
    pur Try.prog (Instr.fieldAt 30 t4 0) fun t67 => 
    hld Try.prog S_2 (Instr.loadAt 3 t67) fun t68 => 
    callS Try.prog 25 #[t66, t68] (fun _ w_58 => S_2 w_58 ∧ 
    J_3  w_58) w_57) (World.drew w_56))
    (J_3  w_56)) w_56)
  (fun  w_59 => ∀ _j : Fr, 
   Q (.int .i64 0) w_59)))
def P10_1 (t4 : Value) (v_c : Value) (v_is : Value) (v_lsn : Value) (v_was : Value) (w_13 : World) (Q : Value → World → Prop) : Prop :=
 callS Try.prog 20 #[v_c] (fun t22 w_14 => 
 callS Try.prog 21 #[t22] (fun t23 w_15 => 
 pur Try.prog (binS .eql 3 false true t23 (.int .i64 0)) fun t24 => 
 gd t24 false (fun k w_16 => k v_lsn w_16) (fun t26_1 w_17 => 
 gd t24 false (fun k_1 w_18 => pur Try.prog (binS .eql 28 false true t26_1 (.int .u64 0)) fun t27 => k_1 t27 w_18) (fun t27_1 w_19 => 
 pur Try.prog (pickS t24 (.bool true) t27_1) fun t28 => 
 gd t28 false (fun k_2 w_20 => k_2 v_is w_20) (fun t30_1 w_21 => 
 gd t28 false (fun k_3 w_22 => k_3 t30_1 w_22) (fun t31_1 w_23 => 
 gd t31_1 true (fun k_4 w_24 => pur Try.prog (Instr.fieldAt 30 t4 1) fun t32 => k_4 t32 w_24) (fun t32_1 w_25 => 
 gd t31_1 true (fun k_5 w_26 => rd Try.prog (Instr.loadAt 28 t32_1) (fun t33 => k_5 t33 w_26) w_26) (fun t33_1 w_27 => 
 gd t31_1 true (fun k_6 w_28 => pur Try.prog (Instr.fieldAt 49 v_was 0) fun t34 => k_6 t34 w_28) (fun t34_1 w_29 => 
 gd t31_1 true (fun k_7 w_30 => pur Try.prog (Instr.fieldAt 30 t34_1 1) fun t35 => k_7 t35 w_30) (fun t35_1 w_31 => 
 gd t31_1 true (fun k_8 w_32 => rd Try.prog (Instr.loadAt 28 t35_1) (fun t36 => k_8 t36 w_32) w_32) (fun t36_1 w_33 => 
 gd t31_1 true (fun k_9 w_34 => pur Try.prog (binS .leq 28 false false t33_1 t36_1) fun t37 => k_9 t37 w_34) (fun t37_1 w_35 => 
 gd t28 false (fun k_10 w_36 => pur Try.prog (pickS t31_1 t37_1 (.bool false)) fun t38 => k_10 t38 w_36) (fun t38_1 w_37 => 
 pur Try.prog (pickS t28 (.bool true) t38_1) fun t39 => 
 condS t39
  (Q (.int .i64 1) w_37)
  (jn 1 (fun J_1 => 
  pur Try.prog (Instr.fieldAt 49 v_was 1) fun t40 => 
  rd Try.prog (Instr.loadAt 4 t40) (fun t41 => 
  condS t41
   (pur Try.prog (Instr.fieldAt 49 v_was 2) fun t43 => 
   rd Try.prog (Instr.loadAt 28 t43) (fun t44 => 
   pur Try.prog (Builtin.min_ #[28, 28] 28 #[v_lsn, t44]) fun t45 => 
   J_1 t45 w_37) w_37)
   (J_1 v_lsn w_37)) w_37)
 (fun v_lsn_1 w_38 => ∀ _j : Fr, 
  P10_2 t4 v_c v_lsn_1 v_was w_38 Q))) w_35) w_33) w_31) w_29) w_27) w_25) w_23) w_21) w_19) w_17) w_15) w_14) w_13
def P10_0 (v_c v_i v_lsn : Value) (Q : Value → World → Prop) (w : World) : Prop :=
 act Try.prog (Instr.box 30 v_i) (fun t4 w_1 => 
 jn 2 (fun J => 
  ∃ S : World → Prop, S (World.drew w_1) ∧ 
 pur Try.prog (Instr.fieldAt 30 t4 0) fun t16 => 
  hld Try.prog S (Instr.loadAt 3 t16) fun t17 => 
  (callS Try.prog 20 #[v_c] (fun t15 w_2 => S w_2 ∧ 
  (callS Try.prog 22 #[t15, t17] (fun t18 w_3 => S w_3 ∧ 
  pur Try.prog (Instr.extract t18 0) fun t19 => 
  pur Try.prog (Instr.extract t18 1) fun t20 => 
  act Try.prog (Instr.alloc 49 true (.tuple #[])) (fun t7 w_4 => S w_4 ∧ 
  act Try.prog (thenU (Instr.storeAt 49 t7 t19)) (fun _ w_5 => S w_5 ∧ 
  J t7 t20 w_5) w_4) w_3) w_2
  ) ∧ (act Try.prog (Instr.alloc 49 true (.tuple #[])) (fun t7_1 w_6 => S w_6 ∧ 
  callS Try.prog 22 #[t15, t17] (fun t18_1 w_7 => S w_7 ∧ 
  pur Try.prog (Instr.extract t18_1 0) fun t19_1 => 
  pur Try.prog (Instr.extract t18_1 1) fun t20_1 => 
  act Try.prog (thenU (Instr.storeAt 49 t7_1 t19_1)) (fun _ w_8 => S w_8 ∧ 
  J t7_1 t20_1 w_8) w_7) w_6) w_2)) (World.drew w_1)
  ) ∧ (act Try.prog (Instr.alloc 49 true (.tuple #[])) (fun t7_2 w_9 => S w_9 ∧ 
  callS Try.prog 20 #[v_c] (fun t15_1 w_10 => S w_10 ∧ 
  callS Try.prog 22 #[t15_1, t17] (fun t18_2 w_11 => S w_11 ∧ 
  pur Try.prog (Instr.extract t18_2 0) fun t19_2 => 
  pur Try.prog (Instr.extract t18_2 1) fun t20_2 => 
  act Try.prog (thenU (Instr.storeAt 49 t7_2 t19_2)) (fun _ w_12 => S w_12 ∧ 
  J t7_2 t20_2 w_12) w_11) w_10) w_9) (World.drew w_1)))
 (fun v_was v_is w_13 => ∀ _j : Fr, 
  P10_1 t4 v_c v_is v_lsn v_was w_13 Q)) w
theorem cut10 (v_c v_i v_lsn : Value) (Q : Value → World → Prop) (w : World) : S10 v_c v_i v_lsn Q w = P10_0 v_c v_i v_lsn Q w := rfl
-- P10_1 t4 v_c v_is v_lsn v_was w_13 Q
-- P10_2 t4 v_c v_lsn_1 v_was w_38 Q
/-- What Change does to the entries. -/
def ChangeR (room : Nat) (es : List En) (b v : Int) (s : ByteArray) (lsn : Int) (es' : List En) (code : Int) : Prop :=
  (code = 1 ∧ es' = es ∧ (lsn = 0 ∨ ∃ x ∈ es, x.1 = b ∧ v ≤ x.2.1))
  ∨ (code = 10 ∧ es' = es ∧ lsn ≠ 0 ∧ (∀ x ∈ es, x.1 ≠ b) ∧ room ≤ es.length ∧ ∀ x ∈ es, x.2.2.2.1 = true)
  ∨ (code = 0 ∧ lsn ≠ 0 ∧ ((∃ x r, es.Perm (x :: r) ∧ x.1 = b ∧ x.2.1 < v ∧ es' = (b, v, s, true, if x.2.2.2.1 = true then min lsn x.2.2.2.2 else lsn) :: r)
    ∨ ((∀ x ∈ es, x.1 ≠ b) ∧ es.length < room ∧ es' = (b, v, s, true, lsn) :: es)
    ∨ ((∀ x ∈ es, x.1 ≠ b) ∧ room ≤ es.length ∧ ∃ x r, es.Perm (x :: r) ∧ x.2.2.2.1 = false ∧ es' = (b, v, s, true, lsn) :: r)))
section
variable {w w' : World} {Q : Value → World → Prop} {c lc room : Nat} {es : List En} {ps : List (En × Nat)} {F : Nat → Prop}
/-- Put and Pin. -/
theorem change2 {t g : Nat} {pe : En} {is : Bool} {b v lsn : Int} {s : ByteArray} (hc : cel w c 0 = some (.pointer (some ⟨lc, 0, none⟩))) (hFc : ¬ F c) (h : GS w lc room (pins es) F) (hrm : 0 < room) (hlt : ∀ b, F b → b < siz w) (hb1 : blk w t = some (imgC b v s)) (hFt : ¬ F t) (hFg : ¬ F g) (hs : s.size ≤ 1000000)
    (hen : EnAt w g 0 pe) (hpe : is = true ∧ pe ∈ es ∧ pe.1 = b ∨ is = false ∧ pe = e0 ∧ ∀ x ∈ es, x.1 ≠ b)
    (hq10 : ∀ w' F', LS w' lc room es F' → St F F' w w' → is = false → room ≤ es.length → (∀ x ∈ es, x.2.2.2.1 = true) → Q (.int .i64 10) w')
    (hq0 : ∀ w' F' es', LS w' lc room es' F' → St F F' w w' → (is = true ∧ (∃ r, es.Perm (pe :: r) ∧ es' = (b, v, s, true, lsn) :: r) ∨ is = false ∧ (es.length < room ∧ es' = (b, v, s, true, lsn) :: es ∨ room ≤ es.length ∧ ∃ x r, es.Perm (x :: r) ∧ x.2.2.2.1 = false ∧ es' = (b, v, s, true, lsn) :: r)) → Q (.int .i64 0) w') :
    P10_2 (.pointer (some ⟨t, 0, none⟩)) (.pointer (some ⟨c, 0, none⟩)) (.int .u64 lsn) (.pointer (some ⟨g, 0, none⟩)) w Q := by
  unfold P10_2
  refine jn1 (fun x w' => ∃ done F' ps', x = .bool done ∧ GS w' lc room ps' F' ∧ St F F' w w' ∧ Rel room (pins es) (b, v, s, true, lsn) ps' done) (fun J hJ => ?_) ?_
  · exact put_tree (mk := fun t => #[(0, t), (1, .bool true), (2, .int .u64 lsn)]) (e' := (b, v, s, true, lsn)) hc hFc h hrm hlt hb1 hFt hs (fun k => by simp only [stp, Nat.reduceAdd, Int.reduceLT, Int.reduceLE, Int.reduceEq, Int.reduceNe, ne_eq, bne_self_eq_false, beq_self_eq_true]) J fun w' F' ps' done h1 h2 h3 => hJ _ _ ⟨done, F', ps', rfl, h1, h2, h3⟩
  · rintro x w3 ⟨done, F', ps', rfl, h3, s3, r3⟩ _j
    have hc3 : cel w3 c 0 = some (.pointer (some ⟨lc, 0, none⟩)) := s3.keep.cel hc hFc
    have hF'c : ¬ F' c := fun e => (s3.sub _ e).elim hFc (fun h1 => by have := cel_lt' hc; omega)
    have hgw : g < siz w := cel_lt' (hen.cs).1
    have hF'g : ¬ F' g := fun e => (s3.sub _ e).elim hFg (fun h1 => by omega)
    have hb3 := s3.keep.blk hb1 hFt
    have en3 := hen.keep s3.keep hFg
    obtain ⟨_, _, _, c3, _⟩ := en3.cs
    rw [Nat.zero_add] at c3
    rcases r3 with ⟨rfl, rfl, hm, hfull, hall⟩ | ⟨rfl, e, p, r, hp, he, rfl⟩ | ⟨rfl, hm, hlt, rfl⟩ | ⟨rfl, hm, hfull, e, r, hp, rfl⟩
    · rw [pins, List.length_map] at hfull
      simp only [stp, Nat.reduceAdd, Int.reduceLT, Int.reduceLE, Int.reduceEq, Int.reduceNe, ne_eq, bne_self_eq_false, beq_self_eq_true]
      refine hq10 w3 F' h3.ls s3 ?_ hfull fun x hx => pin1 (hall _ (pins_of hx))
      rcases hpe with ⟨_, h1, h2⟩ | ⟨h1, _⟩
      · exact absurd h2 (hm _ (pins_of h1))
      · exact h1
    · -- the block is there
      have hem := pins_mem (hp.mem_iff.2 (List.mem_cons_self ..))
      rcases hpe with ⟨his, h1, h2⟩ | ⟨h1, _, hm⟩
      case inr => exact absurd he (hm _ hem.1)
      obtain ⟨es', hpe2, hes⟩ := pins_inv hp
      cases es' with
      | nil => simp [pins] at hes
      | cons x es' =>
        simp only [pins, List.map_cons, List.cons.injEq, Prod.mk.injEq] at hes
        obtain ⟨⟨rfl, hpx⟩, rfl⟩ := hes
        have hnd : (es.map (·.1)).Nodup := h.ls.nodup
        have hee : pe = e := by
          have h5 := (hpe2.map (·.1)).nodup_iff.1 hnd
          rcases List.mem_cons.1 (hpe2.mem_iff.1 h1) with h | h
          · exact h
          · rw [List.map_cons, List.nodup_cons] at h5
            refine absurd ?_ h5.1
            rw [he, ← h2]
            exact List.mem_map_of_mem (f := (·.1)) h
        subst hee
        cases hd : pe.2.2.2.1
        · have hp0 : p = 0 := by rw [hpx]; unfold pin; rw [hd]; rfl
          subst hp0
          rw [hd] at c3
          simp only [stp, Nat.reduceAdd, Int.reduceLT, Int.reduceLE, Int.reduceEq, Int.reduceNe, ne_eq, bne_self_eq_false, beq_self_eq_true, c3, Option.isSome_some, Option.getD_some]
          refine jn0 (fun w' => GS w' lc room (((b, v, s, true, lsn), 1) :: pins es') F' ∧ Keep F' w3 w') (fun J hJ => ?_) ?_
          · try simp only [stp, Nat.reduceAdd, Int.reduceLT, Int.reduceLE, Int.reduceEq, Int.reduceNe, ne_eq, bne_self_eq_false, beq_self_eq_true, c3, Option.isSome_some, Option.getD_some]
            refine ⟨fun w' => Keep F' w3.drew w', Keep.refl _ _, ?_⟩
            refine all_c (((K0.refl w3).drew).cel hc3 fun e => e) ⟨Keep.refl _ _, ?_⟩
            have hFt' : ¬ F' t := fun e => (s3.sub _ e).elim hFt (fun h1 => by have := blk_lt hb1; omega)
            try simp only [stp, Nat.reduceAdd, Int.reduceLT, Int.reduceLE, Int.reduceEq, Int.reduceNe, ne_eq, bne_self_eq_false, beq_self_eq_true]
            refine hldB (fun w' k => k.blk (((K0.refl w3).drew).blk hb3 fun e => e) hFt') ?_
            refine gPin (e := (b, v, s, true, lsn)) (h3.keep0 (K0.refl w3).drew) (List.Perm.refl _) (by omega) fun w4 h4 k4 => ⟨k4, ?_⟩
            exact hJ w4 ⟨h4, ⟨k4.os, k4.tape, k4.output, k4.size, k4.block⟩⟩
          · rintro w4 ⟨h4, k4⟩ _j
            refine hq0 w4 F' ((b, v, s, true, lsn) :: es') h4.ls (s3.trans ⟨k4, fun b hb => .inl hb⟩) (.inl ⟨his, es', hpe2, rfl⟩)
        · have hp1 : p = 1 := by rw [hpx]; unfold pin; rw [hd]; rfl
          subst hp1
          rw [hd] at c3
          simp only [stp, Nat.reduceAdd, Int.reduceLT, Int.reduceLE, Int.reduceEq, Int.reduceNe, ne_eq, bne_self_eq_false, beq_self_eq_true, c3, Option.isSome_some, Option.getD_some]
          refine jn0 (fun w' => w' = w3) (fun J hJ => ?_) ?_
          · try simp only [stp, Nat.reduceAdd, Int.reduceLT, Int.reduceLE, Int.reduceEq, Int.reduceNe, ne_eq, bne_self_eq_false, beq_self_eq_true, c3, Option.isSome_some, Option.getD_some]
            exact hJ w3 rfl
          · rintro w4 rfl _j
            refine hq0 w4 F' ((b, v, s, true, lsn) :: es') h3.ls s3 (.inl ⟨his, es', hpe2, rfl⟩)
    all_goals
      have his : is = false ∧ pe = e0 := by
        rcases hpe with ⟨_, h1, h2⟩ | ⟨h1, h2, _⟩
        · exact absurd h2 (hm _ (pins_of h1))
        · exact ⟨h1, h2⟩
      have hd : pe.2.2.2.1 = false := by rw [his.2]; rfl
      rw [hd] at c3
      have hFt' : ¬ F' t := fun e => (s3.sub _ e).elim hFt (fun h1 => by have := blk_lt hb1; omega)
      simp only [stp, Nat.reduceAdd, Int.reduceLT, Int.reduceLE, Int.reduceEq, Int.reduceNe, ne_eq, bne_self_eq_false, beq_self_eq_true, c3, Option.isSome_some, Option.getD_some]
    · refine jn0 (fun w' => GS w' lc room (((b, v, s, true, lsn), 1) :: pins es) F' ∧ Keep F' w3 w') (fun J hJ => ?_) ?_
      · try simp only [stp, Nat.reduceAdd, Int.reduceLT, Int.reduceLE, Int.reduceEq, Int.reduceNe, ne_eq, bne_self_eq_false, beq_self_eq_true, c3, Option.isSome_some, Option.getD_some]
        refine ⟨fun w' => Keep F' w3.drew w', Keep.refl _ _, ?_⟩
        refine all_c (((K0.refl w3).drew).cel hc3 fun e => e) ⟨Keep.refl _ _, ?_⟩
        try simp only [stp, Nat.reduceAdd, Int.reduceLT, Int.reduceLE, Int.reduceEq, Int.reduceNe, ne_eq, bne_self_eq_false, beq_self_eq_true]
        refine hldB (fun w' k => k.blk (((K0.refl w3).drew).blk hb3 fun e => e) hFt') ?_
        refine gPin (e := (b, v, s, true, lsn)) (h3.keep0 (K0.refl w3).drew) (List.Perm.refl _) (by omega) fun w4 h4 k4 => ⟨k4, ?_⟩
        exact hJ w4 ⟨h4, ⟨k4.os, k4.tape, k4.output, k4.size, k4.block⟩⟩
      · rintro w4 ⟨h4, k4⟩ _j
        rw [pins, List.length_map] at hlt
        exact hq0 w4 F' ((b, v, s, true, lsn) :: es) h4.ls (s3.trans ⟨k4, fun b hb => .inl hb⟩) (.inr ⟨his.1, .inl ⟨hlt, rfl⟩⟩)
    · obtain ⟨es', hpe2, hes⟩ := pins_inv hp
      cases es' with
      | nil => simp [pins] at hes
      | cons x es' =>
        simp only [pins, List.map_cons, List.cons.injEq, Prod.mk.injEq] at hes
        obtain ⟨⟨rfl, hpx⟩, rfl⟩ := hes
        refine jn0 (fun w' => GS w' lc room (((b, v, s, true, lsn), 1) :: pins es') F' ∧ Keep F' w3 w') (fun J hJ => ?_) ?_
        · try simp only [stp, Nat.reduceAdd, Int.reduceLT, Int.reduceLE, Int.reduceEq, Int.reduceNe, ne_eq, bne_self_eq_false, beq_self_eq_true, c3, Option.isSome_some, Option.getD_some]
          refine ⟨fun w' => Keep F' w3.drew w', Keep.refl _ _, ?_⟩
          refine all_c (((K0.refl w3).drew).cel hc3 fun e => e) ⟨Keep.refl _ _, ?_⟩
          try simp only [stp, Nat.reduceAdd, Int.reduceLT, Int.reduceLE, Int.reduceEq, Int.reduceNe, ne_eq, bne_self_eq_false, beq_self_eq_true]
          refine hldB (fun w' k => k.blk (((K0.refl w3).drew).blk hb3 fun e => e) hFt') ?_
          refine gPin (e := (b, v, s, true, lsn)) (h3.keep0 (K0.refl w3).drew) (List.Perm.refl _) (by omega) fun w4 h4 k4 => ⟨k4, ?_⟩
          exact hJ w4 ⟨h4, ⟨k4.os, k4.tape, k4.output, k4.size, k4.block⟩⟩
        · rintro w4 ⟨h4, k4⟩ _j
          rw [pins, List.length_map] at hfull
          exact hq0 w4 F' ((b, v, s, true, lsn) :: es') h4.ls (s3.trans ⟨k4, fun b hb => .inl hb⟩) (.inr ⟨his.1, .inr ⟨hfull, e, es', hpe2, pin0 hpx.symm, rfl⟩⟩)
end
end Go.Proofs.Ytjfookddoaemfaa
