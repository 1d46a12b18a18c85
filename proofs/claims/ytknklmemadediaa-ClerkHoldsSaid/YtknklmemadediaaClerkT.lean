/- What ClerkHolds computes: true. Conditions: none. -/
import Derived.Test.YtknklmemadediaaClerkS
set_option linter.unusedSimpArgs false
set_option linter.unusedVariables false
namespace Go.Proofs.Ytknklmemadediaa
open Go.Sh Go.Proofs.Ytknklmemadediaa.Mi
set_option maxRecDepth 100000
def P6_4 (J : Cur 3) (t23 : Value) (v_i : Value) (v_id_2 : Value) (v_used_1 : Value) (w_47 : World) (Q : Value → World → Prop) : Prop :=
 callS Try.prog 16 #[t23, v_used_1] (fun t138 w_48 => 
   pur Try.prog (Op.unary .not t138) fun t139 => 
   condS t139
    (Q (.bool false) w_48)
    (callS Try.prog 19 #[t23] (fun t141 w_49 => 
   lp 1 (fun J_5 => fun v_k_2 w_50 => ∀ _j : Fr, 
    pur Try.prog (Builtin.len_ #[27] 3 #[t141]) fun t144 => 
    pur Try.prog (binS .lss 3 false false v_k_2 t144) fun t145 => 
    condS t145
     (pur Try.prog (Instr.indexAt 27 t141 v_k_2) fun t151 => 
    pur Try.prog (Instr.fieldAt 25 t151 0) fun t152 => 
    rd Try.prog (Instr.loadAt 23 t152) (fun t153 => 
    pur Try.prog (Instr.indexAt 27 t141 v_k_2) fun t156 => 
    pur Try.prog (Instr.fieldAt 25 t156 1) fun t157 => 
    rd Try.prog (Instr.loadAt 3 t157) (fun t158 => 
    pur Try.prog (binS .add 3 false true t158 (.int .i64 1)) fun t159 => 
    pur Try.prog (Instr.build 25 #[(0, t153), (1, t159)]) fun t160 => 
    act Try.prog (Instr.buildSlice 27 1 #[(0, t160)]) (fun t161 w_51 => 
    callS Try.prog 16 #[t23, t161] (fun t162 w_52 => 
    pur Try.prog (Op.unary .not t162) fun t163 => 
    condS t163
     (Q (.bool false) w_52)
     (pur Try.prog (binS .add 3 false true v_k_2 (.int .i64 1)) fun t147 => 
    J_5 t147 w_52)) w_51) (World.drew w_50)) (World.drew w_50)) (World.drew w_50))
     (pur Try.prog (binS .add 3 false true v_i (.int .i64 1)) fun t36 => 
  J v_used_1 v_id_2 t36 w_50)) [(.int .i64 0)] w_49) w_48)) w_47
def P6_3 (J : Cur 3) (t23 : Value) (t9 : Value) (v_i : Value) (v_id : Value) (v_used : Value) (w_25 : World) (Q : Value → World → Prop) : Prop :=
 jn 2 (fun J_1 => 
   pur Try.prog (Instr.fieldAt 56 t9 0) fun t52 => 
   rd Try.prog (Instr.loadAt 3 t52) (fun t53 => 
   pur Try.prog (binS .eql 3 false true t53 (.int .i64 2)) fun t55 => 
   condS t55
    (pur Try.prog (Instr.fieldAt 56 t9 3) fun t58 => 
    rd Try.prog (Instr.loadAt 27 t58) (fun t59 => 
    callS Try.prog 13 #[t23, t59] (fun t60 w_26 => 
    pur Try.prog (Instr.extract t60 0) fun t61 => 
    pur Try.prog (Instr.extract t60 1) fun _ => 
    lp 2 (fun J_2 => fun v_id_1 v_k w_27 => ∀ _j : Fr, 
     pur Try.prog (Builtin.len_ #[33] 3 #[t61]) fun t65 => 
     pur Try.prog (binS .lss 3 false false v_k t65) fun t66 => 
     condS t66
      (pur Try.prog (Instr.indexAt 33 t61 v_k) fun t71 => 
     pur Try.prog (Instr.fieldAt 39 t71 1) fun t72 => 
     rd Try.prog (Instr.loadAt 3 t72) (fun t73 => 
     pur Try.prog (binS .add 3 false true v_k (.int .i64 1)) fun t68 => 
     J_2 t73 t68 w_27) w_27)
      (J_1 v_used v_id_1 w_27)) [v_id, (.int .i64 0)] w_26) w_25) w_25)
    (pur Try.prog (binS .eql 3 false true t53 (.int .i64 3)) fun t75 => 
    condS t75
     (pur Try.prog (Instr.fieldAt 56 t9 4) fun t76 => 
     rd Try.prog (Instr.loadAt 39 t76) (fun t77 => 
     act Try.prog (Instr.alloc 39 true (.tuple #[])) (fun t13 w_28 => 
     act Try.prog (thenU (Instr.storeAt 39 t13 t77)) (fun _ w_29 => 
     pur Try.prog (Instr.fieldAt 39 t13 5) fun t79 => 
     act Try.prog (thenU (Instr.storeAt 32 t79 (.int .u64 1))) (fun _ w_30 => 
     pur Try.prog (Instr.fieldAt 39 t13 3) fun t80 => 
     act Try.prog (thenU (Instr.storeAt 3 t80 (.int .i64 1))) (fun _ w_31 => 
     pur Try.prog (Instr.fieldAt 39 t13 1) fun t81 => 
     act Try.prog (thenU (Instr.storeAt 3 t81 v_id)) (fun _ w_32 => 
     rd Try.prog (Instr.loadAt 39 t13) (fun t83 => 
     callS Try.prog 15 #[t23, t83] (fun _ w_33 => 
     J_1 v_used v_id w_33) w_32) w_32) w_31) w_30) w_29) w_28) w_25) w_25)
     (pur Try.prog (binS .eql 3 false true t53 (.int .i64 4)) fun t86 => 
     condS t86
      (pur Try.prog (Instr.fieldAt 56 t9 3) fun t88 => 
      rd Try.prog (Instr.loadAt 27 t88) (fun t89 => 
      callS Try.prog 25 #[t23, t89] (fun t90 w_34 => 
      condS t90
       (pur Try.prog (Instr.fieldAt 56 t9 3) fun t92 => 
       rd Try.prog (Instr.loadAt 27 t92) (fun t93 => 
       act Try.prog (Builtin.append_ #[27, 27] 27 #[v_used, t93]) (fun t94 w_35 => 
       J_1 t94 v_id w_35) w_34) w_34)
       (J_1 v_used v_id w_34)) w_25) w_25)
      (pur Try.prog (binS .eql 3 false true t53 (.int .i64 5)) fun t96 => 
      condS t96
       (callS Try.prog 21 #[t23] (fun _ w_36 => 
       J_1 (.slice none 0 0) v_id w_36) w_25)
       (jn 1 (fun J_3 => 
        pur Try.prog (binS .eql 3 false true t53 (.int .i64 8)) fun t100 => 
        condS t100
         (J_3 t100 w_25)
         (pur Try.prog (binS .eql 3 false true t53 (.int .i64 6)) fun t101 => 
         J_3 t101 w_25))
       (fun t99 w_37 => ∀ _j : Fr, 
        condS t99
         (callS Try.prog 19 #[t23] (fun t105 w_38 => 
         callS Try.prog 22 #[t23, t105] (fun t106 w_39 => 
         pur Try.prog (Instr.extract t106 0) fun t107 => 
         pur Try.prog (Instr.extract t106 1) fun t108 => 
         act Try.prog (Instr.alloc 39 true (.tuple #[])) (fun t14 w_40 => 
         act Try.prog (thenU (Instr.storeAt 39 t14 t107)) (fun _ w_41 => 
         lp 1 (fun J_4 => fun v_k_1 w_42 => ∀ _j : Fr, 
          pur Try.prog (Instr.fieldAt 39 t14 7) fun t110 => 
          rd Try.prog (Instr.loadAt 27 t110) (fun t111 => 
          pur Try.prog (Builtin.len_ #[27] 3 #[t111]) fun t112 => 
          pur Try.prog (binS .lss 3 false false v_k_1 t112) fun t113 => 
          gd t113 true (fun k_8 w_43 => k_8 t108 w_43) (fun t115_1 w_44 => 
          pur Try.prog (pickS t113 t115_1 (.bool false)) fun t116 => 
          condS t116
           (pur Try.prog (Instr.fieldAt 39 t14 7) fun t120 => 
          rd Try.prog (Instr.loadAt 27 t120) (fun t121 => 
          pur Try.prog (Instr.indexAt 27 t121 v_k_1) fun t123 => 
          pur Try.prog (Instr.fieldAt 25 t123 0) fun t124 => 
          rd Try.prog (Instr.loadAt 23 t124) (fun t125 => 
          pur Try.prog (Instr.fieldAt 39 t14 7) fun t126 => 
          rd Try.prog (Instr.loadAt 27 t126) (fun t127 => 
          pur Try.prog (Instr.indexAt 27 t127 v_k_1) fun t129 => 
          pur Try.prog (Instr.fieldAt 25 t129 1) fun t130 => 
          rd Try.prog (Instr.loadAt 3 t130) (fun t131 => 
          pur Try.prog (binS .add 3 false true t131 (.int .i64 1)) fun t132 => 
          pur Try.prog (Instr.build 25 #[(0, t125), (1, t132)]) fun t133 => 
          act Try.prog (Instr.buildSlice 27 1 #[(0, t133)]) (fun t134 w_45 => 
          callS Try.prog 16 #[t23, t134] (fun t135 w_46 => 
          condS t135
           (Q (.bool false) w_46)
           (pur Try.prog (binS .add 3 false true v_k_1 (.int .i64 1)) fun t118 => 
          J_4 t118 w_46)) w_45) (World.drew w_44)) (World.drew w_44)) (World.drew w_44)) (World.drew w_44)) (World.drew w_44))
           (J_1 v_used v_id w_44)) w_42) w_42) [(.int .i64 0)] w_41) w_40) w_39) w_38) w_37)
         (J_1 v_used v_id w_37))))))) w_25)
  (fun v_used_1 v_id_2 w_47 => ∀ _j : Fr, 
   P6_4 J t23 v_i v_id_2 v_used_1 w_47 Q)
def P6_2 (J : Cur 3) (t23 : Value) (v_block : Value) (v_i : Value) (v_id : Value) (v_l : Value) (v_used : Value) (w_11 : World) (Q : Value → World → Prop) : Prop :=
 pur Try.prog (Builtin.len_ #[53] 3 #[v_l]) fun t33 => 
  pur Try.prog (binS .lss 3 false false v_i t33) fun t34 => 
  condS t34
   (pur Try.prog (Instr.indexAt 53 v_l v_i) fun t39 => 
  rd Try.prog (Instr.loadAt 56 t39) (fun t40 => 
  act Try.prog (Instr.alloc 56 true (.tuple #[])) (fun t9 w_12 => 
  act Try.prog (thenU (Instr.storeAt 56 t9 t40)) (fun _ w_13 => 
  pur Try.prog (Instr.fieldAt 56 t9 3) fun t41 => 
  rd Try.prog (Instr.loadAt 27 t41) (fun t42 => 
  callS Try.prog 9 #[t42] (fun t43 w_14 => 
  pur Try.prog (Op.unary .not t43) fun t44 => 
  gd t44 false (fun k_3 w_15 => pur Try.prog (Instr.fieldAt 56 t9 4) fun t46 => k_3 t46 w_15) (fun t46_1 w_16 => 
  gd t44 false (fun k_4 w_17 => pur Try.prog (Instr.fieldAt 39 t46_1 7) fun t47 => k_4 t47 w_17) (fun t47_1 w_18 => 
  gd t44 false (fun k_5 w_19 => rd Try.prog (Instr.loadAt 27 t47_1) (fun t48 => k_5 t48 w_19) w_19) (fun t48_1 w_20 => 
  gd t44 false (fun k_6 w_21 => callS Try.prog 9 #[t48_1] (fun t49 w_22 => k_6 t49 w_22) w_21) (fun t49_1 w_23 => 
  gd t44 false (fun k_7 w_24 => pur Try.prog (Op.unary .not t49_1) fun t50 => k_7 t50 w_24) (fun t50_1 w_25 => 
  pur Try.prog (pickS t44 (.bool true) t50_1) fun t51 => 
  condS t51
   (Q (.bool true) w_25)
   (P6_3 J t23 t9 v_i v_id v_used w_25 Q)) w_23) w_20) w_18) w_16) w_14) w_13) w_13) w_12) w_11) w_11)
   (callS Try.prog 10 #[] (fun t164 w_53 => 
 gd t164 true (fun k_9 w_54 => k_9 v_block w_54) (fun t166_1 w_55 => 
 gd t164 true (fun k_10 w_56 => pur Try.prog (binS .lss 3 false true t166_1 (.int .i64 0)) fun t167 => k_10 t167 w_56) (fun t167_1 w_57 => 
 gd t164 true (fun k_11 w_58 => k_11 t167_1 w_58) (fun t168_1 w_59 => 
 gd t168_1 false (fun k_12 w_60 => k_12 t23 w_60) (fun t169_1 w_61 => 
 gd t168_1 false (fun k_13 w_62 => callS Try.prog 20 #[t169_1] (fun t170 w_63 => k_13 t170 w_63) w_62) (fun t170_1 w_64 => 
 gd t168_1 false (fun k_14 w_65 => pur Try.prog (Builtin.len_ #[27] 3 #[t170_1]) fun t171 => k_14 t171 w_65) (fun t171_1 w_66 => 
 gd t168_1 false (fun k_15 w_67 => pur Try.prog (binS .leq 3 false true t171_1 (.int .i64 5000)) fun t172 => k_15 t172 w_67) (fun t172_1 w_68 => 
 gd t164 true (fun k_16 w_69 => pur Try.prog (pickS t168_1 (.bool true) t172_1) fun t173 => k_16 t173 w_69) (fun t173_1 w_70 => 
 pur Try.prog (pickS t164 t173_1 (.bool false)) fun t174 => 
 Q t174 w_70) w_68) w_66) w_64) w_61) w_59) w_57) w_55) w_53) w_11)
def P6_1 (v_block : Value) (v_l : Value) (w_1 : World) (Q : Value → World → Prop) : Prop :=
 callS Try.prog 11 #[(.int .i64 1)] (fun t23 w_3 => 
 rd Try.prog (binS .eql 29 false true t23 (.pointer none)) (fun t25 => 
 gd t25 false (fun k w_4 => k t23 w_4) (fun t27_1 w_5 => 
 gd t25 false (fun k_1 w_6 => callS Try.prog 12 #[t27_1, (.int .u64 1), (.int .i64 1)] (fun t28 w_7 => k_1 t28 w_7) w_6) (fun t28_1 w_8 => 
 gd t25 false (fun k_2 w_9 => pur Try.prog (Op.unary .not t28_1) fun t29 => k_2 t29 w_9) (fun t29_1 w_10 => 
 pur Try.prog (pickS t25 (.bool true) t29_1) fun t30 => 
 condS t30
  (Q (.bool false) w_10)
  (lp 3 (fun J => fun v_used v_id v_i w_11 => ∀ _j : Fr, 
  P6_2 J t23 v_block v_i v_id v_l v_used w_11 Q) [(.slice none 0 0), (.int .i64 0), (.int .i64 0)] w_10)) w_8) w_5) w_3) w_3) w_1
def P6_0 (v_l v_block : Value) (Q : Value → World → Prop) (w : World) : Prop :=
 callS Try.prog 24 #[v_l] (fun t20 w_1 => 
 pur Try.prog (Op.unary .not t20) fun t21 => 
 condS t21
  (callS Try.prog 10 #[] (fun t22 w_2 => 
  Q t22 w_2) w_1)
  (P6_1 v_block v_l w_1 Q)) w
theorem cut6 (v_l v_block : Value) (Q : Value → World → Prop) (w : World) : S6 v_l v_block Q w = P6_0 v_l v_block Q w := rfl
-- P6_1 v_block v_l w_1 Q
-- P6_2 J t23 v_block v_i v_id v_l v_used w_11 Q
-- P6_3 J t23 t9 v_i v_id v_used w_25 Q
-- P6_4 J t23 v_i v_id_2 v_used_1 w_47 Q
section
variable {w w' : World} {Q : Value → World → Prop} {B c : Nat} {s : CS}
/-- Ahead of the i-th call. -/
def LI (w0 w : World) (B c i : Nat) (x y : Value) : Prop := ∃ (s : CS) (U : List I3) (n : Int), CL w B c s ∧ s.av = x.ownBlock ∧ HI s U ∧ s.epoch = 1 ∧ s.gen = 1 ∧ s.id ≤ i ∧ s.grants ≤ i ∧ U.length ≤ 20 * i ∧ Own w B 25 3 x U.length (flat enc3 U) ∧ y = .int .i64 n ∧ Keep (fun b => B ≤ b) w0 w ∧ B ≤ siz w
theorem LI.ko {w0 : World} {i j : Nat} {x y : Value} (h : LI w0 w B c i x y) (k : K0 w w') (hij : i ≤ j) : LI w0 w' B c j x y := by
  obtain ⟨s, U, n, h1, h2, h3, h4, h5, h6, h7, h8, h9, h10, h11, h12⟩ := h
  exact ⟨s, U, n, h1.keep0 k, h2, h3, h4, h5, by omega, by omega, by omega, h9.keep k fun _ _ e => e, h10, h11.trans k.none, Nat.le_trans h12 k.size⟩
theorem holds4 {w0 : World} {i : Nat} {x y : Value} {J : Cur 3} (h : LI w0 w B c (i + 1) x y) (hi : i < 100) (hJ : ∀ x y w', LI w0 w' B c (i + 1) x y → J x y (.int .i64 (IntKind.i64.wrap ((i : Int) + 1))) w') :
    P6_4 J (.pointer (some ⟨c, 0, none⟩)) (.int .i64 (i : Int)) y x w Q := by
  unfold P6_4
  have hLI := h
  obtain ⟨s, U, n, hcl, hav, hI, he, hg, hid, hgr, hU, hown, rfl, hk, hB⟩ := h
  refine chas_c hcl hown.rd (by omega) fun w3 r hr k3 => ?_
  have hr : r = true := hr.2 hI.c
  subst hr
  simp only [stp, Nat.reduceAdd, Int.reduceLT, Int.reduceLE, Int.reduceEq, Int.reduceNe, ne_eq, bne_self_eq_false, beq_self_eq_true]
  refine cowed_c (hcl.keep0 k3) fun w4 v4 e4 l4 hc4 hd4 hv4 o4 k4 => ?_
  have hl4 := canon_len (n := 4096) hc4 hd4
  have kk4 := k3.trans k4
  obtain ⟨p4, c4, rfl⟩ := o4.form
  simp only [stp, Nat.reduceAdd, Int.reduceLT, Int.reduceLE, Int.reduceEq, Int.reduceNe, ne_eq, bne_self_eq_false, beq_self_eq_true]
  refine lpc1 (asLocks l4).length (by rw [asLocks_len]; omega) (fun k w' => K0 w4 w') (K0.refl _) ?_ ?_
  · rintro k w5 hlt k5 J' hJ' _j
    have hlt4 : k < l4.length := by rwa [asLocks_len] at hlt
    have hlt' : ((k : Int) < ((asLocks l4).length : Int)) := by omega
    obtain ⟨b, o, rfl, p0, p1, p2⟩ := lkp_at (o4.rd.keep0 k5) hlt4
    obtain ⟨⟨q0, q1⟩, q2⟩ := owed_held hI hc4 hv4 hlt4
    have hw : IntKind.i64.wrap (l4[k].2 + 1) = l4[k].2 + 1 := wrap_id (by omega) (by omega)
    simp only [stp, Nat.reduceAdd, Int.reduceLT, Int.reduceLE, Int.reduceEq, Int.reduceNe, ne_eq, bne_self_eq_false, beq_self_eq_true, hlt']
    rw [ix_27 hlt]
    simp only [stp, Nat.reduceAdd, Int.reduceLT, Int.reduceLE, Int.reduceEq, Int.reduceNe, ne_eq, bne_self_eq_false, beq_self_eq_true, stm, p0, p1]
    rw [ix_27 hlt]
    simp only [stp, Nat.reduceAdd, Int.reduceLT, Int.reduceLE, Int.reduceEq, Int.reduceNe, ne_eq, bne_self_eq_false, beq_self_eq_true, stm, p2, hw]
    have k6 : K0 w5 (w5.drew.alloc (.cells #[.int .i64 l4[k].1.1, .int .i64 l4[k].1.2, .int .i64 (l4[k].2 + 1)] 25)) := (K0.refl w5).drew.alloc _
    refine chas_c (L := [(l4[k].1.1, l4[k].1.2, l4[k].2 + 1)]) ((hcl.keep0 (kk4.trans k5)).keep0 k6) (rd_lock1 (w := w5.drew)) (by simp) fun w7 r7 hr7 k7 => ?_
    have hr7 : r7 = true := hr7.2 q2
    subst hr7
    simp only [stp, Nat.reduceAdd, Int.reduceLT, Int.reduceLE, Int.reduceEq, Int.reduceNe, ne_eq, bne_self_eq_false, beq_self_eq_true]
    exact hJ' _ ((k5.trans k6).trans k7)
  · rintro w5 k5 J' _j
    have hn : ¬ (((asLocks l4).length : Int) < ((asLocks l4).length : Int)) := by omega
    simp only [stp, Nat.reduceAdd, Int.reduceLT, Int.reduceLE, Int.reduceEq, Int.reduceNe, ne_eq, bne_self_eq_false, beq_self_eq_true, hn]
    exact hJ _ _ _ (hLI.ko (kk4.trans k5) (Nat.le_refl _))
theorem ctake_n {kind mi node gen stamp epoch err : Int} {lv : Value} (h : CL w B c s) (hep : epoch = s.epoch) (he : s.epoch ≠ 0) (hg : s.gen ≤ gen) (hl1 : Go.Sh.one lv = true)
    (hk : kind ≠ 6 ∧ kind ≠ 8 ∧ kind ≠ 10 ∧ (kind = 7 → s.out = false ∨ mi ≠ s.id)) (hq : ∀ w', K0 w w' → Q (.tuple #[.slice none 0 0, .bool false]) w') :
    callS Try.prog 15 #[.pointer (some ⟨c, 0, none⟩), .agg #[.int .i64 kind, .int .i64 mi, .int .i64 node, .int .i64 gen, .int .i64 stamp, .int .u64 epoch, .int .i64 err, lv]] Q w := by
  subst hep
  exact ctake_no h he hg hl1 hk hq
theorem gone_pos {x : Int} : ∀ (M : List I3) {f : BF}, (∀ k ∈ M, mayL k) → (∀ v, f x = some v → 0 ≤ v) → ∀ v, M.foldl gone1 f x = some v → 0 ≤ v
  | [], f, _, hf, v, hv => hf v hv
  | k :: M, f, hm, hf, v, hv => by
    refine gone_pos M (f := gone1 f k) (fun k' hk' => hm k' (by simp [hk'])) (fun u hu => ?_) v hv
    have hk := (hm k (by simp)).2.2
    unfold isMd at hk
    unfold gone1 at hu
    split at hu
    · injection hu with hu
      cases hx : f x with
      | none => rw [hx] at hu; dsimp only at hu; omega
      | some b => rw [hx] at hu; have := hf b hx; dsimp only at hu; omega
    · exact hf u hu
theorem owe_pos {H lo : BF} {N : List (Pt Int)} {M : List I3} (h : ∀ x v, lo x = some v → 0 ≤ v) (hm : ∀ k ∈ M, mayL k) (e : ∀ x, valB N x = overX (oweX H) lo (goneF M) x) {x v : Int} (hv : valB N x = some v) : 0 ≤ v := by
  rw [e] at hv
  unfold overX at hv
  cases hg : goneF M x with
  | none => rw [hg] at hv; exact h x v hv
  | some g =>
    rw [hg] at hv
    have h0 : 0 ≤ g := gone_pos M (f := fun _ => none) hm (fun v hv => by cases hv) g hg
    dsimp only at hv
    unfold oweX oF at hv
    cases hh : H x with
    | none => rw [hh] at hv; exact h x v hv
    | some b =>
      rw [hh] at hv
      dsimp only at hv
      split at hv
      · injection hv with hv
        cases hl : lo x with
        | none => rw [hl] at hv; dsimp only at hv; omega
        | some u => rw [hl] at hv; have := h x u hl; dsimp only at hv; omega
      · exact h x v hv
theorem holds3 {w0 : World} {i : Nat} {x y : Value} {J : Cur 3} {g : Nat} {kind n1 v1 mkd mi nd gn st ep er : Int} {a1 a2 : Option Addr} {c1 c2 : Nat} {L M : List I3} {ow : Bool}
    (hb : blk w g = some (.cells #[.int .i64 kind, .int .i64 n1, .int .u64 v1, .slice a1 L.length c1, .int .i64 mkd, .int .i64 mi, .int .i64 nd, .int .i64 gn, .int .i64 st, .int .u64 ep, .int .i64 er, .slice a2 M.length c2, .bool ow] 56))
    (r1 : Rd 3 w (.slice a1 L.length c1) L.length (flat enc3 L)) (r1' : 0 < L.length → ∀ u, (Value.slice a1 L.length c1).ownBlock = some u → u < B) (r2 : Rd 3 w (.slice a2 M.length c2) M.length (flat enc3 M)) (r2' : 0 < M.length → ∀ u, (Value.slice a2 M.length c2).ownBlock = some u → u < B)
    (m1 : ∀ k ∈ L, mayL k) (m2 : ∀ k ∈ M, mayL k) (l1 : L.length ≤ 20) (l2 : M.length ≤ 20)
    (h : LI w0 w B c i x y) (hi : i < 100) (hJ : ∀ x y w', LI w0 w' B c (i + 1) x y → J x y (.int .i64 (IntKind.i64.wrap ((i : Int) + 1))) w') :
    P6_3 J (.pointer (some ⟨c, 0, none⟩)) (.pointer (some ⟨g, 0, none⟩)) (.int .i64 (i : Int)) y x w Q := by
  unfold P6_3
  have hLI := h
  obtain ⟨s, U, n, hcl, hav, hI, he, hg, hid, hgr, hU, hown, rfl, hk, hB⟩ := h
  have z : ∀ {o v}, (#[.int .i64 kind, .int .i64 n1, .int .u64 v1, .slice a1 L.length c1, .int .i64 mkd, .int .i64 mi, .int .i64 nd, .int .i64 gn, .int .i64 st, .int .u64 ep, .int .i64 er, .slice a2 M.length c2, .bool ow] : Array Value)[o]? = some v → cel w g o = some v := fun e => by rw [cel_b hb]; exact e
  have hBc : B ≤ c := by obtain ⟨_, _, _, _, h⟩ := hcl; exact h.Bc
  have z0 : cel w g 0 = some (.int .i64 kind) := z rfl
  have z3 : cel w g 3 = some (.slice a1 L.length c1) := z rfl
  have d1 : ∀ k ∈ L, k.2.1 ≤ 4096 := fun k hk' => (m1 k hk').2.1
  have d2 : ∀ k ∈ M, k.2.1 ≤ 4096 := fun k hk' => (m2 k hk').2.1
  have fin : ∀ {s' : CS} {w' : World} (n' : Int), CL w' B c s' → s'.av = s.av → HI s' U → s'.epoch = 1 → s'.gen = 1 → s'.id ≤ s.id + 1 → s'.grants ≤ s.grants + 1 → KO B cp w w' → LI w0 w' B c (i + 1) x (.int .i64 n') := fun {s' w'} n' q1 q2 q3 q4 q5 q6 q7 q8 =>
    ⟨s', U, n', q1, q2.trans hav, q3, q4, q5, by omega, by omega, by omega, q8.own hown fun cs => rfl, rfl, hk.trans (q8.below (Nat.le_refl _)), Nat.le_trans hB q8.size⟩
  refine jn2 (fun x' y' w' => LI w0 w' B c (i + 1) x' y') (fun J1 hJ1 => ?_) fun x' y' w' hI' _j => holds4 hI' hi hJ
  simp only [stp, Nat.reduceAdd, Int.reduceLT, Int.reduceLE, Int.reduceEq, Int.reduceNe, ne_eq, bne_self_eq_false, beq_self_eq_true, stm, z0]
  by_cases k2 : kind = 2
  · simp only [stp, Nat.reduceAdd, Int.reduceLT, Int.reduceLE, Int.reduceEq, Int.reduceNe, ne_eq, bne_self_eq_false, beq_self_eq_true, stm, k2, z3]
    have many : ∀ {w' : World} {v : Value}, (∃ id node gen stamp epoch err : Int, ∃ lv : Value, OneMsg w' v 5 id node gen stamp epoch err lv) → (∀ n', LI w0 w' B c (i + 1) x (.int .i64 n')) → lp 2 (fun J_2 => fun v_id_1 v_k w_27 => ∀ _j : Fr,
     pur Try.prog (Builtin.len_ #[33] 3 #[v]) fun t65 =>
     pur Try.prog (binS .lss 3 false false v_k t65) fun t66 =>
     condS t66
      (pur Try.prog (Instr.indexAt 33 v v_k) fun t71 =>
     pur Try.prog (Instr.fieldAt 39 t71 1) fun t72 =>
     rd Try.prog (Instr.loadAt 3 t72) (fun t73 =>
     pur Try.prog (binS .add 3 false true v_k (.int .i64 1)) fun t68 =>
     J_2 t73 t68 w_27) w_27)
      (J1 x v_id_1 w_27)) [.int .i64 n, .int .i64 0] w' := by
      rintro w' v ⟨id, node, gen, stamp, epoch, err, lv, hm⟩ hl
      obtain ⟨gm, rfl, bm⟩ := hm
      unfold msgC at bm
      obtain ⟨x0, x1, x2, x3, x4, x5, x6, x7⟩ := msg_cells bm
      refine lpc2 1 (by omega) (fun k y' w'' => w'' = w' ∧ ∃ n' : Int, y' = .int .i64 n') ⟨rfl, n, rfl⟩ ?_ ?_
      · rintro k y' w'' hk1 ⟨rfl, n', rfl⟩ J' hJ' _j
        obtain rfl : k = 0 := by omega
        have e0 : ((0 : Nat) : Int) = 0 := rfl
        simp only [stp, Nat.reduceAdd, Int.reduceLT, Int.reduceLE, Int.reduceEq, Int.reduceNe, ne_eq, bne_self_eq_false, beq_self_eq_true, e0, cst1]
        rw [ixm]
        simp only [stp, Nat.reduceAdd, Int.reduceLT, Int.reduceLE, Int.reduceEq, Int.reduceNe, ne_eq, bne_self_eq_false, beq_self_eq_true, stm, x1]
        exact hJ' _ _ ⟨rfl, _, rfl⟩
      · rintro y' w'' ⟨rfl, n', rfl⟩ J' _j
        have e1 : ((1 : Nat) : Int) = 1 := rfl
        simp only [stp, Nat.reduceAdd, Int.reduceLT, Int.reduceLE, Int.reduceEq, Int.reduceNe, ne_eq, bne_self_eq_false, beq_self_eq_true, e1]
        exact hJ1 _ _ _ (hl n')
    have none' : ∀ {w' : World}, LI w0 w' B c (i + 1) x (.int .i64 n) → lp 2 (fun J_2 => fun v_id_1 v_k w_27 => ∀ _j : Fr,
     pur Try.prog (binS .lss 3 false false v_k (.int .i64 ((0 : Nat) : Int))) fun t66 =>
     condS t66
      (pur Try.prog (Instr.indexAt 33 (.slice none 0 0) v_k) fun t71 =>
     pur Try.prog (Instr.fieldAt 39 t71 1) fun t72 =>
     rd Try.prog (Instr.loadAt 3 t72) (fun t73 =>
     pur Try.prog (binS .add 3 false true v_k (.int .i64 1)) fun t68 =>
     J_2 t73 t68 w_27) w_27)
      (J1 x v_id_1 w_27)) [.int .i64 n, .int .i64 0] w' := fun {w'} hl => by
      refine lpc2 0 (by omega) (fun k y' w'' => w'' = w' ∧ y' = .int .i64 n) ⟨rfl, rfl⟩ (fun k y' w'' hk1 => by omega) ?_
      rintro y' w'' ⟨rfl, rfl⟩ J' _j
      have e1 : ((0 : Nat) : Int) = 0 := rfl
      simp only [stp, Nat.reduceAdd, Int.reduceLT, Int.reduceLE, Int.reduceEq, Int.reduceNe, ne_eq, bne_self_eq_false, beq_self_eq_true, e1]
      exact hJ1 _ _ _ hl
    refine cwant_c hcl hB (by omega) (by rw [he]; decide) r1 (by omega) d1 (fun w5 N hcN hmN hvN hall h5 k5 => ?_) (fun w5 N hcN hmN hvN hall ho h5 k5 => ?_) (fun w5 N v lv l' hcN hmN hvN ho hc' hv' hm' hl m5 t5 h5 k5 => ?_)
    · try simp only [stp, Nat.reduceAdd, Int.reduceLT, Int.reduceLE, Int.reduceEq, Int.reduceNe, ne_eq, bne_self_eq_false, beq_self_eq_true]
      exact none' (fin n h5 rfl (hI.same rfl rfl hI.o) he hg (Nat.le_succ _) (Nat.le_succ _) k5)
    · try simp only [stp, Nat.reduceAdd, Int.reduceLT, Int.reduceLE, Int.reduceEq, Int.reduceNe, ne_eq, bne_self_eq_false, beq_self_eq_true]
      exact none' (fin n h5 rfl (hI.same rfl rfl hI.o) he hg (Nat.le_succ _) (Nat.le_succ _) k5)
    · try simp only [stp, Nat.reduceAdd, Int.reduceLT, Int.reduceLE, Int.reduceEq, Int.reduceNe, ne_eq, bne_self_eq_false, beq_self_eq_true]
      exact many ⟨_, _, _, _, _, _, _, m5⟩ fun n' => fin n' h5 rfl (hI.same rfl rfl hI.o) he hg (Nat.le_refl _) (Nat.le_succ _) k5
  by_cases k3 : kind = 3
  · have z4 : cel w g 4 = some (.int .i64 mkd) := z rfl
    have z5 : cel w g 5 = some (.int .i64 mi) := z rfl
    have z6 : cel w g 6 = some (.int .i64 nd) := z rfl
    have z7 : cel w g 7 = some (.int .i64 gn) := z rfl
    have z8 : cel w g 8 = some (.int .i64 st) := z rfl
    have z9 : cel w g 9 = some (.int .u64 ep) := z rfl
    have z10 : cel w g 10 = some (.int .i64 er) := z rfl
    have z11 : cel w g 11 = some (.slice a2 M.length c2) := z rfl
    have n32 : ¬ (3 : Int) = 2 := by omega
    simp only [stp, Nat.reduceAdd, Int.reduceLT, Int.reduceLE, Int.reduceEq, Int.reduceNe, ne_eq, bne_self_eq_false, beq_self_eq_true, stm, k3, n32, z4, z5, z6, z7, z8, z9, z10, z11]
    generalize hw1 : w.alloc (.cells #[.int .i64 mkd, .int .i64 mi, .int .i64 nd, .int .i64 gn, .int .i64 st, .int .u64 ep, .int .i64 er, .slice a2 M.length c2] 39) = w1
    have b1 : blk w1 (siz w) = some (.cells #[.int .i64 mkd, .int .i64 mi, .int .i64 nd, .int .i64 gn, .int .i64 st, .int .u64 ep, .int .i64 er, .slice a2 M.length c2] 39) := by rw [← hw1]; exact blk_alloc_new
    have q1 : K0 w w1 := by rw [← hw1]; exact (K0.refl w).alloc _
    clear hw1
    have b2 : blk (sto w1 (siz w) 5 (.int .u64 1)) (siz w) = some (.cells #[.int .i64 mkd, .int .i64 mi, .int .i64 nd, .int .i64 gn, .int .i64 st, .int .u64 1, .int .i64 er, .slice a2 M.length c2] 39) := by rw [blk_sto b1]; rfl
    have q2 : K0 w (sto w1 (siz w) 5 (.int .u64 1)) := q1.sto (.inr (Nat.le_refl _)) _ _
    generalize sto w1 (siz w) 5 (.int .u64 1) = w2 at b2 q2
    rw [st_3 one_int (by rw [cel_b b2]; rfl) (fre_b b2)]
    have b3 : blk (sto w2 (siz w) 3 (.int .i64 1)) (siz w) = some (.cells #[.int .i64 mkd, .int .i64 mi, .int .i64 nd, .int .i64 1, .int .i64 st, .int .u64 1, .int .i64 er, .slice a2 M.length c2] 39) := by rw [blk_sto b2]; rfl
    have q3 : K0 w (sto w2 (siz w) 3 (.int .i64 1)) := q2.sto (.inr (Nat.le_refl _)) _ _
    generalize sto w2 (siz w) 3 (.int .i64 1) = w3 at b3 q3
    rw [st_3 one_int (by rw [cel_b b3]; rfl) (fre_b b3)]
    have b4 : blk (sto w3 (siz w) 1 (.int .i64 n)) (siz w) = some (.cells #[.int .i64 mkd, .int .i64 n, .int .i64 nd, .int .i64 1, .int .i64 st, .int .u64 1, .int .i64 er, .slice a2 M.length c2] 39) := by rw [blk_sto b3]; rfl
    have q4 : K0 w (sto w3 (siz w) 1 (.int .i64 n)) := q3.sto (.inr (Nat.le_refl _)) _ _
    generalize sto w3 (siz w) 1 (.int .i64 n) = w4 at b4 q4
    obtain ⟨x0, x1, x2, x3, x4, x5, x6, x7⟩ := msg_cells b4
    simp only [stp, Nat.reduceAdd, Int.reduceLT, Int.reduceLE, Int.reduceEq, Int.reduceNe, ne_eq, bne_self_eq_false, beq_self_eq_true, stm, x0, x1, x2, x3, x4, x5, x6, x7]
    have h4 := hcl.keep0 q4
    have hB4 := Nat.le_trans hB q4.size
    have hep : (1 : Int) = s.epoch := he.symm
    have he0 : s.epoch ≠ 0 := by rw [he]; decide
    have r4 : Rd 3 w4 (.slice a2 M.length c2) M.length (flat enc3 M) := r2.keep0 q4
    by_cases t6 : mkd = 6
    · subst t6
      refine ctake_e h4 hep hB4 he0 (by omega) one_slice (.inl ⟨rfl, rfl⟩) fun w5 k5 => ?_
      refine cgrant_w (L := M) (h4.keep0 k5) (Nat.le_trans hB4 k5.size) (by omega) (by omega) one_slice (r4.keep0 k5) (fun g' hg' h0 e => by have := r2' h0 g' hg'; omega) (by omega) d2 (fun hor w6 lh lo e1 e2 h6 k6 => ?_) (fun ho hm w6 lh e1 e2 h6 k6 => ?_) (fun ho hm w6 lh v lv' l' e1 e2 e3 e4 e5 m6 t6 h6 k6 => ?_)
      · refine hJ1 _ _ _ (fin n h6 rfl (hI.raise e1 rfl fun y v hv => ?_) he hg (Nat.le_succ _) (Nat.le_refl _) ((KO.of0 (q4.trans k5)).trans k6))
        have hv : valB lo y = some v := hv
        rw [e2] at hv
        unfold overB zF at hv
        split at hv
        · exact hI.o y v hv
        · injection hv with hv; omega
      · exact hJ1 _ _ _ (fin n h6 rfl (hI.raise e1 rfl hI.o) he hg (Nat.le_succ _) (Nat.le_refl _) ((KO.of0 (q4.trans k5)).trans k6))
      · exact hJ1 _ _ _ (fin n h6 rfl (hI.raise e1 rfl hI.o) he hg (Nat.le_refl _) (Nat.le_refl _) ((KO.of0 (q4.trans k5)).trans k6))
    by_cases t7 : mkd = 7 ∧ s.out = true ∧ n = (s.id : Int)
    · obtain ⟨t7, t8, t9⟩ := t7
      subst t7
      refine ctake_e h4 hep hB4 he0 (by omega) one_slice (.inr (.inl ⟨rfl, rfl, t8, t9⟩)) fun w5 k5 => ?_
      refine cdeny_c (h4.keep0 k5) (Nat.le_trans hB4 k5.size) (by omega) one_slice (fun e1 e2 w6 h6 k6 => ?_) (fun e1 w6 v lv' l' e2 e3 e4 e5 m6 t6 h6 k6 => ?_) (fun e1 w6 h6 k6 => ?_)
      · exact hJ1 _ _ _ (fin n h6 rfl (hI.same rfl rfl hI.o) he hg (Nat.le_succ _) (Nat.le_succ _) ((KO.of0 (q4.trans k5)).trans k6))
      · exact hJ1 _ _ _ (fin n h6 rfl (hI.same rfl rfl hI.o) he hg (Nat.le_refl _) (Nat.le_succ _) ((KO.of0 (q4.trans k5)).trans k6))
      · exact hJ1 _ _ _ (fin n h6 rfl (hI.same rfl rfl hI.o) he hg (Nat.le_succ _) (Nat.le_succ _) ((KO.of0 (q4.trans k5)).trans k6))
    by_cases t8 : mkd = 8
    · subst t8
      refine ctake_e h4 hep hB4 he0 (by omega) one_slice (.inr (.inr (.inl ⟨rfl, rfl⟩))) fun w5 k5 => ?_
      refine crevoke_w (L := M) (h4.keep0 k5) (Nat.le_trans hB4 k5.size) one_slice (r4.keep0 k5) (fun g' hg' h0 => .inl (r2' h0 g' hg')) (by omega) d2 fun w6 v lo e1 h6 k6 => ?_
      exact hJ1 _ _ _ (fin n h6 rfl (hI.same rfl rfl fun y v hv => owe_pos hI.o m2 e1 hv) he hg (Nat.le_succ _) (Nat.le_succ _) ((KO.of0 (q4.trans k5)).trans k6))
    by_cases t10 : mkd = 10
    · subst t10
      refine ctake_e h4 hep hB4 he0 (by omega) one_slice (.inr (.inr (.inr ⟨rfl, rfl⟩))) fun w5 k5 => ?_
      refine creport_c (h4.keep0 k5) (Nat.le_trans hB4 k5.size) (by omega) one_slice fun w6 v s' e1 e2 e3 e4 e5 e6 e7 e8 h6 k6 => ?_
      exact hJ1 _ _ _ (fin n h6 e7 (hI.same e3 e4 (by rw [e8]; intro y v hv; cases hv)) (e1.trans he) e2 e5 (by omega) ((KO.of0 (q4.trans k5)).trans k6))
    · refine ctake_n h4 hep he0 (by omega) one_slice ⟨t6, t8, t10, fun e => ?_⟩ fun w5 k5 => ?_
      · by_cases ho : s.out = true
        · exact .inr fun e' => t7 ⟨e, ho, e'⟩
        · exact .inl (by simpa using ho)
      · exact hJ1 _ _ _ (fin n (h4.keep0 k5) rfl hI he hg (Nat.le_succ _) (Nat.le_succ _) (KO.of0 (q4.trans k5)))
  by_cases k4 : kind = 4
  · have n42 : ¬ (4 : Int) = 2 := by omega
    have n43 : ¬ (4 : Int) = 3 := by omega
    simp only [stp, Nat.reduceAdd, Int.reduceLT, Int.reduceLE, Int.reduceEq, Int.reduceNe, ne_eq, bne_self_eq_false, beq_self_eq_true, stm, k4, n42, n43, z3]
    refine cuse_c hcl r1 (by omega) d1 (fun hno w5 h5 q5 => ?_) (fun hall w5 lu e1 h5 q5 => ?_)
    · simp only [stp, Nat.reduceAdd, Int.reduceLT, Int.reduceLE, Int.reduceEq, Int.reduceNe, ne_eq, bne_self_eq_false, beq_self_eq_true]
      exact hJ1 _ _ _ (fin n h5 rfl hI he hg (Nat.le_succ _) (Nat.le_succ _) q5)
    have z3' : cel w5 g 3 = some (.slice a1 L.length c1) := by rw [cel_b (q5.blk hb rfl)]; rfl
    have o5 : Own w5 B 25 3 x U.length (flat enc3 U) := q5.own hown fun cs => rfl
    have hI5 : HI { s with lu := lu } (U ++ L) := hI.use hall e1 rfl rfl
    have hk5 := hk.trans (q5.below (Nat.le_refl _))
    have hB5 := Nat.le_trans hB q5.size
    simp only [stp, Nat.reduceAdd, Int.reduceLT, Int.reduceLE, Int.reduceEq, Int.reduceNe, ne_eq, bne_self_eq_false, beq_self_eq_true, stm, z3']
    by_cases hL0 : L.length = 0
    · rw [hL0, act_append0 (fun w => Try.runUnderlying27 w) (fun w => Try.sizeOf25 w) o5]
      have hLn : L = [] := List.length_eq_zero_iff.1 hL0
      rw [hLn, List.append_nil] at hI5
      exact hJ1 _ _ _ ⟨_, U, n, h5, hav, hI5, he, hg, by show s.id ≤ i + 1; omega, by show s.grants ≤ i + 1; omega, by omega, o5, rfl, hk5, hB5⟩
    · have r5 : Rd 3 w5 (.slice a1 L.length c1) L.length (flat enc3 L) := q5.rd r1 (r1' (by omega))
      obtain ⟨b, o, c', e, _, hcel⟩ := r5.at (by omega)
      injection e with ea _ ec
      subst ea ec
      have hmx : U.length + L.length ≤ maxLen := by
        have : (1000000 : Nat) ≤ maxLen := by decide
        omega
      refine act_append (t := 27) (ty := 27) (e := 25) (size := 3) (bytes := 24) (base := B) (m := L.length) (by rfl) (by rfl) rfl rfl rfl rfl (by decide) o5 (news := flat enc3 L) (by rw [flat_len enc3_len]) (fun j hj => hcel j hj) (fun u hu => ?_) (by omega) hmx hB5 fun v' w' ho hgr hr => ?_
      · obtain ⟨k, _, hu⟩ := List.mem_flatMap.1 hu
        unfold enc3 at hu
        simp only [List.mem_cons, List.not_mem_nil, or_false] at hu
        rcases hu with rfl | rfl | rfl <;> exact one_int
      · have ho' : Own w' B 25 3 v' (U ++ L).length (flat enc3 (U ++ L)) := by rw [List.length_append, flat_append]; exact ho
        exact hJ1 _ _ _ ⟨_, U ++ L, n, h5.grow hav o5 hgr hr ho, rfl, hI5.same rfl rfl hI5.o, he, hg, by show s.id ≤ i + 1; omega, by show s.grants ≤ i + 1; omega, by rw [List.length_append]; omega, ho', rfl, hk5.grown hgr fun g' e => .inl (o5.lt e).1, Nat.le_trans hB5 hgr.size⟩
  by_cases k5 : kind = 5
  · have n52 : ¬ (5 : Int) = 2 := by omega
    have n53 : ¬ (5 : Int) = 3 := by omega
    have n54 : ¬ (5 : Int) = 4 := by omega
    simp only [stp, Nat.reduceAdd, Int.reduceLT, Int.reduceLE, Int.reduceEq, Int.reduceNe, ne_eq, bne_self_eq_false, beq_self_eq_true, stm, k5, n52, n53, n54]
    refine cunuse_c hcl hB fun w5 h5 q5 => ?_
    try simp only [stp, Nat.reduceAdd, Int.reduceLT, Int.reduceLE, Int.reduceEq, Int.reduceNe, ne_eq, bne_self_eq_false, beq_self_eq_true]
    exact hJ1 _ _ _ ⟨_, [], n, h5.unav, rfl, hI.unuse rfl rfl rfl, he, hg, by show s.id ≤ i + 1; omega, by show s.grants ≤ i + 1; omega, Nat.zero_le _, Own.nil _ _ _ _, rfl, hk.trans (q5.below (Nat.le_refl _)), Nat.le_trans hB q5.size⟩
  simp only [stp, Nat.reduceAdd, Int.reduceLT, Int.reduceLE, Int.reduceEq, Int.reduceNe, ne_eq, bne_self_eq_false, beq_self_eq_true, k2, k3, k4, k5]
  refine jn1 (fun (o : Value) (w' : World) => w' = w ∧ o = .bool (decide (kind = 8 ∨ kind = 6))) (fun J3 hJ3 => ?_) ?_
  · by_cases k8 : kind = 8
    · simp only [stp, Nat.reduceAdd, Int.reduceLT, Int.reduceLE, Int.reduceEq, Int.reduceNe, ne_eq, bne_self_eq_false, beq_self_eq_true, k8]
      exact hJ3 _ _ ⟨rfl, by simp [k8]⟩
    · simp only [stp, Nat.reduceAdd, Int.reduceLT, Int.reduceLE, Int.reduceEq, Int.reduceNe, ne_eq, bne_self_eq_false, beq_self_eq_true, k8]
      exact hJ3 _ _ ⟨rfl, by simp [k8]⟩
  rintro o w' ⟨hw', rfl⟩ _j
  rw [hw']
  clear hw'
  by_cases k86 : kind = 8 ∨ kind = 6
  · simp only [stp, Nat.reduceAdd, Int.reduceLT, Int.reduceLE, Int.reduceEq, Int.reduceNe, ne_eq, bne_self_eq_false, beq_self_eq_true, k86]
    refine cowed_c hcl fun w5 v5 e5 l5 hc5 hd5 hv5 o5 q5 => ?_
    try simp only [stp, Nat.reduceAdd, Int.reduceLT, Int.reduceLE, Int.reduceEq, Int.reduceNe, ne_eq, bne_self_eq_false, beq_self_eq_true]
    have hl5 := canon_len (n := 4096) hc5 hd5
    refine cgive_c (L := asLocks l5) (hcl.keep0 q5) (Nat.le_trans hB q5.size) o5.rd (by rw [asLocks_len]; omega) (fun k hk' => by
      obtain ⟨p, hp, rfl⟩ := List.mem_map.1 hk'
      exact hd5 p hp) (fun w6 e6 hn6 h6 q6 => ?_) (fun w6 e6 l6 lv6 lh6 lo6 hc6 hd6 hv6 hl6 hlh6 hlo6 t6 h6 q6 => ?_)
    · unfold msgC
      simp only [stp, Nat.reduceAdd, Int.reduceLT, Int.reduceLE, Int.reduceEq, Int.reduceNe, ne_eq, bne_self_eq_false, beq_self_eq_true, stm]
      generalize hw7 : w6.alloc (.cells #[.int .i64 0, .int .i64 0, .int .i64 0, .int .i64 0, .int .i64 0, .int .u64 0, .int .i64 0, .slice none 0 0] 39) = w7
      have b7 : blk w7 (siz w6) = some (.cells #[.int .i64 0, .int .i64 0, .int .i64 0, .int .i64 0, .int .i64 0, .int .u64 0, .int .i64 0, .slice none 0 0] 39) := by rw [← hw7]; exact blk_alloc_new
      have k7 : K0 w6 w7 := by rw [← hw7]; exact (K0.refl w6).alloc _
      clear hw7
      refine lpc1 0 (by omega) (fun k w' => w' = w7) rfl (fun k w' hk => by omega) ?_
      intro w' hw' J' _j
      rw [hw']
      obtain ⟨x0, x1, x2, x3, x4, x5, x6, x7⟩ := msg_cells b7
      have e0 : ((0 : Nat) : Int) = 0 := rfl
      simp only [stp, Nat.reduceAdd, Int.reduceLT, Int.reduceLE, Int.reduceEq, Int.reduceNe, ne_eq, bne_self_eq_false, beq_self_eq_true, stm, x7, e0]
      exact hJ1 _ _ _ (fin n (h6.keep0 k7) rfl hI he hg (Nat.le_succ _) (Nat.le_succ _) ((KO.of0 q5).trans (q6.trans (KO.of0 k7))))
    · have hng0 : ∀ k (hk : k < (l6.take 200).length), (0 ≤ (l6.take 200)[k].2 ∧ (l6.take 200)[k].2 < 2) ∧ ¬ ∀ x, needF (askF [((l6.take 200)[k].1.1, (l6.take 200)[k].1.2, (l6.take 200)[k].2 + 1)] x) (valB lh6 x) = none := fun k hk => give_not (s' := { s with lh := lh6, lo := lo6 }) (j := 200) hI hv6 hc6 hlh6 hk
      have hI6 : HI { s with lh := lh6, lo := lo6 } U := hI.give (j := 200) hv6 hc6 hlh6 rfl fun y v hv => by
        have hv : valB lo6 y = some v := hv
        rw [hlo6] at hv
        unfold overB outF at hv
        split at hv
        · exact hI.o y v hv
        · cases hv
      have hT200 : (l6.take 200).length ≤ 200 := by rw [List.length_take]; omega
      generalize l6.take 200 = T at hng0 hT200 t6
      have t6' := t6.1
      obtain ⟨pT, cT, rfl⟩ := t6'.form
      have t6' : Rd 3 w6 (.slice pT (asLocks T).length cT) (asLocks T).length (flat enc3 (asLocks T)) := by rw [asLocks_len]; exact t6'
      unfold msgC
      simp only [stp, Nat.reduceAdd, Int.reduceLT, Int.reduceLE, Int.reduceEq, Int.reduceNe, ne_eq, bne_self_eq_false, beq_self_eq_true, stm]
      generalize hw7 : w6.alloc (.cells #[.int .i64 9, .int .i64 0, .int .i64 0, .int .i64 s.gen, .int .i64 (s.grants : Int), .int .u64 s.epoch, .int .i64 0, .slice pT T.length cT] 39) = w7
      have b7 : blk w7 (siz w6) = some (.cells #[.int .i64 9, .int .i64 0, .int .i64 0, .int .i64 s.gen, .int .i64 (s.grants : Int), .int .u64 s.epoch, .int .i64 0, .slice pT T.length cT] 39) := by rw [← hw7]; exact blk_alloc_new
      have k7 : K0 w6 w7 := by rw [← hw7]; exact (K0.refl w6).alloc _
      clear hw7
      obtain ⟨x0, x1, x2, x3, x4, x5, x6, x7⟩ := msg_cells b7
      refine lpc1 T.length (by omega) (fun k w' => K0 w7 w') (K0.refl _) ?_ ?_
      · rintro k w8 hlt k8 J' hJ' _j
        have x7' := k8.cel x7 (by exact fun h => h)
        have hlt' : ((k : Int) < (T.length : Int)) := by omega
        obtain ⟨b, o, rfl, p0, p1, p2⟩ := lkp_at ((t6'.keep0 k7).keep0 k8) hlt
        obtain ⟨⟨n0, n2⟩, n3⟩ := hng0 k hlt
        have hw : IntKind.i64.wrap (T[k].2 + 1) = T[k].2 + 1 := wrap_id (by omega) (by omega)
        simp only [stp, Nat.reduceAdd, Int.reduceLT, Int.reduceLE, Int.reduceEq, Int.reduceNe, ne_eq, bne_self_eq_false, beq_self_eq_true, stm, x7', hlt']
        rw [ix_27 hlt]
        simp only [stp, Nat.reduceAdd, Int.reduceLT, Int.reduceLE, Int.reduceEq, Int.reduceNe, ne_eq, bne_self_eq_false, beq_self_eq_true, stm, p0, p1, x7']
        rw [ix_27 hlt]
        simp only [stp, Nat.reduceAdd, Int.reduceLT, Int.reduceLE, Int.reduceEq, Int.reduceNe, ne_eq, bne_self_eq_false, beq_self_eq_true, stm, p2, hw]
        have k9 : K0 w8 (w8.drew.alloc (.cells #[.int .i64 T[k].1.1, .int .i64 T[k].1.2, .int .i64 (T[k].2 + 1)] 25)) := (K0.refl w8).drew.alloc _
        refine chas_c (L := [(T[k].1.1, T[k].1.2, T[k].2 + 1)]) (((h6.keep0 k7).keep0 k8).keep0 k9) (rd_lock1 (w := w8.drew)) (by simp) fun w10 r hr k10 => ?_
        have hr : r = false := by
          cases r with
          | false => rfl
          | true => exact absurd (hr.1 rfl) n3
        subst hr
        simp only [stp, Nat.reduceAdd, Int.reduceLT, Int.reduceLE, Int.reduceEq, Int.reduceNe, ne_eq, bne_self_eq_false, beq_self_eq_true]
        exact hJ' _ ((k8.trans k9).trans k10)
      · rintro w8 k8 J' _j
        have x7' := k8.cel x7 (by exact fun h => h)
        have hn : ¬ ((T.length : Int) < (T.length : Int)) := by omega
        simp only [stp, Nat.reduceAdd, Int.reduceLT, Int.reduceLE, Int.reduceEq, Int.reduceNe, ne_eq, bne_self_eq_false, beq_self_eq_true, stm, x7', hn]
        exact hJ1 _ _ _ (fin n ((h6.keep0 k7).keep0 k8) rfl hI6 he hg (Nat.le_succ _) (Nat.le_succ _) ((KO.of0 q5).trans (q6.trans (KO.of0 (k7.trans k8)))))
  · simp only [stp, Nat.reduceAdd, Int.reduceLT, Int.reduceLE, Int.reduceEq, Int.reduceNe, ne_eq, bne_self_eq_false, beq_self_eq_true, k86]
    exact hJ1 _ _ _ (hLI.ko (K0.refl _) (Nat.le_succ _))
theorem holds2 {w0 : World} {pa : Option Addr} {ca i : Nat} {xs : List (List Value)} {x y vb : Value} {J : Cur 3} (hL : Rd 13 w0 (.slice pa xs.length ca) xs.length xs.flatten) (ho : ∀ x ∈ xs, AllOkW w0 opK x) (hlen : xs.length ≤ 100)
    (hli : ∀ i (hi : i < xs.length) (p : OpV w0), xs[i] = p.cells → p.L.length ≤ 20 ∧ p.M.length ≤ 20) (hB0 : siz w0 = B) (hi : i < xs.length) (h : LI w0 w B c i x y)
    (hq : ∀ w', Keep (fun b => B ≤ b) w0 w' → Q (.bool true) w') (hJ : ∀ x y w', LI w0 w' B c (i + 1) x y → J x y (.int .i64 (IntKind.i64.wrap ((i : Int) + 1))) w') :
    P6_2 J (.pointer (some ⟨c, 0, none⟩)) vb (.int .i64 (i : Int)) y (.slice pa xs.length ca) x w Q := by
  unfold P6_2
  have hk : Keep (fun b => B ≤ b) w0 w := by obtain ⟨s, U, n, h1, h2, h3, h4, h5, h6, h7, h8, h9, h10, h11, h12⟩ := h; exact h11
  have hi' : (i : Int) < (xs.length : Int) := by omega
  obtain ⟨b, o, rfl, p, hp, hc⟩ := op_at hL ho hi
  have hbB : b < B := by
    have h0 := hc 0 (by omega)
    rw [← hB0]
    exact cel_lt (h0.trans rfl)
  obtain ⟨l1, l2⟩ := hli i hi p hp
  have cc : ∀ j v, j < 13 → p.cells[j]? = some v → cel w b (o + i * 13 + j) = some v := fun j v hj e => hk.cel ((hc j hj).trans e) (by omega)
  have z0 : cel w b (o + i * 13) = some (.int .i64 p.kind) := cc 0 _ (by omega) rfl
  have z1 : cel w b (o + i * 13 + 1) = some (.int .i64 p.n) := cc 1 _ (by omega) rfl
  have z2 : cel w b (o + i * 13 + 2) = some (.int .u64 p.v) := cc 2 _ (by omega) rfl
  have z3 : cel w b (o + i * 13 + 3) = some (.slice p.a1 p.L.length p.c1) := cc 3 _ (by omega) rfl
  have z4 : cel w b (o + i * 13 + 4) = some (.int .i64 p.mkd) := cc 4 _ (by omega) rfl
  have z5 : cel w b (o + i * 13 + 5) = some (.int .i64 p.mi) := cc 5 _ (by omega) rfl
  have z6 : cel w b (o + i * 13 + 6) = some (.int .i64 p.nd) := cc 6 _ (by omega) rfl
  have z7 : cel w b (o + i * 13 + 7) = some (.int .i64 p.gn) := cc 7 _ (by omega) rfl
  have z8 : cel w b (o + i * 13 + 8) = some (.int .i64 p.st) := cc 8 _ (by omega) rfl
  have z9 : cel w b (o + i * 13 + 9) = some (.int .u64 p.ep) := cc 9 _ (by omega) rfl
  have z10 : cel w b (o + i * 13 + 10) = some (.int .i64 p.er) := cc 10 _ (by omega) rfl
  have z11 : cel w b (o + i * 13 + 11) = some (.slice p.a2 p.M.length p.c2) := cc 11 _ (by omega) rfl
  have z12 : cel w b (o + i * 13 + 12) = some (.bool p.ow) := cc 12 _ (by omega) rfl
  simp only [stp, Nat.reduceAdd, Int.reduceLT, Int.reduceLE, Int.reduceEq, Int.reduceNe, ne_eq, bne_self_eq_false, beq_self_eq_true, hi']
  rw [ix_53 hi]
  simp only [stp, Nat.reduceAdd, Int.reduceLT, Int.reduceLE, Int.reduceEq, Int.reduceNe, ne_eq, bne_self_eq_false, beq_self_eq_true, stm, z0, z1, z2, z3, z4, z5, z6, z7, z8, z9, z10, z11, z12]
  generalize hw1 : stoL _ (siz w) 0 _ = w1
  have b1 : blk w1 (siz w) = some (.cells #[.int .i64 p.kind, .int .i64 p.n, .int .u64 p.v, .slice p.a1 p.L.length p.c1, .int .i64 p.mkd, .int .i64 p.mi, .int .i64 p.nd, .int .i64 p.gn, .int .i64 p.st, .int .u64 p.ep, .int .i64 p.er, .slice p.a2 p.M.length p.c2, .bool p.ow] 56) := by rw [← hw1]; exact blk_stoL_all (zs := [.int .i64 0, .int .i64 0, .int .u64 0, .slice none 0 0, .int .i64 0, .int .i64 0, .int .i64 0, .int .i64 0, .int .i64 0, .int .u64 0, .int .i64 0, .slice none 0 0, .bool false]) rfl blk_alloc_new
  have k1 : K0 w w1 := by rw [← hw1]; exact Keep.stoL _ 0 ((K0.refl w).alloc _) (.inr (Nat.le_refl _))
  clear hw1
  have y3 : cel w1 (siz w) 3 = some (.slice p.a1 p.L.length p.c1) := by rw [cel_b b1]; rfl
  have y11 : cel w1 (siz w) 11 = some (.slice p.a2 p.M.length p.c2) := by rw [cel_b b1]; rfl
  have r1 : Rd 3 w1 (.slice p.a1 p.L.length p.c1) p.L.length (flat enc3 p.L) := (p.r1.keep hk fun g hg hlt e => by omega).keep0 k1
  have r2 : Rd 3 w1 (.slice p.a2 p.M.length p.c2) p.M.length (flat enc3 p.M) := (p.r2.keep hk fun g hg hlt e => by omega).keep0 k1
  simp only [stp, Nat.reduceAdd, Int.reduceLT, Int.reduceLE, Int.reduceEq, Int.reduceNe, ne_eq, bne_self_eq_false, beq_self_eq_true, stm, y3]
  refine may_c r1 (by omega) fun w2 k2 => ?_
  by_cases m1 : ∀ k ∈ p.L, mayL k
  case neg =>
    simp only [stp, Nat.reduceAdd, Int.reduceLT, Int.reduceLE, Int.reduceEq, Int.reduceNe, ne_eq, bne_self_eq_false, beq_self_eq_true, m1]
    exact hq _ (hk.trans (k1.trans k2).none)
  have y11 := k2.cel y11 (by exact fun h => h)
  rw [decide_eq_true m1]
  simp only [stp, Nat.reduceAdd, Int.reduceLT, Int.reduceLE, Int.reduceEq, Int.reduceNe, ne_eq, bne_self_eq_false, beq_self_eq_true, stm, y11]
  refine may_c (r2.keep0 k2) (by omega) fun w3 k3 => ?_
  by_cases m2 : ∀ k ∈ p.M, mayL k
  case neg =>
    simp only [stp, Nat.reduceAdd, Int.reduceLT, Int.reduceLE, Int.reduceEq, Int.reduceNe, ne_eq, bne_self_eq_false, beq_self_eq_true, m2]
    exact hq _ (hk.trans ((k1.trans k2).trans k3).none)
  rw [decide_eq_true m2]
  simp only [stp, Nat.reduceAdd, Int.reduceLT, Int.reduceLE, Int.reduceEq, Int.reduceNe, ne_eq, bne_self_eq_false, beq_self_eq_true]
  have k23 := k2.trans k3
  refine holds3 (k23.blk b1 (by exact fun h => h)) (r1.keep0 k23) (fun h0 u hu => ?_) (r2.keep0 k23) (fun h0 u hu => ?_) m1 m2 l1 l2 (h.ko (k1.trans k23) (Nat.le_refl _)) (by omega) hJ
  · obtain ⟨b', o', c', e, _, hcel⟩ := p.r1.at h0
    rw [e] at hu
    have hu : some b' = some u := hu
    injection hu with hu
    have := hcel 0 (by omega)
    rw [List.getElem?_eq_getElem (by rw [flat_len enc3_len]; omega)] at this
    have := cel_lt this
    omega
  · obtain ⟨b', o', c', e, _, hcel⟩ := p.r2.at h0
    rw [e] at hu
    have hu : some b' = some u := hu
    injection hu with hu
    have := hcel 0 (by omega)
    rw [List.getElem?_eq_getElem (by rw [flat_len enc3_len]; omega)] at this
    have := cel_lt this
    omega
theorem holds1 {pa : Option Addr} {ca : Nat} {xs : List (List Value)} {block : Int} {wn : World} (k0 : K0 w wn) (hL : Rd 13 w (.slice pa xs.length ca) xs.length xs.flatten) (ho : ∀ x ∈ xs, AllOkW w opK x) (hlen : xs.length ≤ 100)
    (hli : ∀ i (hi : i < xs.length) (p : OpV w), xs[i] = p.cells → p.L.length ≤ 20 ∧ p.M.length ≤ 20) (hq : ∀ w', Keep (fun b => siz w ≤ b) w w' → Q (.bool true) w') :
    P6_1 (.int .i64 block) (.slice pa xs.length ca) wn Q := by
  unfold P6_1
  refine cnew_c (B := siz w) k0.size fun w1 h1 k1 => ?_
  simp only [stp, Nat.reduceAdd, Int.reduceLT, Int.reduceLE, Int.reduceEq, Int.reduceNe, ne_eq, bne_self_eq_false, beq_self_eq_true]
  refine cjoin_c h1 (Nat.le_trans k0.size k1.size) (by decide) (by decide) fun w2 h2 k2 => ?_
  simp only [stp, Nat.reduceAdd, Int.reduceLT, Int.reduceLE, Int.reduceEq, Int.reduceNe, ne_eq, bne_self_eq_false, beq_self_eq_true]
  have s2 := k2.size
  refine lpc3 xs.length (by omega) (fun i x y w' => LI w w' (siz w) (siz wn) i x y) ⟨(CS.fresh 1).joined 1 1, [], 0, h2, rfl, ⟨fun x => rfl, fun x => rfl, fun x h hh => (by cases hh), fun x v hv => (by cases hv)⟩, rfl, rfl, Nat.le_refl _, Nat.le_refl _, Nat.le_refl _, Own.nil _ _ _ _, rfl, (k0.none.trans (((KO.of0 k1).trans k2).below (Nat.le_refl _))), Nat.le_trans k0.size (Nat.le_trans k1.size s2)⟩ ?_ ?_
  · rintro i x y w' hi hI J hJ _j
    exact holds2 hL ho hlen hli rfl hi hI (fun w' k => hq w' k) hJ
  · rintro x y w' hI J _j
    unfold P6_2
    obtain ⟨s, U, n, hcl, hav, hI, he, hg, hid, hgr, hU, hown, rfl, hk, hB⟩ := hI
    have hn : ¬ ((xs.length : Int) < (xs.length : Int)) := by omega
    simp only [stp, Nat.reduceAdd, Int.reduceLT, Int.reduceLE, Int.reduceEq, Int.reduceNe, ne_eq, bne_self_eq_false, beq_self_eq_true, hn]
    refine alive_c fun w3 k3 => ?_
    have k3 := k3.old'
    simp only [stp, Nat.reduceAdd, Int.reduceLT, Int.reduceLE, Int.reduceEq, Int.reduceNe, ne_eq, bne_self_eq_false, beq_self_eq_true]
    by_cases hb : block < 0
    · simp only [stp, Nat.reduceAdd, Int.reduceLT, Int.reduceLE, Int.reduceEq, Int.reduceNe, ne_eq, bne_self_eq_false, beq_self_eq_true, hb]
      exact hq _ (hk.trans k3.none)
    · simp only [stp, Nat.reduceAdd, Int.reduceLT, Int.reduceLE, Int.reduceEq, Int.reduceNe, ne_eq, bne_self_eq_false, beq_self_eq_true, hb]
      refine cheld_c (hcl.keep0 k3) fun w4 v4 o4 k4 => ?_
      obtain ⟨p4, c4, rfl⟩ := o4.form
      have hle : ((asLocks s.lh).length : Int) ≤ 5000 := by
        rw [asLocks_len]
        obtain ⟨_, _, _, _, h⟩ := hcl
        have := h.lenH
        omega
      simp only [stp, Nat.reduceAdd, Int.reduceLT, Int.reduceLE, Int.reduceEq, Int.reduceNe, ne_eq, bne_self_eq_false, beq_self_eq_true, hle]
      exact hq _ (hk.trans (k3.trans k4).none)
theorem holds_law {pa : Option Addr} {l ca : Nat} {xs : List (List Value)} {block : Int} (hl : xs.length = l) (hL : Rd 13 w (.slice pa l ca) l xs.flatten) (_ : l ≤ maxLen) (ho : ∀ x ∈ xs, AllOkW w opK x) (_ : (Lit.int .i64 block).wf = true)
    (hq : ∀ w', Keep (fun b => siz w ≤ b) w w' → Q (.bool true) w') :
    callS Try.prog 6 #[.slice pa l ca, .int .i64 block] Q w := by
  subst hl
  refine ref6 ?_
  rw [cut6]
  unfold P6_0
  refine light_c hL ho fun w1 r hr k1 => ?_
  cases r with
  | false =>
    simp only [stp, Nat.reduceAdd, Int.reduceLT, Int.reduceLE, Int.reduceEq, Int.reduceNe, ne_eq, bne_self_eq_false, beq_self_eq_true]
    exact alive_c fun w' k' => hq _ (k1.trans k'.old').new
  | true =>
    obtain ⟨h1, h2⟩ := hr rfl
    simp only [stp, Nat.reduceAdd, Int.reduceLT, Int.reduceLE, Int.reduceEq, Int.reduceNe, ne_eq, bne_self_eq_false, beq_self_eq_true]
    exact holds1 k1 hL ho h1 h2 hq
end
end Go.Proofs.Ytknklmemadediaa
