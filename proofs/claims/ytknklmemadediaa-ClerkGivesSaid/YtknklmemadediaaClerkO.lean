/- What ClerkOrder computes: true. Conditions: none. -/
import Derived.Test.YtknklmemadediaaClerkR
set_option linter.unusedSimpArgs false
set_option linter.unusedVariables false
namespace Go.Proofs.Ytknklmemadediaa
open Go.Sh Go.Proofs.Ytknklmemadediaa.Mi
set_option maxRecDepth 100000
def P4_1 (v_l : Value) (w_7 : World) (Q : Value → World → Prop) : Prop :=
 callS Try.prog 11 #[(.int .i64 1)] (fun t21 w_9 => 
 rd Try.prog (binS .eql 29 false true t21 (.pointer none)) (fun t23 => 
 gd t23 false (fun k_3 w_10 => k_3 t21 w_10) (fun t25_1 w_11 => 
 gd t23 false (fun k_4 w_12 => callS Try.prog 12 #[t25_1, (.int .u64 3), (.int .i64 1)] (fun t26 w_13 => k_4 t26 w_13) w_12) (fun t26_1 w_14 => 
 gd t23 false (fun k_5 w_15 => pur Try.prog (Op.unary .not t26_1) fun t27 => k_5 t27 w_15) (fun t27_1 w_16 => 
 pur Try.prog (pickS t23 (.bool true) t27_1) fun t28 => 
 condS t28
  (Q (.bool false) w_16)
  (callS Try.prog 13 #[t21, v_l] (fun t32 w_17 => 
 pur Try.prog (Instr.extract t32 0) fun t33 => 
 pur Try.prog (Instr.extract t32 1) fun t34 => 
 lp 3 (fun J => fun v_m v_last v_k w_18 => ∀ _j : Fr, 
  pur Try.prog (binS .lss 3 false true v_k (.int .i64 60)) fun t36 => 
  gd t36 true (fun k_6 w_19 => k_6 v_m w_19) (fun t38_1 w_20 => 
  gd t36 true (fun k_7 w_21 => pur Try.prog (Builtin.len_ #[33] 3 #[t38_1]) fun t39 => k_7 t39 w_21) (fun t39_1 w_22 => 
  gd t36 true (fun k_8 w_23 => pur Try.prog (binS .gtr 3 false true t39_1 (.int .i64 0)) fun t40 => k_8 t40 w_23) (fun t40_1 w_24 => 
  pur Try.prog (pickS t36 t40_1 (.bool false)) fun t41 => 
  condS t41
   (gd t34 false (fun k_9 w_25 => k_9 v_m w_25) (fun t46_1 w_26 => 
  gd t34 false (fun k_10 w_27 => pur Try.prog (Builtin.len_ #[33] 3 #[t46_1]) fun t47 => k_10 t47 w_27) (fun t47_1 w_28 => 
  gd t34 false (fun k_11 w_29 => pur Try.prog (binS .neq 3 false true t47_1 (.int .i64 1)) fun t48 => k_11 t48 w_29) (fun t48_1 w_30 => 
  pur Try.prog (pickS t34 (.bool true) t48_1) fun t49 => 
  gd t49 false (fun k_12 w_31 => k_12 v_m w_31) (fun t51_1 w_32 => 
  gd t49 false (fun k_13 w_33 => pur Try.prog (Instr.indexAt 33 t51_1 (.int .i64 0)) fun t52 => k_13 t52 w_33) (fun t52_1 w_34 => 
  gd t49 false (fun k_14 w_35 => pur Try.prog (Instr.fieldAt 39 t52_1 0) fun t53 => k_14 t53 w_35) (fun t53_1 w_36 => 
  gd t49 false (fun k_15 w_37 => rd Try.prog (Instr.loadAt 3 t53_1) (fun t54 => k_15 t54 w_37) w_37) (fun t54_1 w_38 => 
  gd t49 false (fun k_16 w_39 => pur Try.prog (binS .neq 3 false true t54_1 (.int .i64 5)) fun t55 => k_16 t55 w_39) (fun t55_1 w_40 => 
  pur Try.prog (pickS t49 (.bool true) t55_1) fun t56 => 
  gd t56 false (fun k_17 w_41 => k_17 v_m w_41) (fun t58_1 w_42 => 
  gd t56 false (fun k_18 w_43 => pur Try.prog (Instr.indexAt 33 t58_1 (.int .i64 0)) fun t59 => k_18 t59 w_43) (fun t59_1 w_44 => 
  gd t56 false (fun k_19 w_45 => pur Try.prog (Instr.fieldAt 39 t59_1 7) fun t60 => k_19 t60 w_45) (fun t60_1 w_46 => 
  gd t56 false (fun k_20 w_47 => rd Try.prog (Instr.loadAt 27 t60_1) (fun t61 => k_20 t61 w_47) w_47) (fun t61_1 w_48 => 
  gd t56 false (fun k_21 w_49 => pur Try.prog (Builtin.len_ #[27] 3 #[t61_1]) fun t62 => k_21 t62 w_49) (fun t62_1 w_50 => 
  gd t56 false (fun k_22 w_51 => pur Try.prog (binS .neq 3 false true t62_1 (.int .i64 1)) fun t63 => k_22 t63 w_51) (fun t63_1 w_52 => 
  pur Try.prog (pickS t56 (.bool true) t63_1) fun t64 => 
  gd t64 false (fun k_23 w_53 => k_23 v_m w_53) (fun t66_1 w_54 => 
  gd t64 false (fun k_24 w_55 => pur Try.prog (Instr.indexAt 33 t66_1 (.int .i64 0)) fun t67 => k_24 t67 w_55) (fun t67_1 w_56 => 
  gd t64 false (fun k_25 w_57 => pur Try.prog (Instr.fieldAt 39 t67_1 7) fun t68 => k_25 t68 w_57) (fun t68_1 w_58 => 
  gd t64 false (fun k_26 w_59 => rd Try.prog (Instr.loadAt 27 t68_1) (fun t69 => k_26 t69 w_59) w_59) (fun t69_1 w_60 => 
  gd t64 false (fun k_27 w_61 => pur Try.prog (Instr.indexAt 27 t69_1 (.int .i64 0)) fun t70 => k_27 t70 w_61) (fun t70_1 w_62 => 
  gd t64 false (fun k_28 w_63 => pur Try.prog (Instr.fieldAt 25 t70_1 0) fun t71 => k_28 t71 w_63) (fun t71_1 w_64 => 
  gd t64 false (fun k_29 w_65 => pur Try.prog (Instr.fieldAt 23 t71_1 0) fun t72 => k_29 t72 w_65) (fun t72_1 w_66 => 
  gd t64 false (fun k_30 w_67 => rd Try.prog (Instr.loadAt 3 t72_1) (fun t73 => k_30 t73 w_67) w_67) (fun t73_1 w_68 => 
  gd t64 false (fun k_31 w_69 => k_31 v_last w_69) (fun t74_1 w_70 => 
  gd t64 false (fun k_32 w_71 => pur Try.prog (binS .leq 3 false false t73_1 t74_1) fun t75 => k_32 t75 w_71) (fun t75_1 w_72 => 
  pur Try.prog (pickS t64 (.bool true) t75_1) fun t76 => 
  gd t76 false (fun k_33 w_73 => k_33 v_m w_73) (fun t78_1 w_74 => 
  gd t76 false (fun k_34 w_75 => pur Try.prog (Instr.indexAt 33 t78_1 (.int .i64 0)) fun t79 => k_34 t79 w_75) (fun t79_1 w_76 => 
  gd t76 false (fun k_35 w_77 => pur Try.prog (Instr.fieldAt 39 t79_1 1) fun t80 => k_35 t80 w_77) (fun t80_1 w_78 => 
  gd t76 false (fun k_36 w_79 => rd Try.prog (Instr.loadAt 3 t80_1) (fun t81 => k_36 t81 w_79) w_79) (fun t81_1 w_80 => 
  gd t76 false (fun k_37 w_81 => k_37 v_k w_81) (fun t82_1 w_82 => 
  gd t76 false (fun k_38 w_83 => pur Try.prog (binS .add 3 false true t82_1 (.int .i64 1)) fun t83 => k_38 t83 w_83) (fun t83_1 w_84 => 
  gd t76 false (fun k_39 w_85 => pur Try.prog (binS .neq 3 false false t81_1 t83_1) fun t84 => k_39 t84 w_85) (fun t84_1 w_86 => 
  pur Try.prog (pickS t76 (.bool true) t84_1) fun t85 => 
  condS t85
   (Q (.bool false) w_86)
   (pur Try.prog (Instr.indexAt 33 v_m (.int .i64 0)) fun t87 => 
  pur Try.prog (Instr.fieldAt 39 t87 7) fun t88 => 
  rd Try.prog (Instr.loadAt 27 t88) (fun t89 => 
  pur Try.prog (Instr.indexAt 27 t89 (.int .i64 0)) fun t90 => 
  pur Try.prog (Instr.fieldAt 25 t90 0) fun t91 => 
  pur Try.prog (Instr.fieldAt 23 t91 0) fun t92 => 
  rd Try.prog (Instr.loadAt 3 t92) (fun t93 => 
  pur Try.prog (Instr.indexAt 33 v_m (.int .i64 0)) fun t97 => 
  pur Try.prog (Instr.fieldAt 39 t97 1) fun t98 => 
  rd Try.prog (Instr.loadAt 3 t98) (fun t99 => 
  pur Try.prog (Instr.indexAt 33 v_m (.int .i64 0)) fun t101 => 
  pur Try.prog (Instr.fieldAt 39 t101 7) fun t102 => 
  rd Try.prog (Instr.loadAt 27 t102) (fun t103 => 
  pur Try.prog (Instr.build 39 #[(0, (.int .i64 6)), (1, t99), (5, (.int .u64 3)), (3, (.int .i64 1)), (7, t103)]) fun t104 => 
  callS Try.prog 15 #[t21, t104] (fun t105 w_87 => 
  pur Try.prog (Instr.extract t105 0) fun t106 => 
  pur Try.prog (Instr.extract t105 1) fun t107 => 
  pur Try.prog (Op.unary .not t107) fun t109 => 
  condS t109
   (Q (.bool false) w_87)
   (pur Try.prog (binS .add 3 false true v_k (.int .i64 1)) fun t43 => 
  J t106 t93 t43 w_87)) (World.drew w_86)) (World.drew w_86)) (World.drew w_86)) w_86) w_86)) w_84) w_82) w_80) w_78) w_76) w_74) w_72) w_70) w_68) w_66) w_64) w_62) w_60) w_58) w_56) w_54) w_52) w_50) w_48) w_46) w_44) w_42) w_40) w_38) w_36) w_34) w_32) w_30) w_28) w_26) w_24)
   (callS Try.prog 13 #[t21, v_l] (fun t114 w_88 => 
 pur Try.prog (Instr.extract t114 0) fun _ => 
 pur Try.prog (Instr.extract t114 1) fun t116 => 
 callS Try.prog 10 #[] (fun t117 w_89 => 
 gd t117 true (fun k_40 w_90 => k_40 v_m w_90) (fun t119_1 w_91 => 
 gd t117 true (fun k_41 w_92 => pur Try.prog (Builtin.len_ #[33] 3 #[t119_1]) fun t120 => k_41 t120 w_92) (fun t120_1 w_93 => 
 gd t117 true (fun k_42 w_94 => pur Try.prog (binS .eql 3 false true t120_1 (.int .i64 0)) fun t121 => k_42 t121 w_94) (fun t121_1 w_95 => 
 pur Try.prog (pickS t117 t121_1 (.bool false)) fun t122 => 
 gd t122 true (fun k_43 w_96 => k_43 t116 w_96) (fun t124_1 w_97 => 
 pur Try.prog (pickS t122 t124_1 (.bool false)) fun t125 => 
 gd t125 true (fun k_44 w_98 => k_44 t21 w_98) (fun t127_1 w_99 => 
 gd t125 true (fun k_45 w_100 => k_45 v_l w_100) (fun t128_1 w_101 => 
 gd t125 true (fun k_46 w_102 => callS Try.prog 16 #[t127_1, t128_1] (fun t129 w_103 => k_46 t129 w_103) w_102) (fun t129_1 w_104 => 
 pur Try.prog (pickS t125 t129_1 (.bool false)) fun t130 => 
 gd t130 true (fun k_47 w_105 => k_47 t21 w_105) (fun t132_1 w_106 => 
 gd t130 true (fun k_48 w_107 => callS Try.prog 19 #[t132_1] (fun t133 w_108 => k_48 t133 w_108) w_107) (fun t133_1 w_109 => 
 gd t130 true (fun k_49 w_110 => pur Try.prog (Builtin.len_ #[27] 3 #[t133_1]) fun t134 => k_49 t134 w_110) (fun t134_1 w_111 => 
 gd t130 true (fun k_50 w_112 => pur Try.prog (binS .eql 3 false true t134_1 (.int .i64 0)) fun t135 => k_50 t135 w_112) (fun t135_1 w_113 => 
 pur Try.prog (pickS t130 t135_1 (.bool false)) fun t136 => 
 gd t136 true (fun k_51 w_114 => k_51 t21 w_114) (fun t138_1 w_115 => 
 gd t136 true (fun k_52 w_116 => callS Try.prog 20 #[t138_1] (fun t139 w_117 => k_52 t139 w_117) w_116) (fun t139_1 w_118 => 
 gd t136 true (fun k_53 w_119 => pur Try.prog (Builtin.len_ #[27] 3 #[t139_1]) fun t140 => k_53 t140 w_119) (fun t140_1 w_120 => 
 gd t136 true (fun k_54 w_121 => k_54 v_l w_121) (fun t141_1 w_122 => 
 gd t136 true (fun k_55 w_123 => callS Try.prog 18 #[t141_1] (fun t142 w_124 => k_55 t142 w_124) w_123) (fun t142_1 w_125 => 
 gd t136 true (fun k_56 w_126 => pur Try.prog (Builtin.len_ #[44] 3 #[t142_1]) fun t143 => k_56 t143 w_126) (fun t143_1 w_127 => 
 gd t136 true (fun k_57 w_128 => pur Try.prog (binS .eql 3 false false t140_1 t143_1) fun t144 => k_57 t144 w_128) (fun t144_1 w_129 => 
 pur Try.prog (pickS t136 t144_1 (.bool false)) fun t145 => 
 Q t145 w_129) w_127) w_125) w_122) w_120) w_118) w_115) w_113) w_111) w_109) w_106) w_104) w_101) w_99) w_97) w_95) w_93) w_91) w_89) w_88) w_24)) w_22) w_20) w_18) [t33, (.int .i64 (-1)), (.int .i64 0)] w_17) w_16)) w_14) w_11) w_9) w_9) w_7
def P4_0 (v_l : Value) (Q : Value → World → Prop) (w : World) : Prop :=
 pur Try.prog (Builtin.len_ #[27] 3 #[v_l]) fun t13 => 
 pur Try.prog (binS .gtr 3 false true t13 (.int .i64 20)) fun t14 => 
 gd t14 false (fun k w_1 => k v_l w_1) (fun t16_1 w_2 => 
 gd t14 false (fun k_1 w_3 => callS Try.prog 9 #[t16_1] (fun t17 w_4 => k_1 t17 w_4) w_3) (fun t17_1 w_5 => 
 gd t14 false (fun k_2 w_6 => pur Try.prog (Op.unary .not t17_1) fun t18 => k_2 t18 w_6) (fun t18_1 w_7 => 
 pur Try.prog (pickS t14 (.bool true) t18_1) fun t19 => 
 condS t19
  (callS Try.prog 10 #[] (fun t20 w_8 => 
  Q t20 w_8) w_7)
  (P4_1 v_l w_7 Q)) w_5) w_2) w
theorem cut4 (v_l : Value) (Q : Value → World → Prop) (w : World) : S4 v_l Q w = P4_0 v_l Q w := rfl
-- P4_1 v_l w_7 Q
section
variable {w w' : World} {Q : Value → World → Prop} {B c : Nat} {s : CS}
theorem lk1_at {lv : Value} {x : I3} (h : TRd w B 25 3 lv 1 (enc3 x)) : ∃ b o c, lv = .slice (some ⟨b, o, none⟩) 1 c ∧ cel w b o = some (.int .i64 x.1) ∧ cel w b (o + 1) = some (.int .i64 x.2.1) ∧ cel w b (o + 2) = some (.int .i64 x.2.2) := by
  obtain ⟨b, o, c', e, _, hcel⟩ := h.1.at (by decide)
  exact ⟨b, o, c', e, hcel 0 (by decide), hcel 1 (by decide), hcel 2 (by decide)⟩
theorem ixl' {b o c n : Nat} {k : Value → Prop} (h : 0 < n) : pur Try.prog (Instr.indexAt 27 (.slice (some ⟨b, o, none⟩) n c) (.int .i64 0)) k = k (.pointer (some ⟨b, o, none⟩)) := by
  have := ix_27 (b := b) (o := o) (n := n) (c := c) (i := 0) (kd := .i64) (k := k) h
  simpa using this
theorem order1 {vl : Value} {L : List I3} {w2 : World} (hL : Rd 3 w2 vl L.length (flat enc3 L)) (hlen : L.length ≤ 20) (hd : ∀ k ∈ L, k.2.1 ≤ 4096)
    (hq : ∀ w', KO (siz w2) cp w2 w' → Q (.bool true) w') : P4_1 vl w2 Q := by
  unfold P4_1
  refine cnew_c (B := siz w2) (Nat.le_refl _) fun w3 h3 k3 => ?_
  simp only [stp, Nat.reduceAdd, Int.reduceLT, Int.reduceLE, Int.reduceEq, Int.reduceNe, ne_eq, bne_self_eq_false, beq_self_eq_true]
  refine start_c (Nat.le_refl _) (by decide) (fun w4 s h4 k4 e5 e1 eh eu eo ew eid eout eq_ egr ed => ?_) h3 k3
  have hL4 : ∀ {w'}, KO (siz w2) cp w2 w' → Rd 3 w' vl L.length (flat enc3 L) := fun k => hL.keep k fun g _ hgs hk => by have := hk.1; omega
  simp only [stp, Nat.reduceAdd, Int.reduceLT, Int.reduceLE, Int.reduceEq, Int.reduceNe, ne_eq, bne_self_eq_false, beq_self_eq_true]
  refine first_c h4 k4.size e5 e1 eh eu eo eid eout egr (hL4 k4) (by omega) hd fun w5 s5 N v R5 hvN hlN k5 => ?_
  have kk5 := k4.trans k5
  simp only [stp, Nat.reduceAdd, Int.reduceLT, Int.reduceLE, Int.reduceEq, Int.reduceNe, ne_eq, bne_self_eq_false, beq_self_eq_true]
  refine lp3 (fun m x y z w' => ∃ (k : Nat) (s : CS), z = .int .i64 (k : Int) ∧ m = N.length - k ∧ k ≤ N.length ∧ Rnd w' (siz w2) (siz w2) s N k x ∧ y = .int .i64 (if h : 0 < k ∧ k ≤ N.length then (N[k - 1]'(by omega)).1.1 else -1) ∧ KO (siz w2) cp w2 w') N.length ⟨0, s5, rfl, by omega, Nat.zero_le _, R5, by simp, kk5⟩ ?_
  rintro m x y z w6 ⟨k, s6, rfl, rfl, hkN, R6, rfl, kk6⟩ J hJ _j
  have h40 : N.length ≤ 40 := by omega
  have hk60 : ((k : Int) < 60) := by omega
  rcases R6.v with ⟨hk, g, lv, ho, hid, rfl, bg, tl⟩ | ⟨hk, rfl, hid⟩
  · have hNne : N ≠ [] := fun e => by rw [e] at hk; cases hk
    have hdN : decide (N = []) = false := decide_eq_false hNne
    obtain ⟨x0, x1, x2, x3, x4, x5, x6, x7⟩ := msg_cells bg
    obtain ⟨b, o, cc, rfl, y0, y1, y2⟩ := lk1_at tl
    have hwk := wrap_succ (i := k) (by omega)
    have hlast : ¬ N[k].1.1 ≤ (if h : 0 < k ∧ k ≤ N.length then (N[k - 1]'(by omega)).1.1 else -1) := by
      have hok := R6.hc.1 _ (List.getElem_mem hk)
      by_cases h0 : 0 < k ∧ k ≤ N.length
      · rw [dif_pos h0]
        have hpw := List.pairwise_iff_getElem.1 R6.hc.2 (k - 1) k (by omega) hk (by omega)
        have ho1 := (R6.hc.1 _ (List.getElem_mem (show k - 1 < N.length by omega))).2
        rcases hpw with h | h <;> omega
      · rw [dif_neg h0]
        have := hok.1
        omega
    simp only [stp, Nat.reduceAdd, Int.reduceLT, Int.reduceLE, Int.reduceEq, Int.reduceNe, ne_eq, bne_self_eq_false, beq_self_eq_true, stm, hk60, cst1, hdN]
    rw [ixm]
    simp only [stp, Nat.reduceAdd, Int.reduceLT, Int.reduceLE, Int.reduceEq, Int.reduceNe, ne_eq, bne_self_eq_false, beq_self_eq_true, stm, x0]
    rw [ixm]
    simp only [stp, Nat.reduceAdd, Int.reduceLT, Int.reduceLE, Int.reduceEq, Int.reduceNe, ne_eq, bne_self_eq_false, beq_self_eq_true, stm, x7, cst1]
    rw [ixm]
    simp only [stp, Nat.reduceAdd, Int.reduceLT, Int.reduceLE, Int.reduceEq, Int.reduceNe, ne_eq, bne_self_eq_false, beq_self_eq_true, stm, x7]
    rw [ixl' (by decide)]
    simp only [stp, Nat.reduceAdd, Int.reduceLT, Int.reduceLE, Int.reduceEq, Int.reduceNe, ne_eq, bne_self_eq_false, beq_self_eq_true, stm, y0, hlast]
    rw [ixm]
    simp only [stp, Nat.reduceAdd, Int.reduceLT, Int.reduceLE, Int.reduceEq, Int.reduceNe, ne_eq, bne_self_eq_false, beq_self_eq_true, stm, x1, hwk]
    rw [ixm]
    simp only [stp, Nat.reduceAdd, Int.reduceLT, Int.reduceLE, Int.reduceEq, Int.reduceNe, ne_eq, bne_self_eq_false, beq_self_eq_true, stm, x7]
    rw [ixl' (by decide)]
    simp only [stp, Nat.reduceAdd, Int.reduceLT, Int.reduceLE, Int.reduceEq, Int.reduceNe, ne_eq, bne_self_eq_false, beq_self_eq_true, stm, y0]
    rw [ixm]
    simp only [stp, Nat.reduceAdd, Int.reduceLT, Int.reduceLE, Int.reduceEq, Int.reduceNe, ne_eq, bne_self_eq_false, beq_self_eq_true, stm, x1]
    rw [ixm]
    simp only [stp, Nat.reduceAdd, Int.reduceLT, Int.reduceLE, Int.reduceEq, Int.reduceNe, ne_eq, bne_self_eq_false, beq_self_eq_true, stm, x7]
    have kd : K0 w6 w6.drew := (K0.refl w6).drew
    have R6d : Rnd w6.drew (siz w2) (siz w2) s6 N k (.slice (some ⟨g, 0, none⟩) 1 1) := { R6 with cl := R6.cl.keep0 kd, v := .inl ⟨hk, g, _, ho, hid, rfl, kd.blk bg id, tl.keep0 kd⟩ }
    refine next_c R6d (Nat.le_trans kk6.size (Nat.le_refl _)) hk rfl (kd.blk bg id) (by omega) fun w7 s7 v7 R7 k7 => ?_
    simp only [stp, Nat.reduceAdd, Int.reduceLT, Int.reduceLE, Int.reduceEq, Int.reduceNe, ne_eq, bne_self_eq_false, beq_self_eq_true, hwk]
    refine hJ (N.length - (k + 1)) _ _ _ _ (by omega) ⟨k + 1, s7, rfl, rfl, by omega, R7, ?_, kk6.trans ((KO.of0 kd).trans k7)⟩
    rw [dif_pos ⟨by omega, by omega⟩]; rfl
  · simp only [stp, Nat.reduceAdd, Int.reduceLT, Int.reduceLE, Int.reduceEq, Int.reduceNe, ne_eq, bne_self_eq_false, beq_self_eq_true, stm, hk60, cst0]
    have hlh : s6.lh = N := canon_unique _ _ R6.cl.canonH R6.hc fun x => by rw [R6.eh, hk, List.take_length]
    have hfull : ∀ x, needF (askF L x) (valB s6.lh x) = none := fun x => by rw [← hvN, hlh]; exact needF_same R6.hm x
    refine cwant_c R6.cl kk6.size (by omega) (by rw [R6.e5]; decide) (hL4 kk6) (by omega) hd (fun w7 N7 hcN hmN hvN7 hall h7 k7 => ?_) (fun w7 N7 hcN hmN hvN7 hall => absurd hfull hall) (fun w7 N7 v7 lv7 l7 hcN hmN hvN7 ho7 hc7 hv7 hm7 hl7 => ?_)
    rotate_left
    · exfalso
      have : l7 = [] := canon_unique _ _ hc7 Canon.nil fun x => by rw [hv7, hfull]; rfl
      subst this
      cases hl7
    have kk7 := kk6.trans k7
    simp only [stp, Nat.reduceAdd, Int.reduceLT, Int.reduceLE, Int.reduceEq, Int.reduceNe, ne_eq, bne_self_eq_false, beq_self_eq_true]
    refine alive_c fun w8 k8' => ?_
    have k8 := k8'.old'
    have h8 := h7.keep0 k8
    have kk8 := kk7.trans (KO.of0 k8)
    simp only [stp, Nat.reduceAdd, Int.reduceLT, Int.reduceLE, Int.reduceEq, Int.reduceNe, ne_eq, bne_self_eq_false, beq_self_eq_true, stm, cst0]
    refine chas_c h8 (hL4 kk8) (by omega) fun w9 r hr k9 => ?_
    have hrt : r = true := hr.2 hfull
    subst hrt
    have h9 := h8.keep0 k9
    simp only [stp, Nat.reduceAdd, Int.reduceLT, Int.reduceLE, Int.reduceEq, Int.reduceNe, ne_eq, bne_self_eq_false, beq_self_eq_true]
    refine cowed_c h9 fun w10 v10 e10 l10 hc10 hd10 hv10 o10 k10 => ?_
    have hl10 : l10 = [] := canon_unique _ _ hc10 Canon.nil fun x => by
      rw [hv10]
      unfold owedB
      rw [show ({ s6 with lw := N7 } : CS).lo = [] from R6.eo]
      rfl
    subst hl10
    have h10 := h9.keep0 k10
    obtain ⟨p10, c10, rfl⟩ := o10.form
    have z0 : ((asLocks ([] : List (Pt Int))).length : Int) = 0 := rfl
    simp only [stp, Nat.reduceAdd, Int.reduceLT, Int.reduceLE, Int.reduceEq, Int.reduceNe, ne_eq, bne_self_eq_false, beq_self_eq_true, z0]
    refine cheld_c h10 fun w11 v11 o11 k11 => ?_
    obtain ⟨p11, c11, rfl⟩ := o11.form
    have kk11 := kk8.trans (KO.of0 ((k9.trans k10).trans k11))
    simp only [stp, Nat.reduceAdd, Int.reduceLT, Int.reduceLE, Int.reduceEq, Int.reduceNe, ne_eq, bne_self_eq_false, beq_self_eq_true]
    refine rnorm_c (hL4 kk11) (by omega) fun w12 v12 l12 o12 hc12 hv12 hl12 k12 => ?_
    have hl12' : l12 = N := canon_unique _ _ hc12 R6.hc fun x => by rw [hv12, hvN]
    subst hl12'
    obtain ⟨p12, c12, rfl⟩ := Own.form o12
    have hleq : ((asLocks ({ s6 with lw := N7 } : CS).lh).length : Int) = (l12.length : Int) := by
      rw [asLocks_len]
      show (s6.lh.length : Int) = _
      rw [hlh]
    simp only [stp, Nat.reduceAdd, Int.reduceLT, Int.reduceLE, Int.reduceEq, Int.reduceNe, ne_eq, bne_self_eq_false, beq_self_eq_true, hleq]
    exact hq _ (kk11.trans (KO.of0 k12))
theorem order_law {vl : Value} {L : List I3} (hL : Rd 3 w vl L.length (flat enc3 L)) (_ : L.length ≤ maxLen) (_ : ∀ s ∈ L, good3 s) (hq : ∀ w', Keep (fun b => siz w ≤ b) w w' → Q (.bool true) w') :
    callS Try.prog 4 #[vl] Q w := by
  refine ref4 ?_
  rw [cut4]
  unfold P4_0
  obtain ⟨pa, ca, rfl⟩ := hL.form
  by_cases h20 : (20 : Int) < (L.length : Int)
  · simp only [stp, Nat.reduceAdd, Int.reduceLT, Int.reduceLE, Int.reduceEq, Int.reduceNe, ne_eq, bne_self_eq_false, beq_self_eq_true, h20]
    exact alive_c hq
  simp only [stp, Nat.reduceAdd, Int.reduceLT, Int.reduceLE, Int.reduceEq, Int.reduceNe, ne_eq, bne_self_eq_false, beq_self_eq_true, h20]
  refine may_c hL (by omega) fun w1 k1 => ?_
  by_cases hm : ∀ k ∈ L, mayL k
  case neg =>
    simp only [stp, Nat.reduceAdd, Int.reduceLT, Int.reduceLE, Int.reduceEq, Int.reduceNe, ne_eq, bne_self_eq_false, beq_self_eq_true, hm]
    exact alive_c fun w' k => hq _ (k1.new.trans' k fun b hb e => Nat.le_trans k1.size e)
  have hmt : decide (∀ k ∈ L, mayL k) = true := decide_eq_true hm
  simp only [stp, Nat.reduceAdd, Int.reduceLT, Int.reduceLE, Int.reduceEq, Int.reduceNe, ne_eq, bne_self_eq_false, beq_self_eq_true, hmt]
  exact order1 (hL.keep0 k1) (by omega) (fun k hk => (hm k hk).2.1) fun w' k => hq _ (k1.new.trans' (k.below (Nat.le_refl _)) fun b hb e => Nat.le_trans k1.size e)
end
end Go.Proofs.Ytknklmemadediaa
