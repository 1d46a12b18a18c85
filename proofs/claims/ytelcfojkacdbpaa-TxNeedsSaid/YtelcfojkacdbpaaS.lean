/- The readings of the functions' code, printed by a program, each held equal to the one that is computed: for all arguments, all worlds.
   Conditions: none. -/
import Derived.Test.YtelcfojkacdbpaaShC
import Derived.Test.YtelcfojkacdbpaaProg
import Derived.KernelRfl
set_option linter.unusedSimpArgs false
set_option linter.unusedVariables false
namespace Go.Proofs.Ytelcfojkacdbpaa
open Go.Sh
set_option maxRecDepth 100000
theorem mix : Try.prog.follows .mixedOrders = true := by kernel_rfl

-- gosem.cut.init
def S2 (Q : Value → World → Prop) (w : World) : Prop :=
 callS Try.prog 1 #[] (fun _ w_1 => 
 Q (.tuple #[]) w_1) w
theorem eq2 (Q : Value → World → Prop) (w : World) : semF Try.prog 2 [] Q w = S2 Q w := by kernel_rfl
theorem ref2 {Q : Value → World → Prop} {w : World} (h : S2 Q w) : callS Try.prog 2 #[] Q w :=
  callS_of mix (fun a w => Try.call2 a w) (by kernel_rfl) (by rw [eq2]; exact h)
-- commons/commonslaw24.TxNeeds
def S3 (v_l v_block v_other : Value) (Q : Value → World → Prop) (w : World) : Prop :=
 pur Try.prog (Builtin.len_ #[22] 3 #[v_l]) fun t20 => 
 pur Try.prog (binS .gtr 3 false true t20 (.int .i64 16)) fun t21 => 
 condS t21
  (callS Try.prog 4 #[] (fun t22 w_1 => 
  Q t22 w_1) w)
  (callS Try.prog 6 #[] (fun t24 w_2 => 
 callS Try.prog 5 #[t24, v_l] (fun t26 w_3 => 
 pur Try.prog (Instr.extract t26 0) fun t27 => 
 pur Try.prog (Instr.extract t26 1) fun t28 => 
 pur Try.prog (binS .neq 25 false true t28 (.int .i64 0)) fun t30 => 
 gd t30 false (fun k w_4 => k t27 w_4) (fun t32_1 w_5 => 
 gd t30 false (fun k_1 w_6 => rd Try.prog (binS .eql 24 false true t32_1 (.pointer none)) (fun t33 => k_1 t33 w_6) w_6) (fun t33_1 w_7 => 
 pur Try.prog (pickS t30 (.bool true) t33_1) fun t34 => 
 condS t34
  (pur Try.prog (binS .neq 25 false true t28 (.int .i64 0)) fun t36 => 
  gd t36 true (fun k_2 w_8 => k_2 t27 w_8) (fun t38_1 w_9 => 
  gd t36 true (fun k_3 w_10 => rd Try.prog (binS .eql 24 false true t38_1 (.pointer none)) (fun t39 => k_3 t39 w_10) w_10) (fun t39_1 w_11 => 
  pur Try.prog (pickS t36 t39_1 (.bool false)) fun t40 => 
  gd t40 true (fun k_4 w_12 => callS Try.prog 4 #[] (fun t42 w_13 => k_4 t42 w_13) w_12) (fun t42_1 w_14 => 
  pur Try.prog (pickS t40 t42_1 (.bool false)) fun t43 => 
  Q t43 w_14) w_11) w_9) w_7)
  (callS Try.prog 7 #[t27, v_block] (fun t46 w_15 => 
 callS Try.prog 8 #[t27, v_other] (fun t50 w_16 => 
 pur Try.prog (Instr.extract t50 0) fun t51 => 
 pur Try.prog (Instr.extract t50 1) fun t52 => 
 act Try.prog (Instr.alloc 35 true (.tuple #[])) (fun t10 w_17 => 
 act Try.prog (thenU (Instr.storeAt 35 t10 t51)) (fun _ w_18 => 
 callS Try.prog 8 #[t27, v_block] (fun t56 w_19 => 
 pur Try.prog (Instr.extract t56 0) fun t57 => 
 pur Try.prog (Instr.extract t56 1) fun t58 => 
 act Try.prog (Instr.alloc 35 true (.tuple #[])) (fun t12 w_20 => 
 act Try.prog (thenU (Instr.storeAt 35 t12 t57)) (fun _ w_21 => 
 callS Try.prog 9 #[t27, v_block, (.string ⟨#[120]⟩)] (fun t61 w_22 => 
 pur Try.prog (binS .neq 25 false true t46 (.int .i64 0)) fun t63 => 
 condS t63
  (callS Try.prog 4 #[] (fun t64 w_23 => 
  gd t64 true (fun k_5 w_24 => k_5 t46 w_24) (fun t66_1 w_25 => 
  gd t64 true (fun k_6 w_26 => pur Try.prog (binS .eql 25 false true t66_1 (.int .i64 30)) fun t67 => k_6 t67 w_26) (fun t67_1 w_27 => 
  pur Try.prog (pickS t64 t67_1 (.bool false)) fun t68 => 
  gd t68 true (fun k_7 w_28 => k_7 t61 w_28) (fun t70_1 w_29 => 
  gd t68 true (fun k_8 w_30 => pur Try.prog (binS .eql 25 false true t70_1 (.int .i64 30)) fun t71 => k_8 t71 w_30) (fun t71_1 w_31 => 
  pur Try.prog (pickS t68 t71_1 (.bool false)) fun t72 => 
  gd t72 true (fun k_9 w_32 => k_9 t58 w_32) (fun t74_1 w_33 => 
  gd t72 true (fun k_10 w_34 => pur Try.prog (Op.unary .not t74_1) fun t75 => k_10 t75 w_34) (fun t75_1 w_35 => 
  pur Try.prog (pickS t72 t75_1 (.bool false)) fun t76 => 
  gd t76 true (fun k_11 w_36 => k_11 t27 w_36) (fun t78_1 w_37 => 
  gd t76 true (fun k_12 w_38 => k_12 v_block w_38) (fun t79_1 w_39 => 
  gd t76 true (fun k_13 w_40 => callS Try.prog 10 #[t78_1, t79_1] (fun t80 w_41 => k_13 t80 w_41) w_40) (fun t80_1 w_42 => 
  gd t76 true (fun k_14 w_43 => pur Try.prog (Op.unary .not t80_1) fun t81 => k_14 t81 w_43) (fun t81_1 w_44 => 
  pur Try.prog (pickS t76 t81_1 (.bool false)) fun t82 => 
  Q t82 w_44) w_42) w_39) w_37) w_35) w_33) w_31) w_29) w_27) w_25) w_23) w_22)
  (pur Try.prog (binS .eql 25 false true t61 (.int .i64 13)) fun t85 => 
 pur Try.prog (binS .neq 4 false false t58 t85) fun t86 => 
 gd t86 false (fun k_15 w_45 => k_15 t58 w_45) (fun t88_1 w_46 => 
 gd t86 false (fun k_16 w_47 => k_16 t88_1 w_47) (fun t89_1 w_48 => 
 gd t89_1 true (fun k_17 w_49 => pur Try.prog (Instr.fieldAt 35 t12 0) fun t90 => k_17 t90 w_49) (fun t90_1 w_50 => 
 gd t89_1 true (fun k_18 w_51 => pur Try.prog (Instr.fieldAt 33 t90_1 0) fun t91 => k_18 t91 w_51) (fun t91_1 w_52 => 
 gd t89_1 true (fun k_19 w_53 => rd Try.prog (Instr.loadAt 3 t91_1) (fun t92 => k_19 t92 w_53) w_53) (fun t92_1 w_54 => 
 gd t89_1 true (fun k_20 w_55 => k_20 v_block w_55) (fun t93_1 w_56 => 
 gd t89_1 true (fun k_21 w_57 => pur Try.prog (binS .neq 3 false false t92_1 t93_1) fun t94 => k_21 t94 w_57) (fun t94_1 w_58 => 
 gd t89_1 true (fun k_22 w_59 => k_22 t94_1 w_59) (fun t95_1 w_60 => 
 gd t95_1 false (fun k_23 w_61 => pur Try.prog (Instr.fieldAt 35 t12 0) fun t96 => k_23 t96 w_61) (fun t96_1 w_62 => 
 gd t95_1 false (fun k_24 w_63 => pur Try.prog (Instr.fieldAt 33 t96_1 1) fun t97 => k_24 t97 w_63) (fun t97_1 w_64 => 
 gd t95_1 false (fun k_25 w_65 => rd Try.prog (Instr.loadAt 3 t97_1) (fun t98 => k_25 t98 w_65) w_65) (fun t98_1 w_66 => 
 gd t95_1 false (fun k_26 w_67 => k_26 v_block w_67) (fun t99_1 w_68 => 
 gd t95_1 false (fun k_27 w_69 => pur Try.prog (binS .add 3 false true t99_1 (.int .i64 1)) fun t100 => k_27 t100 w_69) (fun t100_1 w_70 => 
 gd t95_1 false (fun k_28 w_71 => pur Try.prog (binS .neq 3 false false t98_1 t100_1) fun t101 => k_28 t101 w_71) (fun t101_1 w_72 => 
 gd t89_1 true (fun k_29 w_73 => pur Try.prog (pickS t95_1 (.bool true) t101_1) fun t102 => k_29 t102 w_73) (fun t102_1 w_74 => 
 gd t89_1 true (fun k_30 w_75 => k_30 t102_1 w_75) (fun t103_1 w_76 => 
 gd t103_1 false (fun k_31 w_77 => pur Try.prog (Instr.fieldAt 35 t12 1) fun t104 => k_31 t104 w_77) (fun t104_1 w_78 => 
 gd t103_1 false (fun k_32 w_79 => rd Try.prog (Instr.loadAt 3 t104_1) (fun t105 => k_32 t105 w_79) w_79) (fun t105_1 w_80 => 
 gd t103_1 false (fun k_33 w_81 => pur Try.prog (binS .neq 3 false true t105_1 (.int .i64 2)) fun t106 => k_33 t106 w_81) (fun t106_1 w_82 => 
 gd t89_1 true (fun k_34 w_83 => pur Try.prog (pickS t103_1 (.bool true) t106_1) fun t107 => k_34 t107 w_83) (fun t107_1 w_84 => 
 gd t86 false (fun k_35 w_85 => pur Try.prog (pickS t89_1 t107_1 (.bool false)) fun t108 => k_35 t108 w_85) (fun t108_1 w_86 => 
 pur Try.prog (pickS t86 (.bool true) t108_1) fun t109 => 
 gd t109 false (fun k_36 w_87 => k_36 t27 w_87) (fun t111_1 w_88 => 
 gd t109 false (fun k_37 w_89 => k_37 v_block w_89) (fun t112_1 w_90 => 
 gd t109 false (fun k_38 w_91 => callS Try.prog 10 #[t111_1, t112_1] (fun t113 w_92 => k_38 t113 w_92) w_91) (fun t113_1 w_93 => 
 gd t109 false (fun k_39 w_94 => k_39 t58 w_94) (fun t114_1 w_95 => 
 gd t109 false (fun k_40 w_96 => pur Try.prog (binS .neq 4 false false t113_1 t114_1) fun t115 => k_40 t115 w_96) (fun t115_1 w_97 => 
 pur Try.prog (pickS t109 (.bool true) t115_1) fun t116 => 
 condS t116
  (Q (.bool false) w_97)
  (callS Try.prog 8 #[t27, v_block] (fun t120 w_98 => 
 pur Try.prog (Instr.extract t120 0) fun t121 => 
 pur Try.prog (Instr.extract t120 1) fun t122 => 
 act Try.prog (Instr.alloc 35 true (.tuple #[])) (fun t15 w_99 => 
 act Try.prog (thenU (Instr.storeAt 35 t15 t121)) (fun _ w_100 => 
 callS Try.prog 8 #[t27, v_other] (fun t126 w_101 => 
 pur Try.prog (Instr.extract t126 0) fun t127 => 
 pur Try.prog (Instr.extract t126 1) fun t128 => 
 act Try.prog (Instr.alloc 35 true (.tuple #[])) (fun t17 w_102 => 
 act Try.prog (thenU (Instr.storeAt 35 t17 t127)) (fun _ w_103 => 
 callS Try.prog 4 #[] (fun t129 w_104 => 
 gd t129 true (fun k_41 w_105 => k_41 t122 w_105) (fun t131_1 w_106 => 
 gd t129 true (fun k_42 w_107 => pur Try.prog (Op.unary .not t131_1) fun t132 => k_42 t132 w_107) (fun t132_1 w_108 => 
 pur Try.prog (pickS t129 t132_1 (.bool false)) fun t133 => 
 gd t133 true (fun k_43 w_109 => k_43 t27 w_109) (fun t135_1 w_110 => 
 gd t133 true (fun k_44 w_111 => k_44 v_block w_111) (fun t136_1 w_112 => 
 gd t133 true (fun k_45 w_113 => callS Try.prog 9 #[t135_1, t136_1, (.string ⟨#[121]⟩)] (fun t137 w_114 => k_45 t137 w_114) w_113) (fun t137_1 w_115 => 
 gd t133 true (fun k_46 w_116 => pur Try.prog (binS .eql 25 false true t137_1 (.int .i64 0)) fun t138 => k_46 t138 w_116) (fun t138_1 w_117 => 
 pur Try.prog (pickS t133 t138_1 (.bool false)) fun t139 => 
 gd t139 true (fun k_47 w_118 => k_47 v_other w_118) (fun t141_1 w_119 => 
 gd t139 true (fun k_48 w_120 => k_48 v_block w_120) (fun t142_1 w_121 => 
 gd t139 true (fun k_49 w_122 => pur Try.prog (binS .eql 3 false false t141_1 t142_1) fun t143 => k_49 t143 w_122) (fun t143_1 w_123 => 
 gd t139 true (fun k_50 w_124 => k_50 t143_1 w_124) (fun t144_1 w_125 => 
 gd t144_1 false (fun k_51 w_126 => k_51 t128 w_126) (fun t145_1 w_127 => 
 gd t144_1 false (fun k_52 w_128 => k_52 t52 w_128) (fun t146_1 w_129 => 
 gd t144_1 false (fun k_53 w_130 => pur Try.prog (binS .eql 4 false false t145_1 t146_1) fun t147 => k_53 t147 w_130) (fun t147_1 w_131 => 
 gd t139 true (fun k_54 w_132 => pur Try.prog (pickS t144_1 (.bool true) t147_1) fun t148 => k_54 t148 w_132) (fun t148_1 w_133 => 
 pur Try.prog (pickS t139 t148_1 (.bool false)) fun t149 => 
 Q t149 w_133) w_131) w_129) w_127) w_125) w_123) w_121) w_119) w_117) w_115) w_112) w_110) w_108) w_106) w_104) w_103) w_102) w_101) w_100) w_99) w_98) w_97)) w_95) w_93) w_90) w_88) w_86) w_84) w_82) w_80) w_78) w_76) w_74) w_72) w_70) w_68) w_66) w_64) w_62) w_60) w_58) w_56) w_54) w_52) w_50) w_48) w_46) w_22)) w_21) w_20) w_19) w_18) w_17) w_16) w_15) w_7)) w_5) w_3) w_2) w)
theorem eq3 (v_l v_block v_other : Value) (Q : Value → World → Prop) (w : World) : semF Try.prog 3 [v_l, v_block, v_other] Q w = S3 v_l v_block v_other Q w := by kernel_rfl
theorem ref3 {v_l v_block v_other : Value} {Q : Value → World → Prop} {w : World} (h : S3 v_l v_block v_other Q w) : callS Try.prog 3 #[v_l, v_block, v_other] Q w :=
  callS_of mix (fun a w => Try.call3 a w) (by kernel_rfl) (by rw [eq3]; exact h)
-- commons/commonslaw24.alive
def S4 (Q : Value → World → Prop) (w : World) : Prop :=
 callS Try.prog 6 #[] (fun t10 w_1 => 
 pur Try.prog (Instr.build 33 #[(1, (.int .i64 5))]) fun t11 => 
 pur Try.prog (Instr.build 35 #[(0, t11), (1, (.int .i64 1))]) fun t12 => 
 act Try.prog (Instr.buildSlice 22 1 #[(0, t12)]) (fun t13 w_2 => 
 callS Try.prog 5 #[t10, t13] (fun t14 w_3 => 
 pur Try.prog (Instr.extract t14 0) fun t15 => 
 pur Try.prog (Instr.extract t14 1) fun t16 => 
 pur Try.prog (binS .neq 25 false true t16 (.int .i64 0)) fun t18 => 
 gd t18 false (fun k w_4 => k t15 w_4) (fun t20_1 w_5 => 
 gd t18 false (fun k_1 w_6 => rd Try.prog (binS .eql 24 false true t20_1 (.pointer none)) (fun t21 => k_1 t21 w_6) w_6) (fun t21_1 w_7 => 
 pur Try.prog (pickS t18 (.bool true) t21_1) fun t22 => 
 gd t22 false (fun k_2 w_8 => k_2 t15 w_8) (fun t24_1 w_9 => 
 gd t22 false (fun k_3 w_10 => callS Try.prog 9 #[t24_1, (.int .i64 3), (.string ⟨#[120]⟩)] (fun t25 w_11 => k_3 t25 w_11) w_10) (fun t25_1 w_12 => 
 gd t22 false (fun k_4 w_13 => pur Try.prog (binS .neq 25 false true t25_1 (.int .i64 13)) fun t26 => k_4 t26 w_13) (fun t26_1 w_14 => 
 pur Try.prog (pickS t22 (.bool true) t26_1) fun t27 => 
 condS t27
  (Q (.bool false) w_14)
  (callS Try.prog 8 #[t15, (.int .i64 3)] (fun t30 w_15 => 
 pur Try.prog (Instr.extract t30 0) fun t31 => 
 pur Try.prog (Instr.extract t30 1) fun t32 => 
 act Try.prog (Instr.alloc 35 true (.tuple #[])) (fun t3 w_16 => 
 act Try.prog (thenU (Instr.storeAt 35 t3 t31)) (fun _ w_17 => 
 callS Try.prog 10 #[t15, (.int .i64 3)] (fun t34 w_18 => 
 callS Try.prog 9 #[t15, (.int .i64 3), (.string ⟨#[120]⟩)] (fun t36 w_19 => 
 callS Try.prog 11 #[t15, (.int .i64 3)] (fun t39 w_20 => 
 pur Try.prog (Instr.extract t39 0) fun t40 => 
 pur Try.prog (Instr.extract t39 1) fun t41 => 
 gd t32 true (fun k_5 w_21 => rd Try.prog (Instr.loadAt 35 t3) (fun t44 => k_5 t44 w_21) w_21) (fun t44_1 w_22 => 
 gd t32 true (fun k_6 w_23 => pur Try.prog (Instr.build 33 #[(0, (.int .i64 3)), (1, (.int .i64 4))]) fun t45 => k_6 t45 w_23) (fun t45_1 w_24 => 
 gd t32 true (fun k_7 w_25 => pur Try.prog (Instr.build 35 #[(0, t45_1), (1, (.int .i64 2))]) fun t46 => k_7 t46 w_25) (fun t46_1 w_26 => 
 gd t32 true (fun k_8 w_27 => rd Try.prog (binS .eql 35 false false t44_1 t46_1) (fun t47 => k_8 t47 w_27) w_27) (fun t47_1 w_28 => 
 pur Try.prog (pickS t32 t47_1 (.bool false)) fun t48 => 
 gd t48 true (fun k_9 w_29 => k_9 t34 w_29) (fun t50_1 w_30 => 
 pur Try.prog (pickS t48 t50_1 (.bool false)) fun t51 => 
 gd t51 true (fun k_10 w_31 => k_10 t36 w_31) (fun t53_1 w_32 => 
 gd t51 true (fun k_11 w_33 => pur Try.prog (binS .eql 25 false true t53_1 (.int .i64 0)) fun t54 => k_11 t54 w_33) (fun t54_1 w_34 => 
 pur Try.prog (pickS t51 t54_1 (.bool false)) fun t55 => 
 gd t55 true (fun k_12 w_35 => k_12 t41 w_35) (fun t57_1 w_36 => 
 pur Try.prog (pickS t55 t57_1 (.bool false)) fun t58 => 
 gd t58 true (fun k_13 w_37 => k_13 t40 w_37) (fun t60_1 w_38 => 
 gd t58 true (fun k_14 w_39 => pur Try.prog (Builtin.len_ #[9] 3 #[t60_1]) fun t61 => k_14 t61 w_39) (fun t61_1 w_40 => 
 gd t58 true (fun k_15 w_41 => pur Try.prog (binS .eql 3 false true t61_1 (.int .i64 96)) fun t62 => k_15 t62 w_41) (fun t62_1 w_42 => 
 pur Try.prog (pickS t58 t62_1 (.bool false)) fun t63 => 
 gd t63 true (fun k_16 w_43 => k_16 t40 w_43) (fun t65_1 w_44 => 
 gd t63 true (fun k_17 w_45 => pur Try.prog (Instr.index 9 t65_1 (.int .i64 0)) fun t66 => k_17 t66 w_45) (fun t66_1 w_46 => 
 gd t63 true (fun k_18 w_47 => pur Try.prog (binS .eql 5 false true t66_1 (.int .u8 120)) fun t67 => k_18 t67 w_47) (fun t67_1 w_48 => 
 pur Try.prog (pickS t63 t67_1 (.bool false)) fun t68 => 
 Q t68 w_48) w_46) w_44) w_42) w_40) w_38) w_36) w_34) w_32) w_30) w_28) w_26) w_24) w_22) w_20) w_19) w_18) w_17) w_16) w_15) w_14)) w_12) w_9) w_7) w_5) w_3) w_2) w_1) w
theorem eq4 (Q : Value → World → Prop) (w : World) : semF Try.prog 4 [] Q w = S4 Q w := by kernel_rfl
theorem ref4 {Q : Value → World → Prop} {w : World} (h : S4 Q w) : callS Try.prog 4 #[] Q w :=
  callS_of mix (fun a w => Try.call4 a w) (by kernel_rfl) (by rw [eq4]; exact h)
-- commons/tx.New
def S5 (v_s v_l : Value) (Q : Value → World → Prop) (w : World) : Prop :=
 act Try.prog (Instr.box 29 v_s) (fun t2 w_1 => 
 rd Try.prog (Instr.loadAt 29 t2) (fun t10 => 
 callS Try.prog 12 #[t10, v_l] (fun t12 w_2 => 
 pur Try.prog (binS .neq 25 false true t12 (.int .i64 0)) fun t14 => 
 condS t14
  (Q (.tuple #[(.pointer none), t12]) w_2)
  (jn 1 (fun J => 
  ∃ S : World → Prop, S (World.drew w_2) ∧ 
 hld Try.prog S (Instr.loadAt 29 t2) fun t16 => 
  (callS Try.prog 13 #[] (fun t17 w_3 => S w_3 ∧ 
  (act Try.prog (Instr.makeMap 46 none) (fun t18 w_4 => S w_4 ∧ 
  act Try.prog (Instr.makeMap 46 none) (fun t19 w_5 => S w_5 ∧ 
  pur Try.prog (Instr.build 48 #[(0, t16), (1, t17), (2, t18), (3, t19)]) fun t20 => 
  act Try.prog (Instr.box 48 t20) (fun t21 w_6 => S w_6 ∧ 
  J t21 w_6) w_5) w_4) w_3
  ) ∧ (act Try.prog (Instr.makeMap 46 none) (fun t19_1 w_7 => S w_7 ∧ 
  act Try.prog (Instr.makeMap 46 none) (fun t18_1 w_8 => S w_8 ∧ 
  pur Try.prog (Instr.build 48 #[(0, t16), (1, t17), (2, t18_1), (3, t19_1)]) fun t20_1 => 
  act Try.prog (Instr.box 48 t20_1) (fun t21_1 w_9 => S w_9 ∧ 
  J t21_1 w_9) w_8) w_7) w_3)) (World.drew w_2)
  ) ∧ (act Try.prog (Instr.makeMap 46 none) (fun t18_2 w_10 => S w_10 ∧ 
  (callS Try.prog 13 #[] (fun t17_1 w_11 => S w_11 ∧ 
  act Try.prog (Instr.makeMap 46 none) (fun t19_2 w_12 => S w_12 ∧ 
  pur Try.prog (Instr.build 48 #[(0, t16), (1, t17_1), (2, t18_2), (3, t19_2)]) fun t20_2 => 
  act Try.prog (Instr.box 48 t20_2) (fun t21_2 w_13 => S w_13 ∧ 
  J t21_2 w_13) w_12) w_11) w_10
  ) ∧ (act Try.prog (Instr.makeMap 46 none) (fun t19_3 w_14 => S w_14 ∧ 
  callS Try.prog 13 #[] (fun t17_2 w_15 => S w_15 ∧ 
  pur Try.prog (Instr.build 48 #[(0, t16), (1, t17_2), (2, t18_2), (3, t19_3)]) fun t20_3 => 
  act Try.prog (Instr.box 48 t20_3) (fun t21_3 w_16 => S w_16 ∧ 
  J t21_3 w_16) w_15) w_14) w_10)) (World.drew w_2)
  ) ∧ (act Try.prog (Instr.makeMap 46 none) (fun t19_4 w_17 => S w_17 ∧ 
  (callS Try.prog 13 #[] (fun t17_3 w_18 => S w_18 ∧ 
  act Try.prog (Instr.makeMap 46 none) (fun t18_3 w_19 => S w_19 ∧ 
  pur Try.prog (Instr.build 48 #[(0, t16), (1, t17_3), (2, t18_3), (3, t19_4)]) fun t20_4 => 
  act Try.prog (Instr.box 48 t20_4) (fun t21_4 w_20 => S w_20 ∧ 
  J t21_4 w_20) w_19) w_18) w_17
  ) ∧ (act Try.prog (Instr.makeMap 46 none) (fun t18_4 w_21 => S w_21 ∧ 
  callS Try.prog 13 #[] (fun t17_4 w_22 => S w_22 ∧ 
  pur Try.prog (Instr.build 48 #[(0, t16), (1, t17_4), (2, t18_4), (3, t19_4)]) fun t20_5 => 
  act Try.prog (Instr.box 48 t20_5) (fun t21_5 w_23 => S w_23 ∧ 
  J t21_5 w_23) w_22) w_21) w_17)) (World.drew w_2)))
 (fun v_t w_24 => ∀ _j : Fr, 
  callS Try.prog 14 #[v_l] (fun t23 w_25 => 
 pur Try.prog (Builtin.len_ #[22] 3 #[t23]) fun t24 => 
 lp 1 (fun J_1 => fun t25 w_26 => ∀ _j : Fr, 
  pur Try.prog (binS .lss 3 false false t25 t24) fun t26 => 
  condS t26
   (pur Try.prog (Instr.indexAt 22 t23 t25) fun t27 => 
  rd Try.prog (Instr.loadAt 35 t27) (fun t28 => 
  act Try.prog (Instr.alloc 35 true (.tuple #[])) (fun t9 w_27 => 
  act Try.prog (thenU (Instr.storeAt 35 t9 t28)) (fun _ w_28 => 
  pur Try.prog (nilV v_t) fun t30 => 
  pur Try.prog (Instr.fieldAt 48 t30 1) fun t31 => 
  rd Try.prog (Instr.loadAt 44 t31) (fun t32 => 
  pur Try.prog (Instr.fieldAt 35 t9 0) fun t33 => 
  rd Try.prog (Instr.loadAt 33 t33) (fun t34 => 
  pur Try.prog (Instr.fieldAt 35 t9 1) fun t35 => 
  rd Try.prog (Instr.loadAt 3 t35) (fun t36 => 
  callS Try.prog 15 #[t32, t34, t36] (fun _ w_29 => 
  pur Try.prog (binS .add 3 false true t25 (.int .i64 1)) fun t38 => 
  J_1 t38 w_29) (World.drew w_28)) (World.drew w_28)) (World.drew w_28)) (World.drew w_28)) w_27) w_26) w_26)
   (Q (.tuple #[v_t, (.int .i64 0)]) w_26)) [(.int .i64 0)] w_25) w_24))) w_1) w_1) w
theorem eq5 (v_s v_l : Value) (Q : Value → World → Prop) (w : World) : semF Try.prog 5 [v_s, v_l] Q w = S5 v_s v_l Q w := by kernel_rfl
theorem ref5 {v_s v_l : Value} {Q : Value → World → Prop} {w : World} (h : S5 v_s v_l Q w) : callS Try.prog 5 #[v_s, v_l] Q w :=
  callS_of mix (fun a w => Try.call5 a w) (by kernel_rfl) (by rw [eq5]; exact h)
-- commons/commonslaw9.Shape
def S6 (Q : Value → World → Prop) (w : World) : Prop :=
 act Try.prog (Instr.alloc 29 true (.tuple #[])) (fun t0 w_1 => 
 pur Try.prog (Instr.build 29 #[(0, (.int .i64 2)), (1, (.int .i64 10)), (2, (.int .i64 8)), (3, (.int .i64 4)), (4, (.int .i64 32))]) fun t1 => 
 act Try.prog (thenU (Instr.storeAt 29 t0 t1)) (fun _ w_2 => 
 rd Try.prog (resL 29 t0) (fun r => Q r w_2) w_2) w_1) w
theorem eq6 (Q : Value → World → Prop) (w : World) : semF Try.prog 6 [] Q w = S6 Q w := by kernel_rfl
theorem ref6 {Q : Value → World → Prop} {w : World} (h : S6 Q w) : callS Try.prog 6 #[] Q w :=
  callS_of mix (fun a w => Try.call6 a w) (by kernel_rfl) (by rw [eq6]; exact h)
-- (*commons/tx.Tx).MayRead
def S7 (v_t v_at : Value) (Q : Value → World → Prop) (w : World) : Prop :=
 callS Try.prog 16 #[v_t] (fun t8 w_1 => 
 condS t8
  (Q (.int .i64 32) w_1)
  (pur Try.prog (nilV v_t) fun t11 => 
 pur Try.prog (Instr.fieldAt 48 t11 1) fun t12 => 
 rd Try.prog (Instr.loadAt 44 t12) (fun t13 => 
 callS Try.prog 17 #[t13, v_at] (fun t15 w_2 => 
 pur Try.prog (Instr.extract t15 0) fun _ => 
 pur Try.prog (Instr.extract t15 1) fun t17 => 
 pur Try.prog (Op.unary .not t17) fun t19 => 
 condS t19
  (Q (.int .i64 30) w_2)
  (Q (.int .i64 0) w_2)) w_1) w_1)) w
theorem eq7 (v_t v_at : Value) (Q : Value → World → Prop) (w : World) : semF Try.prog 7 [v_t, v_at] Q w = S7 v_t v_at Q w := by kernel_rfl
theorem ref7 {v_t v_at : Value} {Q : Value → World → Prop} {w : World} (h : S7 v_t v_at Q w) : callS Try.prog 7 #[v_t, v_at] Q w :=
  callS_of mix (fun a w => Try.call7 a w) (by kernel_rfl) (by rw [eq7]; exact h)
-- (*commons/tx.Tx).Needs
def S8 (v_t v_at : Value) (Q : Value → World → Prop) (w : World) : Prop :=
 act Try.prog (Instr.alloc 35 true (.tuple #[])) (fun t4 w_1 => 
 callS Try.prog 16 #[v_t] (fun t9 w_2 => 
 condS t9
  (pur Try.prog (Instr.build 35 #[]) fun t10 => 
  act Try.prog (thenU (Instr.storeAt 35 t4 t10)) (fun _ w_3 => 
  rd Try.prog (resL 35 t4) (fun r => Q (.tuple #[r, (.bool false)]) w_3) w_3) w_2)
  (pur Try.prog (nilV v_t) fun t13 => 
 pur Try.prog (Instr.fieldAt 48 t13 1) fun t14 => 
 rd Try.prog (Instr.loadAt 44 t14) (fun t15 => 
 callS Try.prog 17 #[t15, v_at] (fun t17 w_4 => 
 pur Try.prog (Instr.extract t17 0) fun t18 => 
 pur Try.prog (Instr.extract t17 1) fun _ => 
 pur Try.prog (binS .neq 3 false true t18 (.int .i64 1)) fun t21 => 
 condS t21
  (pur Try.prog (Instr.build 35 #[]) fun t22 => 
  act Try.prog (thenU (Instr.storeAt 35 t4 t22)) (fun _ w_5 => 
  rd Try.prog (resL 35 t4) (fun r_1 => Q (.tuple #[r_1, (.bool false)]) w_5) w_5) w_4)
  (pur Try.prog (binS .add 3 false true v_at (.int .i64 1)) fun t25 => 
 pur Try.prog (Instr.build 33 #[(0, v_at), (1, t25)]) fun t26 => 
 pur Try.prog (Instr.build 35 #[(0, t26), (1, (.int .i64 2))]) fun t27 => 
 act Try.prog (thenU (Instr.storeAt 35 t4 t27)) (fun _ w_6 => 
 rd Try.prog (resL 35 t4) (fun r_2 => Q (.tuple #[r_2, (.bool true)]) w_6) w_6) w_4)) w_2) w_2)) w_1) w
theorem eq8 (v_t v_at : Value) (Q : Value → World → Prop) (w : World) : semF Try.prog 8 [v_t, v_at] Q w = S8 v_t v_at Q w := by kernel_rfl
theorem ref8 {v_t v_at : Value} {Q : Value → World → Prop} {w : World} (h : S8 v_t v_at Q w) : callS Try.prog 8 #[v_t, v_at] Q w :=
  callS_of mix (fun a w => Try.call8 a w) (by kernel_rfl) (by rw [eq8]; exact h)
-- (*commons/tx.Tx).Write
def S9 (v_t v_at v_data : Value) (Q : Value → World → Prop) (w : World) : Prop :=
 callS Try.prog 7 #[v_t, v_at] (fun t16 w_1 => 
 pur Try.prog (binS .neq 25 false true t16 (.int .i64 0)) fun t18 => 
 condS t18
  (Q t16 w_1)
  (callS Try.prog 18 #[v_data] (fun t22 w_2 => 
 pur Try.prog (Instr.extract t22 0) fun t23 => 
 pur Try.prog (Instr.extract t22 1) fun t24 => 
 pur Try.prog (binS .neq 25 false true t24 (.int .i64 0)) fun t26 => 
 condS t26
  (Q t24 w_2)
  (pur Try.prog (nilV v_t) fun t30 => 
 pur Try.prog (Instr.fieldAt 48 t30 1) fun t31 => 
 rd Try.prog (Instr.loadAt 44 t31) (fun t32 => 
 callS Try.prog 17 #[t32, v_at] (fun t34 w_3 => 
 pur Try.prog (Instr.extract t34 0) fun t35 => 
 pur Try.prog (Instr.extract t34 1) fun _ => 
 pur Try.prog (binS .neq 3 false true t35 (.int .i64 2)) fun t38 => 
 condS t38
  (Q (.int .i64 13) w_3)
  (pur Try.prog (nilV v_t) fun t41 => 
 pur Try.prog (Instr.fieldAt 48 t41 2) fun t42 => 
 rd Try.prog (Instr.loadAt 46 t42) (fun t43 => 
 rd Try.prog (Instr.lookup 46 t43 v_at true) (fun t45 => 
 pur Try.prog (Instr.extract t45 0) fun _ => 
 pur Try.prog (Instr.extract t45 1) fun t47 => 
 ∃ S : World → Prop, S (World.drew w_3) ∧ 
 pur Try.prog (Op.unary .not t47) fun t49 => 
 gd t49 true (fun k w_4 => k v_t w_4) (fun t51_1 w_5 => 
 gd t49 true (fun k_1 w_6 => pur Try.prog (nilV t51_1) fun t52 => k_1 t52 w_6) (fun t52_1 w_7 => 
 gd t49 true (fun k_2 w_8 => pur Try.prog (Instr.fieldAt 48 t52_1 2) fun t53 => k_2 t53 w_8) (fun t53_1 w_9 => 
 gd t49 true (fun k_3 w_10 => hld Try.prog S (Instr.loadAt 46 t53_1) fun t54 => k_3 t54 w_10) (fun t54_1 w_11 => 
 gd t49 true (fun k_4 w_12 => hld Try.prog S (Builtin.len_ #[46] 3 #[t54_1]) fun t55 => k_4 t55 w_12) (fun t55_1 w_13 => 
 gd t49 true (fun k_5 w_14 => k_5 v_t w_14) (fun t56_1 w_15 => 
 gd t49 true (fun k_6 w_16 => pur Try.prog (nilV t56_1) fun t57 => k_6 t57 w_16) (fun t57_1 w_17 => 
 gd t49 true (fun k_7 w_18 => pur Try.prog (Instr.fieldAt 48 t57_1 0) fun t58 => k_7 t58 w_18) (fun t58_1 w_19 => 
 gd t49 true (fun k_8 w_20 => pur Try.prog (Instr.fieldAt 29 t58_1 2) fun t59 => k_8 t59 w_20) (fun t59_1 w_21 => 
 gd t49 true (fun k_9 w_22 => hld Try.prog S (Instr.loadAt 3 t59_1) fun t60 => k_9 t60 w_22) (fun t60_1 w_23 => 
 gd t49 true (fun k_10 w_24 => callS Try.prog 19 #[t60_1] (fun t61 w_25 => S w_25 ∧ k_10 t61 w_25) w_24) (fun t61_1 w_26 => 
 gd t49 true (fun k_11 w_27 => k_11 v_t w_27) (fun t62_1 w_28 => 
 gd t49 true (fun k_12 w_29 => pur Try.prog (nilV t62_1) fun t63 => k_12 t63 w_29) (fun t63_1 w_30 => 
 gd t49 true (fun k_13 w_31 => pur Try.prog (Instr.fieldAt 48 t63_1 0) fun t64 => k_13 t64 w_31) (fun t64_1 w_32 => 
 gd t49 true (fun k_14 w_33 => pur Try.prog (Instr.fieldAt 29 t64_1 3) fun t65 => k_14 t65 w_33) (fun t65_1 w_34 => 
 gd t49 true (fun k_15 w_35 => hld Try.prog S (Instr.loadAt 3 t65_1) fun t66 => k_15 t66 w_35) (fun t66_1 w_36 => 
 gd t49 true (fun k_16 w_37 => pur Try.prog (Builtin.min_ #[3, 3] 3 #[t61_1, t66_1]) fun t67 => k_16 t67 w_37) (fun t67_1 w_38 => 
 gd t49 true (fun k_17 w_39 => pur Try.prog (binS .geq 3 false false t55_1 t67_1) fun t68 => k_17 t68 w_39) (fun t68_1 w_40 => 
 pur Try.prog (pickS t49 t68_1 (.bool false)) fun t69 => 
 condS t69
  (Q (.int .i64 31) w_40)
  (pur Try.prog (nilV v_t) fun t71 => 
 pur Try.prog (Instr.fieldAt 48 t71 2) fun t72 => 
 rd Try.prog (Instr.loadAt 46 t72) (fun t73 => 
 act Try.prog (thenU (Instr.mapUpdate 46 t73 v_at t23)) (fun _ w_41 => 
 Q (.int .i64 0) w_41) w_40) w_40)) w_38) w_36) w_34) w_32) w_30) w_28) w_26) w_23) w_21) w_19) w_17) w_15) w_13) w_11) w_9) w_7) w_5) (World.drew w_3)) w_3) w_3)) w_2) w_2)) w_1)) w
theorem eq9 (v_t v_at v_data : Value) (Q : Value → World → Prop) (w : World) : semF Try.prog 9 [v_t, v_at, v_data] Q w = S9 v_t v_at v_data Q w := by kernel_rfl
theorem ref9 {v_t v_at v_data : Value} {Q : Value → World → Prop} {w : World} (h : S9 v_t v_at v_data Q w) : callS Try.prog 9 #[v_t, v_at, v_data] Q w :=
  callS_of mix (fun a w => Try.call9 a w) (by kernel_rfl) (by rw [eq9]; exact h)
-- (*commons/tx.Tx).Grow
def S10 (v_t v_at : Value) (Q : Value → World → Prop) (w : World) : Prop :=
 callS Try.prog 8 #[v_t, v_at] (fun t10 w_1 => 
 pur Try.prog (Instr.extract t10 0) fun t11 => 
 pur Try.prog (Instr.extract t10 1) fun t12 => 
 act Try.prog (Instr.alloc 35 true (.tuple #[])) (fun t5 w_2 => 
 act Try.prog (thenU (Instr.storeAt 35 t5 t11)) (fun _ w_3 => 
 gd t12 true (fun k w_4 => k v_t w_4) (fun t15_1 w_5 => 
 gd t12 true (fun k_1 w_6 => pur Try.prog (nilV t15_1) fun t16 => k_1 t16 w_6) (fun t16_1 w_7 => 
 gd t12 true (fun k_2 w_8 => pur Try.prog (Instr.fieldAt 48 t16_1 1) fun t17 => k_2 t17 w_8) (fun t17_1 w_9 => 
 gd t12 true (fun k_3 w_10 => rd Try.prog (Instr.loadAt 44 t17_1) (fun t18 => k_3 t18 w_10) w_10) (fun t18_1 w_11 => 
 gd t12 true (fun k_4 w_12 => pur Try.prog (Instr.fieldAt 35 t5 0) fun t19 => k_4 t19 w_12) (fun t19_1 w_13 => 
 gd t12 true (fun k_5 w_14 => rd Try.prog (Instr.loadAt 33 t19_1) (fun t20 => k_5 t20 w_14) w_14) (fun t20_1 w_15 => 
 gd t12 true (fun k_6 w_16 => pur Try.prog (Instr.fieldAt 35 t5 1) fun t21 => k_6 t21 w_16) (fun t21_1 w_17 => 
 gd t12 true (fun k_7 w_18 => rd Try.prog (Instr.loadAt 3 t21_1) (fun t22 => k_7 t22 w_18) w_18) (fun t22_1 w_19 => 
 gd t12 true (fun k_8 w_20 => callS Try.prog 15 #[t18_1, t20_1, t22_1] (fun t23 w_21 => k_8 t23 w_21) w_20) (fun t23_1 w_22 => 
 pur Try.prog (pickS t12 t23_1 (.bool false)) fun t24 => 
 Q t24 w_22) w_19) w_17) w_15) w_13) w_11) w_9) w_7) w_5) (World.drew w_3)) w_2) w_1) w
theorem eq10 (v_t v_at : Value) (Q : Value → World → Prop) (w : World) : semF Try.prog 10 [v_t, v_at] Q w = S10 v_t v_at Q w := by kernel_rfl
theorem ref10 {v_t v_at : Value} {Q : Value → World → Prop} {w : World} (h : S10 v_t v_at Q w) : callS Try.prog 10 #[v_t, v_at] Q w :=
  callS_of mix (fun a w => Try.call10 a w) (by kernel_rfl) (by rw [eq10]; exact h)
-- (*commons/tx.Tx).Wrote
def S11 (v_t v_at : Value) (Q : Value → World → Prop) (w : World) : Prop :=
 callS Try.prog 16 #[v_t] (fun t9 w_1 => 
 condS t9
  (Q (.tuple #[(.string ⟨#[]⟩), (.bool false)]) w_1)
  (pur Try.prog (nilV v_t) fun t12 => 
 pur Try.prog (Instr.fieldAt 48 t12 2) fun t13 => 
 rd Try.prog (Instr.loadAt 46 t13) (fun t14 => 
 rd Try.prog (Instr.lookup 46 t14 v_at true) (fun t16 => 
 pur Try.prog (Instr.extract t16 0) fun t17 => 
 pur Try.prog (Instr.extract t16 1) fun t18 => 
 Q (.tuple #[t17, t18]) w_1) w_1) w_1)) w
theorem eq11 (v_t v_at : Value) (Q : Value → World → Prop) (w : World) : semF Try.prog 11 [v_t, v_at] Q w = S11 v_t v_at Q w := by kernel_rfl
theorem ref11 {v_t v_at : Value} {Q : Value → World → Prop} {w : World} (h : S11 v_t v_at Q w) : callS Try.prog 11 #[v_t, v_at] Q w :=
  callS_of mix (fun a w => Try.call11 a w) (by kernel_rfl) (by rw [eq11]; exact h)
-- commons/tx.Check
def S12 (v_s v_l : Value) (Q : Value → World → Prop) (w : World) : Prop :=
 act Try.prog (Instr.box 29 v_s) (fun t2 w_1 => 
 rd Try.prog (Instr.loadAt 29 t2) (fun t10 => 
 callS Try.prog 20 #[t10] (fun t11 w_2 => 
 pur Try.prog (Op.unary .not t11) fun t12 => 
 condS t12
  (Q (.int .i64 1) w_2)
  (pur Try.prog (Builtin.len_ #[22] 3 #[v_l]) fun t15 => 
  pur Try.prog (binS .eql 3 false true t15 (.int .i64 0)) fun t16 => 
  gd t16 false (fun k w_3 => k v_l w_3) (fun t18_1 w_4 => 
  gd t16 false (fun k_1 w_5 => pur Try.prog (Builtin.len_ #[22] 3 #[t18_1]) fun t19 => k_1 t19 w_5) (fun t19_1 w_6 => 
  gd t16 false (fun k_2 w_7 => pur Try.prog (binS .gtr 3 false true t19_1 (.int .i64 16)) fun t20 => k_2 t20 w_7) (fun t20_1 w_8 => 
  pur Try.prog (pickS t16 (.bool true) t20_1) fun t21 => 
  condS t21
   (Q (.int .i64 2) w_8)
   (pur Try.prog (Builtin.len_ #[22] 3 #[v_l]) fun t23 => 
 lp 1 (fun J => fun t24 w_9 => ∀ _j : Fr, 
  pur Try.prog (binS .lss 3 false false t24 t23) fun t25 => 
  condS t25
   (pur Try.prog (Instr.indexAt 22 v_l t24) fun t26 => 
  rd Try.prog (Instr.loadAt 35 t26) (fun t27 => 
  act Try.prog (Instr.alloc 35 true (.tuple #[])) (fun t6 w_10 => 
  act Try.prog (thenU (Instr.storeAt 35 t6 t27)) (fun _ w_11 => 
  pur Try.prog (Instr.fieldAt 35 t6 1) fun t28 => 
  rd Try.prog (Instr.loadAt 3 t28) (fun t29 => 
  pur Try.prog (binS .neq 3 false true t29 (.int .i64 1)) fun t30 => 
  gd t30 true (fun k_3 w_12 => pur Try.prog (Instr.fieldAt 35 t6 1) fun t32 => k_3 t32 w_12) (fun t32_1 w_13 => 
  gd t30 true (fun k_4 w_14 => rd Try.prog (Instr.loadAt 3 t32_1) (fun t33 => k_4 t33 w_14) w_14) (fun t33_1 w_15 => 
  gd t30 true (fun k_5 w_16 => pur Try.prog (binS .neq 3 false true t33_1 (.int .i64 2)) fun t34 => k_5 t34 w_16) (fun t34_1 w_17 => 
  pur Try.prog (pickS t30 t34_1 (.bool false)) fun t35 => 
  condS t35
   (Q (.int .i64 1) w_17)
   (pur Try.prog (binS .add 3 false true t24 (.int .i64 1)) fun t36 => 
  J t36 w_17)) w_15) w_13) w_11) w_11) w_10) w_9) w_9)
   (pur Try.prog (Builtin.len_ #[22] 3 #[v_l]) fun t38 => 
 lp 1 (fun J_1 => fun t39 w_18 => ∀ _j : Fr, 
  pur Try.prog (binS .lss 3 false false t39 t38) fun t40 => 
  condS t40
   (pur Try.prog (Instr.indexAt 22 v_l t39) fun t41 => 
  rd Try.prog (Instr.loadAt 35 t41) (fun t42 => 
  act Try.prog (Instr.alloc 35 true (.tuple #[])) (fun t8 w_19 => 
  act Try.prog (thenU (Instr.storeAt 35 t8 t42)) (fun _ w_20 => 
  pur Try.prog (Instr.fieldAt 35 t8 0) fun t43 => 
  rd Try.prog (Instr.loadAt 33 t43) (fun t44 => 
  callS Try.prog 21 #[t44] (fun t45 w_21 => 
  pur Try.prog (Op.unary .not t45) fun t46 => 
  gd t46 false (fun k_6 w_22 => pur Try.prog (Instr.fieldAt 35 t8 0) fun t48 => k_6 t48 w_22) (fun t48_1 w_23 => 
  gd t46 false (fun k_7 w_24 => pur Try.prog (Instr.fieldAt 33 t48_1 1) fun t49 => k_7 t49 w_24) (fun t49_1 w_25 => 
  gd t46 false (fun k_8 w_26 => rd Try.prog (Instr.loadAt 3 t49_1) (fun t50 => k_8 t50 w_26) w_26) (fun t50_1 w_27 => 
  gd t46 false (fun k_9 w_28 => pur Try.prog (Instr.fieldAt 29 t2 1) fun t51 => k_9 t51 w_28) (fun t51_1 w_29 => 
  gd t46 false (fun k_10 w_30 => rd Try.prog (Instr.loadAt 3 t51_1) (fun t52 => k_10 t52 w_30) w_30) (fun t52_1 w_31 => 
  gd t46 false (fun k_11 w_32 => pur Try.prog (binS .gtr 3 false false t50_1 t52_1) fun t53 => k_11 t53 w_32) (fun t53_1 w_33 => 
  pur Try.prog (pickS t46 (.bool true) t53_1) fun t54 => 
  condS t54
   (Q (.int .i64 30) w_33)
   (pur Try.prog (binS .add 3 false true t39 (.int .i64 1)) fun t55 => 
  J_1 t55 w_33)) w_31) w_29) w_27) w_25) w_23) w_21) w_20) w_20) w_19) w_18) w_18)
   (Q (.int .i64 0) w_18)) [(.int .i64 0)] w_9)) [(.int .i64 0)] w_8)) w_6) w_4) w_2)) w_1) w_1) w
theorem eq12 (v_s v_l : Value) (Q : Value → World → Prop) (w : World) : semF Try.prog 12 [v_s, v_l] Q w = S12 v_s v_l Q w := by kernel_rfl
theorem ref12 {v_s v_l : Value} {Q : Value → World → Prop} {w : World} (h : S12 v_s v_l Q w) : callS Try.prog 12 #[v_s, v_l] Q w :=
  callS_of mix (fun a w => Try.call12 a w) (by kernel_rfl) (by rw [eq12]; exact h)
-- commons/imap.New[int]
def S13 (Q : Value → World → Prop) (w : World) : Prop :=
 pur Try.prog (Instr.build 60 #[]) fun t1 => 
 act Try.prog (Instr.box 60 t1) (fun t2 w_1 => 
 Q t2 w_1) w
theorem eq13 (Q : Value → World → Prop) (w : World) : semF Try.prog 13 [] Q w = S13 Q w := by kernel_rfl
theorem ref13 {Q : Value → World → Prop} {w : World} (h : S13 Q w) : callS Try.prog 13 #[] Q w :=
  callS_of mix (fun a w => Try.call13 a w) (by kernel_rfl) (by rw [eq13]; exact h)
-- commons/mode.Norm
def S14 (v_l : Value) (Q : Value → World → Prop) (w : World) : Prop :=
 callS Try.prog 23 #[v_l] (fun t4 w_1 => 
 callS Try.prog 22 #[t4] (fun t5 w_2 => 
 Q t5 w_2) w_1) w
theorem eq14 (v_l : Value) (Q : Value → World → Prop) (w : World) : semF Try.prog 14 [v_l] Q w = S14 v_l Q w := by kernel_rfl
theorem ref14 {v_l : Value} {Q : Value → World → Prop} {w : World} (h : S14 v_l Q w) : callS Try.prog 14 #[v_l] Q w :=
  callS_of mix (fun a w => Try.call14 a w) (by kernel_rfl) (by rw [eq14]; exact h)
-- (*commons/imap.Map[int]).Set
def S15 (v_m v_s v_v : Value) (Q : Value → World → Prop) (w : World) : Prop :=
 act Try.prog (Instr.box 33 v_s) (fun t4 w_1 => 
 rd Try.prog (binS .eql 44 false true v_m (.pointer none)) (fun t8 => 
 gd t8 false (fun k w_2 => rd Try.prog (Instr.loadAt 33 t4) (fun t10 => k t10 w_2) w_2) (fun t10_1 w_3 => 
 gd t8 false (fun k_1 w_4 => callS Try.prog 21 #[t10_1] (fun t11 w_5 => k_1 t11 w_5) w_4) (fun t11_1 w_6 => 
 gd t8 false (fun k_2 w_7 => pur Try.prog (Op.unary .not t11_1) fun t12 => k_2 t12 w_7) (fun t12_1 w_8 => 
 pur Try.prog (pickS t8 (.bool true) t12_1) fun t13 => 
 condS t13
  (Q (.bool false) w_8)
  (jn 0 (fun J => 
  ∃ S : World → Prop, S (World.drew w_8) ∧ 
 hld Try.prog S (Instr.loadAt 33 t4) fun t16 => 
  hld Try.prog S (Instr.loadAt 33 t4) fun t18 => 
  pur Try.prog (Instr.build 66 #[(0, t18), (1, v_v)]) fun t20 => 
  (callS Try.prog 25 #[v_m, t16] (fun t17 w_9 => S w_9 ∧ 
  act Try.prog (Instr.buildSlice 58 1 #[(0, t20)]) (fun t21 w_10 => S w_10 ∧ 
  act Try.prog (Builtin.append_ #[58, 58] 58 #[t17, t21]) (fun t22 w_11 => S w_11 ∧ 
  callS Try.prog 24 #[v_m, t22] (fun _ w_12 => S w_12 ∧ 
  J  w_12) w_11) w_10) w_9) (World.drew w_8)
  ) ∧ (act Try.prog (Instr.buildSlice 58 1 #[(0, t20)]) (fun t21_1 w_13 => S w_13 ∧ 
  callS Try.prog 25 #[v_m, t16] (fun t17_1 w_14 => S w_14 ∧ 
  act Try.prog (Builtin.append_ #[58, 58] 58 #[t17_1, t21_1]) (fun t22_1 w_15 => S w_15 ∧ 
  callS Try.prog 24 #[v_m, t22_1] (fun _ w_16 => S w_16 ∧ 
  J  w_16) w_15) w_14) w_13) (World.drew w_8)))
 (fun  w_17 => ∀ _j : Fr, 
  Q (.bool true) w_17))) w_6) w_3) w_1) w_1) w
theorem eq15 (v_m v_s v_v : Value) (Q : Value → World → Prop) (w : World) : semF Try.prog 15 [v_m, v_s, v_v] Q w = S15 v_m v_s v_v Q w := by kernel_rfl
theorem ref15 {v_m v_s v_v : Value} {Q : Value → World → Prop} {w : World} (h : S15 v_m v_s v_v Q w) : callS Try.prog 15 #[v_m, v_s, v_v] Q w :=
  callS_of mix (fun a w => Try.call15 a w) (by kernel_rfl) (by rw [eq15]; exact h)
-- (*commons/tx.Tx).none
def S16 (v_t : Value) (Q : Value → World → Prop) (w : World) : Prop :=
 rd Try.prog (binS .eql 24 false true v_t (.pointer none)) (fun t4 => 
 gd t4 false (fun k w_1 => k v_t w_1) (fun t6_1 w_2 => 
 gd t4 false (fun k_1 w_3 => pur Try.prog (nilV t6_1) fun t7 => k_1 t7 w_3) (fun t7_1 w_4 => 
 gd t4 false (fun k_2 w_5 => pur Try.prog (Instr.fieldAt 48 t7_1 1) fun t8 => k_2 t8 w_5) (fun t8_1 w_6 => 
 gd t4 false (fun k_3 w_7 => rd Try.prog (Instr.loadAt 44 t8_1) (fun t9 => k_3 t9 w_7) w_7) (fun t9_1 w_8 => 
 gd t4 false (fun k_4 w_9 => rd Try.prog (binS .eql 44 false true t9_1 (.pointer none)) (fun t10 => k_4 t10 w_9) w_9) (fun t10_1 w_10 => 
 pur Try.prog (pickS t4 (.bool true) t10_1) fun t11 => 
 Q t11 w_10) w_8) w_6) w_4) w_2) w) w
theorem eq16 (v_t : Value) (Q : Value → World → Prop) (w : World) : semF Try.prog 16 [v_t] Q w = S16 v_t Q w := by kernel_rfl
theorem ref16 {v_t : Value} {Q : Value → World → Prop} {w : World} (h : S16 v_t Q w) : callS Try.prog 16 #[v_t] Q w :=
  callS_of mix (fun a w => Try.call16 a w) (by kernel_rfl) (by rw [eq16]; exact h)
-- (*commons/imap.Map[int]).Get
def S17 (v_m v_block : Value) (Q : Value → World → Prop) (w : World) : Prop :=
 rd Try.prog (binS .eql 44 false true v_m (.pointer none)) (fun t10 => 
 condS t10
  (Q (.tuple #[(.int .i64 0), (.bool false)]) w)
  (pur Try.prog (nilV v_m) fun t13 => 
 pur Try.prog (Instr.fieldAt 60 t13 0) fun t14 => 
 rd Try.prog (Instr.loadAt 58 t14) (fun t15 => 
 pur Try.prog (Builtin.len_ #[58] 3 #[t15]) fun t16 => 
 lp 1 (fun J => fun t17 w_1 => ∀ _j : Fr, 
  pur Try.prog (binS .lss 3 false false t17 t16) fun t18 => 
  condS t18
   (pur Try.prog (Instr.indexAt 58 t15 t17) fun t19 => 
  rd Try.prog (Instr.loadAt 66 t19) (fun t20 => 
  act Try.prog (Instr.alloc 66 true (.tuple #[])) (fun t8 w_2 => 
  act Try.prog (thenU (Instr.storeAt 66 t8 t20)) (fun _ w_3 => 
  pur Try.prog (Instr.fieldAt 66 t8 0) fun t21 => 
  rd Try.prog (Instr.loadAt 33 t21) (fun t22 => 
  callS Try.prog 26 #[t22, v_block] (fun t24 w_4 => 
  condS t24
   (pur Try.prog (Instr.fieldAt 66 t8 1) fun t25 => 
   rd Try.prog (Instr.loadAt 3 t25) (fun t26 => 
   Q (.tuple #[t26, (.bool true)]) w_4) w_4)
   (pur Try.prog (binS .add 3 false true t17 (.int .i64 1)) fun t27 => 
  J t27 w_4)) w_3) w_3) w_2) w_1) w_1)
   (Q (.tuple #[(.int .i64 0), (.bool false)]) w_1)) [(.int .i64 0)] w) w)) w
theorem eq17 (v_m v_block : Value) (Q : Value → World → Prop) (w : World) : semF Try.prog 17 [v_m, v_block] Q w = S17 v_m v_block Q w := by kernel_rfl
theorem ref17 {v_m v_block : Value} {Q : Value → World → Prop} {w : World} (h : S17 v_m v_block Q w) : callS Try.prog 17 #[v_m, v_block] Q w :=
  callS_of mix (fun a w => Try.call17 a w) (by kernel_rfl) (by rw [eq17]; exact h)
-- commons/block.Pad
def S18 (v_s : Value) (Q : Value → World → Prop) (w : World) : Prop :=
 pur Try.prog (Builtin.len_ #[9] 3 #[v_s]) fun t5 => 
 pur Try.prog (binS .gtr 3 false true t5 (.int .i64 96)) fun t6 => 
 condS t6
  (Q (.tuple #[(.string ⟨#[]⟩), (.int .i64 2)]) w)
  (pur Try.prog (Builtin.len_ #[9] 3 #[v_s]) fun t9 => 
 pur Try.prog (binS .sub 3 true false (.int .i64 96) t9) fun t10 => 
 callS Try.prog 27 #[t10] (fun t11 w_1 => 
 pur Try.prog (binS .add 9 false false v_s t11) fun t12 => 
 Q (.tuple #[t12, (.int .i64 0)]) w_1) w)
theorem eq18 (v_s : Value) (Q : Value → World → Prop) (w : World) : semF Try.prog 18 [v_s] Q w = S18 v_s Q w := by kernel_rfl
theorem ref18 {v_s : Value} {Q : Value → World → Prop} {w : World} (h : S18 v_s Q w) : callS Try.prog 18 #[v_s] Q w :=
  callS_of mix (fun a w => Try.call18 a w) (by kernel_rfl) (by rw [eq18]; exact h)
-- commons/rec.Most
def S19 (v_log : Value) (Q : Value → World → Prop) (w : World) : Prop :=
 pur Try.prog (binS .lss 3 false true v_log (.int .i64 1)) fun t5 => 
 gd t5 false (fun k w_1 => k v_log w_1) (fun t7_1 w_2 => 
 gd t5 false (fun k_1 w_3 => pur Try.prog (binS .gtr 3 false true t7_1 (.int .i64 100000)) fun t8 => k_1 t8 w_3) (fun t8_1 w_4 => 
 pur Try.prog (pickS t5 (.bool true) t8_1) fun t9 => 
 condS t9
  (Q (.int .i64 0) w_4)
  (lp 1 (fun J => fun v_n w_5 => ∀ _j : Fr, 
  pur Try.prog (binS .lss 3 false true v_n (.int .i64 60)) fun t11 => 
  gd t11 true (fun k_2 w_6 => k_2 v_n w_6) (fun t13_1 w_7 => 
  gd t11 true (fun k_3 w_8 => pur Try.prog (binS .add 3 false true t13_1 (.int .i64 1)) fun t14 => k_3 t14 w_8) (fun t14_1 w_9 => 
  gd t11 true (fun k_4 w_10 => callS Try.prog 28 #[t14_1] (fun t15 w_11 => k_4 t15 w_11) w_10) (fun t15_1 w_12 => 
  gd t11 true (fun k_5 w_13 => k_5 v_log w_13) (fun t16_1 w_14 => 
  gd t11 true (fun k_6 w_15 => pur Try.prog (binS .sub 3 false true t16_1 (.int .i64 1)) fun t17 => k_6 t17 w_15) (fun t17_1 w_16 => 
  gd t11 true (fun k_7 w_17 => pur Try.prog (binS .quo 3 false true t17_1 (.int .i64 2)) fun t18 => k_7 t18 w_17) (fun t18_1 w_18 => 
  gd t11 true (fun k_8 w_19 => pur Try.prog (binS .leq 3 false false t15_1 t18_1) fun t19 => k_8 t19 w_19) (fun t19_1 w_20 => 
  pur Try.prog (pickS t11 t19_1 (.bool false)) fun t20 => 
  condS t20
   (pur Try.prog (binS .add 3 false true v_n (.int .i64 1)) fun t22 => 
  J t22 w_20)
   (Q v_n w_20)) w_18) w_16) w_14) w_12) w_9) w_7) w_5) [(.int .i64 0)] w_4)) w_2) w
theorem eq19 (v_log : Value) (Q : Value → World → Prop) (w : World) : semF Try.prog 19 [v_log] Q w = S19 v_log Q w := by kernel_rfl
theorem ref19 {v_log : Value} {Q : Value → World → Prop} {w : World} (h : S19 v_log Q w) : callS Try.prog 19 #[v_log] Q w :=
  callS_of mix (fun a w => Try.call19 a w) (by kernel_rfl) (by rw [eq19]; exact h)
-- commons/super.Valid
def S20 (v_s : Value) (Q : Value → World → Prop) (w : World) : Prop :=
 act Try.prog (Instr.box 29 v_s) (fun t1 w_1 => 
 pur Try.prog (Instr.fieldAt 29 t1 0) fun t3 => 
 rd Try.prog (Instr.loadAt 3 t3) (fun t4 => 
 callS Try.prog 29 #[t4, (.int .i64 1), (.int .i64 16)] (fun t5 w_2 => 
 gd t5 true (fun k w_3 => pur Try.prog (Instr.fieldAt 29 t1 1) fun t7 => k t7 w_3) (fun t7_1 w_4 => 
 gd t5 true (fun k_1 w_5 => rd Try.prog (Instr.loadAt 3 t7_1) (fun t8 => k_1 t8 w_5) w_5) (fun t8_1 w_6 => 
 gd t5 true (fun k_2 w_7 => callS Try.prog 29 #[t8_1, (.int .i64 1), (.int .i64 4096)] (fun t9 w_8 => k_2 t9 w_8) w_7) (fun t9_1 w_9 => 
 pur Try.prog (pickS t5 t9_1 (.bool false)) fun t10 => 
 gd t10 true (fun k_3 w_10 => pur Try.prog (Instr.fieldAt 29 t1 2) fun t12 => k_3 t12 w_10) (fun t12_1 w_11 => 
 gd t10 true (fun k_4 w_12 => rd Try.prog (Instr.loadAt 3 t12_1) (fun t13 => k_4 t13 w_12) w_12) (fun t13_1 w_13 => 
 gd t10 true (fun k_5 w_14 => callS Try.prog 29 #[t13_1, (.int .i64 8), (.int .i64 256)] (fun t14 w_15 => k_5 t14 w_15) w_14) (fun t14_1 w_16 => 
 pur Try.prog (pickS t10 t14_1 (.bool false)) fun t15 => 
 gd t15 true (fun k_6 w_17 => pur Try.prog (Instr.fieldAt 29 t1 3) fun t17 => k_6 t17 w_17) (fun t17_1 w_18 => 
 gd t15 true (fun k_7 w_19 => rd Try.prog (Instr.loadAt 3 t17_1) (fun t18 => k_7 t18 w_19) w_19) (fun t18_1 w_20 => 
 gd t15 true (fun k_8 w_21 => callS Try.prog 29 #[t18_1, (.int .i64 2), (.int .i64 1000)] (fun t19 w_22 => k_8 t19 w_22) w_21) (fun t19_1 w_23 => 
 pur Try.prog (pickS t15 t19_1 (.bool false)) fun t20 => 
 gd t20 true (fun k_9 w_24 => pur Try.prog (Instr.fieldAt 29 t1 4) fun t22 => k_9 t22 w_24) (fun t22_1 w_25 => 
 gd t20 true (fun k_10 w_26 => rd Try.prog (Instr.loadAt 3 t22_1) (fun t23 => k_10 t23 w_26) w_26) (fun t23_1 w_27 => 
 gd t20 true (fun k_11 w_28 => callS Try.prog 29 #[t23_1, (.int .i64 32), (.int .i64 1000)] (fun t24 w_29 => k_11 t24 w_29) w_28) (fun t24_1 w_30 => 
 pur Try.prog (pickS t20 t24_1 (.bool false)) fun t25 => 
 Q t25 w_30) w_27) w_25) w_23) w_20) w_18) w_16) w_13) w_11) w_9) w_6) w_4) w_2) w_1) w_1) w
theorem eq20 (v_s : Value) (Q : Value → World → Prop) (w : World) : semF Try.prog 20 [v_s] Q w = S20 v_s Q w := by kernel_rfl
theorem ref20 {v_s : Value} {Q : Value → World → Prop} {w : World} (h : S20 v_s Q w) : callS Try.prog 20 #[v_s] Q w :=
  callS_of mix (fun a w => Try.call20 a w) (by kernel_rfl) (by rw [eq20]; exact h)
-- commons/span.Valid
def S21 (v_s : Value) (Q : Value → World → Prop) (w : World) : Prop :=
 act Try.prog (Instr.box 33 v_s) (fun t1 w_1 => 
 pur Try.prog (Instr.fieldAt 33 t1 0) fun t3 => 
 rd Try.prog (Instr.loadAt 3 t3) (fun t4 => 
 pur Try.prog (binS .geq 3 false true t4 (.int .i64 0)) fun t5 => 
 gd t5 true (fun k w_2 => pur Try.prog (Instr.fieldAt 33 t1 0) fun t7 => k t7 w_2) (fun t7_1 w_3 => 
 gd t5 true (fun k_1 w_4 => rd Try.prog (Instr.loadAt 3 t7_1) (fun t8 => k_1 t8 w_4) w_4) (fun t8_1 w_5 => 
 gd t5 true (fun k_2 w_6 => pur Try.prog (Instr.fieldAt 33 t1 1) fun t9 => k_2 t9 w_6) (fun t9_1 w_7 => 
 gd t5 true (fun k_3 w_8 => rd Try.prog (Instr.loadAt 3 t9_1) (fun t10 => k_3 t10 w_8) w_8) (fun t10_1 w_9 => 
 gd t5 true (fun k_4 w_10 => pur Try.prog (binS .lss 3 false false t8_1 t10_1) fun t11 => k_4 t11 w_10) (fun t11_1 w_11 => 
 pur Try.prog (pickS t5 t11_1 (.bool false)) fun t12 => 
 Q t12 w_11) w_9) w_7) w_5) w_3) w_1) w_1) w
theorem eq21 (v_s : Value) (Q : Value → World → Prop) (w : World) : semF Try.prog 21 [v_s] Q w = S21 v_s Q w := by kernel_rfl
theorem ref21 {v_s : Value} {Q : Value → World → Prop} {w : World} (h : S21 v_s Q w) : callS Try.prog 21 #[v_s] Q w :=
  callS_of mix (fun a w => Try.call21 a w) (by kernel_rfl) (by rw [eq21]; exact h)
-- commons/mode.locks
def S22 (v_m : Value) (Q : Value → World → Prop) (w : World) : Prop :=
 callS Try.prog 30 #[v_m] (fun t7 w_1 => 
 pur Try.prog (Builtin.len_ #[58] 3 #[t7]) fun t8 => 
 lp 2 (fun J => fun v_out t9 w_2 => ∀ _j : Fr, 
  pur Try.prog (binS .lss 3 false false t9 t8) fun t10 => 
  condS t10
   (pur Try.prog (Instr.indexAt 58 t7 t9) fun t11 => 
  rd Try.prog (Instr.loadAt 66 t11) (fun t12 => 
  act Try.prog (Instr.alloc 66 true (.tuple #[])) (fun t5 w_3 => 
  act Try.prog (thenU (Instr.storeAt 66 t5 t12)) (fun _ w_4 => 
  pur Try.prog (Instr.fieldAt 66 t5 0) fun t14 => 
  rd Try.prog (Instr.loadAt 33 t14) (fun t15 => 
  pur Try.prog (Instr.fieldAt 66 t5 1) fun t16 => 
  rd Try.prog (Instr.loadAt 3 t16) (fun t17 => 
  pur Try.prog (Instr.build 35 #[(0, t15), (1, t17)]) fun t18 => 
  act Try.prog (Instr.buildSlice 22 1 #[(0, t18)]) (fun t19 w_5 => 
  act Try.prog (Builtin.append_ #[22, 22] 22 #[v_out, t19]) (fun t20 w_6 => 
  pur Try.prog (binS .add 3 false true t9 (.int .i64 1)) fun t21 => 
  J t20 t21 w_6) w_5) w_4) w_4) w_4) w_3) w_2) w_2)
   (Q v_out w_2)) [(.slice none 0 0), (.int .i64 0)] w_1) w
theorem eq22 (v_m : Value) (Q : Value → World → Prop) (w : World) : semF Try.prog 22 [v_m] Q w = S22 v_m Q w := by kernel_rfl
theorem ref22 {v_m : Value} {Q : Value → World → Prop} {w : World} (h : S22 v_m Q w) : callS Try.prog 22 #[v_m] Q w :=
  callS_of mix (fun a w => Try.call22 a w) (by kernel_rfl) (by rw [eq22]; exact h)
-- commons/mode.asked
def S23 (v_l : Value) (Q : Value → World → Prop) (w : World) : Prop :=
 callS Try.prog 13 #[] (fun t6 w_1 => 
 pur Try.prog (Builtin.len_ #[22] 3 #[v_l]) fun t8 => 
 lp 1 (fun J => fun t9 w_2 => ∀ _j : Fr, 
  pur Try.prog (binS .lss 3 false false t9 t8) fun t10 => 
  condS t10
   (jn 0 (fun J_1 => 
   pur Try.prog (Instr.indexAt 22 v_l t9) fun t11 => 
   rd Try.prog (Instr.loadAt 35 t11) (fun t12 => 
   act Try.prog (Instr.alloc 35 true (.tuple #[])) (fun t5 w_3 => 
   act Try.prog (thenU (Instr.storeAt 35 t5 t12)) (fun _ w_4 => 
   pur Try.prog (Instr.fieldAt 35 t5 1) fun t13 => 
   rd Try.prog (Instr.loadAt 3 t13) (fun t14 => 
   pur Try.prog (binS .eql 3 false true t14 (.int .i64 1)) fun t15 => 
   gd t15 false (fun k w_5 => pur Try.prog (Instr.fieldAt 35 t5 1) fun t17 => k t17 w_5) (fun t17_1 w_6 => 
   gd t15 false (fun k_1 w_7 => rd Try.prog (Instr.loadAt 3 t17_1) (fun t18 => k_1 t18 w_7) w_7) (fun t18_1 w_8 => 
   gd t15 false (fun k_2 w_9 => pur Try.prog (binS .eql 3 false true t18_1 (.int .i64 2)) fun t19 => k_2 t19 w_9) (fun t19_1 w_10 => 
   pur Try.prog (pickS t15 (.bool true) t19_1) fun t20 => 
   condS t20
    (rd Try.prog (Instr.loadAt 35 t5) (fun t22 => 
    callS Try.prog 31 #[t6, t22] (fun _ w_11 => 
    J_1  w_11) w_10) w_10)
    (J_1  w_10)) w_8) w_6) w_4) w_4) w_3) w_2) w_2)
  (fun  w_12 => ∀ _j : Fr, 
   pur Try.prog (binS .add 3 false true t9 (.int .i64 1)) fun t24 => 
   J t24 w_12))
   (Q t6 w_2)) [(.int .i64 0)] w_1) w
theorem eq23 (v_l : Value) (Q : Value → World → Prop) (w : World) : semF Try.prog 23 [v_l] Q w = S23 v_l Q w := by kernel_rfl
theorem ref23 {v_l : Value} {Q : Value → World → Prop} {w : World} (h : S23 v_l Q w) : callS Try.prog 23 #[v_l] Q w :=
  callS_of mix (fun a w => Try.call23 a w) (by kernel_rfl) (by rw [eq23]; exact h)
-- (*commons/imap.Map[int]).lay
def S24 (v_m v_l : Value) (Q : Value → World → Prop) (w : World) : Prop :=
 callS Try.prog 32 #[v_l, (.func (.func 33) #[] #[])] (fun _ w_1 => 
 pur Try.prog (nilV v_m) fun t10 => 
 pur Try.prog (Instr.fieldAt 60 t10 0) fun t11 => 
 act Try.prog (thenU (Instr.storeAt 58 t11 (.slice none 0 0))) (fun _ w_2 => 
 pur Try.prog (Builtin.len_ #[58] 3 #[v_l]) fun t13 => 
 lp 1 (fun J => fun t14 w_3 => ∀ _j : Fr, 
  pur Try.prog (binS .lss 3 false false t14 t13) fun t15 => 
  condS t15
   (jn 0 (fun J_1 => 
   pur Try.prog (Instr.indexAt 58 v_l t14) fun t16 => 
   rd Try.prog (Instr.loadAt 66 t16) (fun t17 => 
   act Try.prog (Instr.alloc 66 true (.tuple #[])) (fun t5 w_4 => 
   act Try.prog (thenU (Instr.storeAt 66 t5 t17)) (fun _ w_5 => 
   pur Try.prog (nilV v_m) fun t19 => 
   pur Try.prog (Instr.fieldAt 60 t19 0) fun t20 => 
   rd Try.prog (Instr.loadAt 58 t20) (fun t21 => 
   pur Try.prog (Builtin.len_ #[58] 3 #[t21]) fun t22 => 
   pur Try.prog (binS .sub 3 false true t22 (.int .i64 1)) fun t23 => 
   pur Try.prog (binS .geq 3 false true t23 (.int .i64 0)) fun t25 => 
   gd t25 true (fun k w_6 => k v_m w_6) (fun t27_1 w_7 => 
   gd t25 true (fun k_1 w_8 => pur Try.prog (nilV t27_1) fun t28 => k_1 t28 w_8) (fun t28_1 w_9 => 
   gd t25 true (fun k_2 w_10 => pur Try.prog (Instr.fieldAt 60 t28_1 0) fun t29 => k_2 t29 w_10) (fun t29_1 w_11 => 
   gd t25 true (fun k_3 w_12 => rd Try.prog (Instr.loadAt 58 t29_1) (fun t30 => k_3 t30 w_12) w_12) (fun t30_1 w_13 => 
   gd t25 true (fun k_4 w_14 => k_4 t23 w_14) (fun t31_1 w_15 => 
   gd t25 true (fun k_5 w_16 => pur Try.prog (Instr.indexAt 58 t30_1 t31_1) fun t32 => k_5 t32 w_16) (fun t32_1 w_17 => 
   gd t25 true (fun k_6 w_18 => pur Try.prog (Instr.fieldAt 66 t32_1 0) fun t33 => k_6 t33 w_18) (fun t33_1 w_19 => 
   gd t25 true (fun k_7 w_20 => pur Try.prog (Instr.fieldAt 33 t33_1 1) fun t34 => k_7 t34 w_20) (fun t34_1 w_21 => 
   gd t25 true (fun k_8 w_22 => rd Try.prog (Instr.loadAt 3 t34_1) (fun t35 => k_8 t35 w_22) w_22) (fun t35_1 w_23 => 
   gd t25 true (fun k_9 w_24 => pur Try.prog (Instr.fieldAt 66 t5 0) fun t36 => k_9 t36 w_24) (fun t36_1 w_25 => 
   gd t25 true (fun k_10 w_26 => pur Try.prog (Instr.fieldAt 33 t36_1 0) fun t37 => k_10 t37 w_26) (fun t37_1 w_27 => 
   gd t25 true (fun k_11 w_28 => rd Try.prog (Instr.loadAt 3 t37_1) (fun t38 => k_11 t38 w_28) w_28) (fun t38_1 w_29 => 
   gd t25 true (fun k_12 w_30 => pur Try.prog (binS .eql 3 false false t35_1 t38_1) fun t39 => k_12 t39 w_30) (fun t39_1 w_31 => 
   pur Try.prog (pickS t25 t39_1 (.bool false)) fun t40 => 
   gd t40 true (fun k_13 w_32 => k_13 v_m w_32) (fun t42_1 w_33 => 
   gd t40 true (fun k_14 w_34 => pur Try.prog (nilV t42_1) fun t43 => k_14 t43 w_34) (fun t43_1 w_35 => 
   gd t40 true (fun k_15 w_36 => pur Try.prog (Instr.fieldAt 60 t43_1 0) fun t44 => k_15 t44 w_36) (fun t44_1 w_37 => 
   gd t40 true (fun k_16 w_38 => rd Try.prog (Instr.loadAt 58 t44_1) (fun t45 => k_16 t45 w_38) w_38) (fun t45_1 w_39 => 
   gd t40 true (fun k_17 w_40 => k_17 t23 w_40) (fun t46_1 w_41 => 
   gd t40 true (fun k_18 w_42 => pur Try.prog (Instr.indexAt 58 t45_1 t46_1) fun t47 => k_18 t47 w_42) (fun t47_1 w_43 => 
   gd t40 true (fun k_19 w_44 => pur Try.prog (Instr.fieldAt 66 t47_1 1) fun t48 => k_19 t48 w_44) (fun t48_1 w_45 => 
   gd t40 true (fun k_20 w_46 => rd Try.prog (Instr.loadAt 3 t48_1) (fun t49 => k_20 t49 w_46) w_46) (fun t49_1 w_47 => 
   gd t40 true (fun k_21 w_48 => pur Try.prog (Instr.fieldAt 66 t5 1) fun t50 => k_21 t50 w_48) (fun t50_1 w_49 => 
   gd t40 true (fun k_22 w_50 => rd Try.prog (Instr.loadAt 3 t50_1) (fun t51 => k_22 t51 w_50) w_50) (fun t51_1 w_51 => 
   gd t40 true (fun k_23 w_52 => pur Try.prog (binS .eql 3 false false t49_1 t51_1) fun t52 => k_23 t52 w_52) (fun t52_1 w_53 => 
   pur Try.prog (pickS t40 t52_1 (.bool false)) fun t53 => 
   condS t53
    (pur Try.prog (nilV v_m) fun t55 => 
    pur Try.prog (Instr.fieldAt 60 t55 0) fun t56 => 
    rd Try.prog (Instr.loadAt 58 t56) (fun t57 => 
    pur Try.prog (Instr.fieldAt 66 t5 0) fun t59 => 
    pur Try.prog (Instr.fieldAt 33 t59 1) fun t60 => 
    rd Try.prog (Instr.loadAt 3 t60) (fun t61 => 
    pur Try.prog (Instr.indexAt 58 t57 t23) fun t62 => 
    pur Try.prog (Instr.fieldAt 66 t62 0) fun t63 => 
    pur Try.prog (Instr.fieldAt 33 t63 1) fun t64 => 
    act Try.prog (thenU (Instr.storeAt 3 t64 t61)) (fun _ w_54 => 
    J_1  w_54) (World.drew w_53)) (World.drew w_53)) (World.drew w_53))
    (jn 0 (fun J_2 => 
     pur Try.prog (nilV v_m) fun t67 => 
     pur Try.prog (Instr.fieldAt 60 t67 0) fun t68 => 
     rd Try.prog (Instr.loadAt 66 t5) (fun t70 => 
     (rd Try.prog (Instr.loadAt 58 t68) (fun t69 => 
     act Try.prog (Instr.buildSlice 58 1 #[(0, t70)]) (fun t71 w_55 => 
     act Try.prog (Builtin.append_ #[58, 58] 58 #[t69, t71]) (fun t72 w_56 => 
     pur Try.prog (nilV v_m) fun t73 => 
     pur Try.prog (Instr.fieldAt 60 t73 0) fun t74 => 
     act Try.prog (thenU (Instr.storeAt 58 t74 t72)) (fun _ w_57 => 
     J_2  w_57) w_56) w_55) (World.drew w_53)) (World.drew w_53)
     ) ∧ (act Try.prog (Instr.buildSlice 58 1 #[(0, t70)]) (fun t71_1 w_58 => 
     rd Try.prog (Instr.loadAt 58 t68) (fun t69_1 => 
     act Try.prog (Builtin.append_ #[58, 58] 58 #[t69_1, t71_1]) (fun t72_1 w_59 => 
     pur Try.prog (nilV v_m) fun t73_1 => 
     pur Try.prog (Instr.fieldAt 60 t73_1 0) fun t74_1 => 
     act Try.prog (thenU (Instr.storeAt 58 t74_1 t72_1)) (fun _ w_60 => 
     J_2  w_60) w_59) w_58) w_58) (World.drew w_53))) (World.drew w_53))
    (fun  w_61 => ∀ _j : Fr, 
     J_1  w_61))) w_51) w_49) w_47) w_45) w_43) w_41) w_39) w_37) w_35) w_33) w_31) w_29) w_27) w_25) w_23) w_21) w_19) w_17) w_15) w_13) w_11) w_9) w_7) (World.drew w_5)) w_5) w_4) w_3) w_3)
  (fun  w_62 => ∀ _j : Fr, 
   pur Try.prog (binS .add 3 false true t14 (.int .i64 1)) fun t75 => 
   J t75 w_62))
   (Q (.tuple #[]) w_3)) [(.int .i64 0)] w_2) w_1) w
theorem eq24 (v_m v_l : Value) (Q : Value → World → Prop) (w : World) : semF Try.prog 24 [v_m, v_l] Q w = S24 v_m v_l Q w := by kernel_rfl
theorem ref24 {v_m v_l : Value} {Q : Value → World → Prop} {w : World} (h : S24 v_m v_l Q w) : callS Try.prog 24 #[v_m, v_l] Q w :=
  callS_of mix (fun a w => Try.call24 a w) (by kernel_rfl) (by rw [eq24]; exact h)
-- (*commons/imap.Map[int]).without
def S25 (v_m v_s : Value) (Q : Value → World → Prop) (w : World) : Prop :=
 act Try.prog (Instr.box 33 v_s) (fun t3 w_1 => 
 pur Try.prog (nilV v_m) fun t11 => 
 pur Try.prog (Instr.fieldAt 60 t11 0) fun t12 => 
 rd Try.prog (Instr.loadAt 58 t12) (fun t13 => 
 pur Try.prog (Builtin.len_ #[58] 3 #[t13]) fun t14 => 
 lp 2 (fun J => fun v_out t15 w_2 => ∀ _j : Fr, 
  pur Try.prog (binS .lss 3 false false t15 t14) fun t16 => 
  condS t16
   (pur Try.prog (Instr.indexAt 58 t13 t15) fun t17 => 
  rd Try.prog (Instr.loadAt 66 t17) (fun t18 => 
  act Try.prog (Instr.alloc 66 true (.tuple #[])) (fun t7 w_3 => 
  act Try.prog (thenU (Instr.storeAt 66 t7 t18)) (fun _ w_4 => 
  pur Try.prog (Instr.fieldAt 66 t7 0) fun t19 => 
  rd Try.prog (Instr.loadAt 33 t19) (fun t20 => 
  act Try.prog (Instr.buildSlice 74 1 #[(0, t20)]) (fun t21 w_5 => 
  rd Try.prog (Instr.loadAt 33 t3) (fun t22 => 
  act Try.prog (Instr.buildSlice 74 1 #[(0, t22)]) (fun t23 w_6 => 
  callS Try.prog 35 #[t21, t23] (fun t24 w_7 => 
  pur Try.prog (Builtin.len_ #[74] 3 #[t24]) fun t25 => 
  lp 2 (fun J_1 => fun v_out_1 t26 w_8 => ∀ _j : Fr, 
   pur Try.prog (binS .lss 3 false false t26 t25) fun t27 => 
   condS t27
    (pur Try.prog (Instr.indexAt 74 t24 t26) fun t28 => 
   rd Try.prog (Instr.loadAt 33 t28) (fun t29 => 
   act Try.prog (Instr.alloc 33 true (.tuple #[])) (fun t9 w_9 => 
   act Try.prog (thenU (Instr.storeAt 33 t9 t29)) (fun _ w_10 => 
   rd Try.prog (Instr.loadAt 33 t9) (fun t31 => 
   pur Try.prog (Instr.fieldAt 66 t7 1) fun t32 => 
   rd Try.prog (Instr.loadAt 3 t32) (fun t33 => 
   pur Try.prog (Instr.build 66 #[(0, t31), (1, t33)]) fun t34 => 
   act Try.prog (Instr.buildSlice 58 1 #[(0, t34)]) (fun t35 w_11 => 
   act Try.prog (Builtin.append_ #[58, 58] 58 #[v_out_1, t35]) (fun t36 w_12 => 
   pur Try.prog (binS .add 3 false true t26 (.int .i64 1)) fun t37 => 
   J_1 t36 t37 w_12) w_11) w_10) w_10) w_10) w_9) w_8) w_8)
    (pur Try.prog (binS .add 3 false true t15 (.int .i64 1)) fun t38 => 
  J v_out_1 t38 w_8)) [v_out, (.int .i64 0)] w_7) w_6) w_5) w_5) w_4) w_4) w_3) w_2) w_2)
   (Q v_out w_2)) [(.slice none 0 0), (.int .i64 0)] w_1) w_1) w
theorem eq25 (v_m v_s : Value) (Q : Value → World → Prop) (w : World) : semF Try.prog 25 [v_m, v_s] Q w = S25 v_m v_s Q w := by kernel_rfl
theorem ref25 {v_m v_s : Value} {Q : Value → World → Prop} {w : World} (h : S25 v_m v_s Q w) : callS Try.prog 25 #[v_m, v_s] Q w :=
  callS_of mix (fun a w => Try.call25 a w) (by kernel_rfl) (by rw [eq25]; exact h)
-- commons/span.Has
def S26 (v_s v_block : Value) (Q : Value → World → Prop) (w : World) : Prop :=
 act Try.prog (Instr.box 33 v_s) (fun t2 w_1 => 
 rd Try.prog (Instr.loadAt 33 t2) (fun t5 => 
 callS Try.prog 21 #[t5] (fun t6 w_2 => 
 gd t6 true (fun k w_3 => pur Try.prog (Instr.fieldAt 33 t2 0) fun t8 => k t8 w_3) (fun t8_1 w_4 => 
 gd t6 true (fun k_1 w_5 => rd Try.prog (Instr.loadAt 3 t8_1) (fun t9 => k_1 t9 w_5) w_5) (fun t9_1 w_6 => 
 gd t6 true (fun k_2 w_7 => k_2 v_block w_7) (fun t10_1 w_8 => 
 gd t6 true (fun k_3 w_9 => pur Try.prog (binS .leq 3 false false t9_1 t10_1) fun t11 => k_3 t11 w_9) (fun t11_1 w_10 => 
 pur Try.prog (pickS t6 t11_1 (.bool false)) fun t12 => 
 gd t12 true (fun k_4 w_11 => k_4 v_block w_11) (fun t14_1 w_12 => 
 gd t12 true (fun k_5 w_13 => pur Try.prog (Instr.fieldAt 33 t2 1) fun t15 => k_5 t15 w_13) (fun t15_1 w_14 => 
 gd t12 true (fun k_6 w_15 => rd Try.prog (Instr.loadAt 3 t15_1) (fun t16 => k_6 t16 w_15) w_15) (fun t16_1 w_16 => 
 gd t12 true (fun k_7 w_17 => pur Try.prog (binS .lss 3 false false t14_1 t16_1) fun t17 => k_7 t17 w_17) (fun t17_1 w_18 => 
 pur Try.prog (pickS t12 t17_1 (.bool false)) fun t18 => 
 Q t18 w_18) w_16) w_14) w_12) w_10) w_8) w_6) w_4) w_2) w_1) w_1) w
theorem eq26 (v_s v_block : Value) (Q : Value → World → Prop) (w : World) : semF Try.prog 26 [v_s, v_block] Q w = S26 v_s v_block Q w := by kernel_rfl
theorem ref26 {v_s v_block : Value} {Q : Value → World → Prop} {w : World} (h : S26 v_s v_block Q w) : callS Try.prog 26 #[v_s, v_block] Q w :=
  callS_of mix (fun a w => Try.call26 a w) (by kernel_rfl) (by rw [eq26]; exact h)
-- commons/block.zero
def S27 (v_n : Value) (Q : Value → World → Prop) (w : World) : Prop :=
 callS Try.prog 36 #[(.string ⟨#[0]⟩), v_n] (fun t4 w_1 => 
 Q t4 w_1) w
theorem eq27 (v_n : Value) (Q : Value → World → Prop) (w : World) : semF Try.prog 27 [v_n] Q w = S27 v_n Q w := by kernel_rfl
theorem ref27 {v_n : Value} {Q : Value → World → Prop} {w : World} (h : S27 v_n Q w) : callS Try.prog 27 #[v_n] Q w :=
  callS_of mix (fun a w => Try.call27 a w) (by kernel_rfl) (by rw [eq27]; exact h)
-- commons/rec.Sectors
def S28 (v_images : Value) (Q : Value → World → Prop) (w : World) : Prop :=
 pur Try.prog (binS .lss 3 false true v_images (.int .i64 1)) fun t4 => 
 gd t4 false (fun k w_1 => k v_images w_1) (fun t6_1 w_2 => 
 gd t4 false (fun k_1 w_3 => pur Try.prog (binS .gtr 3 false true t6_1 (.int .i64 60)) fun t7 => k_1 t7 w_3) (fun t7_1 w_4 => 
 pur Try.prog (pickS t4 (.bool true) t7_1) fun t8 => 
 condS t8
  (Q (.int .i64 0) w_4)
  (pur Try.prog (binS .mul 3 true false (.int .i64 108) v_images) fun t10 => 
 pur Try.prog (binS .add 3 false true t10 (.int .i64 42)) fun t11 => 
 pur Try.prog (binS .sub 3 false true t11 (.int .i64 1)) fun t12 => 
 pur Try.prog (binS .quo 3 false true t12 (.int .i64 42)) fun t13 => 
 Q t13 w_4)) w_2) w
theorem eq28 (v_images : Value) (Q : Value → World → Prop) (w : World) : semF Try.prog 28 [v_images] Q w = S28 v_images Q w := by kernel_rfl
theorem ref28 {v_images : Value} {Q : Value → World → Prop} {w : World} (h : S28 v_images Q w) : callS Try.prog 28 #[v_images] Q w :=
  callS_of mix (fun a w => Try.call28 a w) (by kernel_rfl) (by rw [eq28]; exact h)
-- commons/super.in
def S29 (v_n v_least v_most : Value) (Q : Value → World → Prop) (w : World) : Prop :=
 pur Try.prog (binS .geq 3 false false v_n v_least) fun t9 => 
 gd t9 true (fun k w_1 => k v_n w_1) (fun t11_1 w_2 => 
 gd t9 true (fun k_1 w_3 => k_1 v_most w_3) (fun t12_1 w_4 => 
 gd t9 true (fun k_2 w_5 => pur Try.prog (binS .leq 3 false false t11_1 t12_1) fun t13 => k_2 t13 w_5) (fun t13_1 w_6 => 
 pur Try.prog (pickS t9 t13_1 (.bool false)) fun t14 => 
 Q t14 w_6) w_4) w_2) w
theorem eq29 (v_n v_least v_most : Value) (Q : Value → World → Prop) (w : World) : semF Try.prog 29 [v_n, v_least, v_most] Q w = S29 v_n v_least v_most Q w := by kernel_rfl
theorem ref29 {v_n v_least v_most : Value} {Q : Value → World → Prop} {w : World} (h : S29 v_n v_least v_most Q w) : callS Try.prog 29 #[v_n, v_least, v_most] Q w :=
  callS_of mix (fun a w => Try.call29 a w) (by kernel_rfl) (by rw [eq29]; exact h)
-- (*commons/imap.Map[int]).All
def S30 (v_m : Value) (Q : Value → World → Prop) (w : World) : Prop :=
 rd Try.prog (binS .eql 44 false true v_m (.pointer none)) (fun t4 => 
 condS t4
  (Q (.slice none 0 0) w)
  (pur Try.prog (nilV v_m) fun t6 => 
 pur Try.prog (Instr.fieldAt 60 t6 0) fun t7 => 
 rd Try.prog (Instr.loadAt 58 t7) (fun t8 => 
 callS Try.prog 37 #[t8] (fun t9 w_1 => 
 Q t9 w_1) w) w)) w
theorem eq30 (v_m : Value) (Q : Value → World → Prop) (w : World) : semF Try.prog 30 [v_m] Q w = S30 v_m Q w := by kernel_rfl
theorem ref30 {v_m : Value} {Q : Value → World → Prop} {w : World} (h : S30 v_m Q w) : callS Try.prog 30 #[v_m] Q w :=
  callS_of mix (fun a w => Try.call30 a w) (by kernel_rfl) (by rw [eq30]; exact h)
-- commons/mode.Raise
def S31 (v_m v_l : Value) (Q : Value → World → Prop) (w : World) : Prop :=
 act Try.prog (Instr.box 35 v_l) (fun t3 w_1 => 
 pur Try.prog (Instr.fieldAt 35 t3 0) fun t8 => 
 rd Try.prog (Instr.loadAt 33 t8) (fun t9 => 
 callS Try.prog 38 #[v_m, t9] (fun t10 w_2 => 
 pur Try.prog (Instr.fieldAt 35 t3 0) fun t12 => 
 rd Try.prog (Instr.loadAt 33 t12) (fun t13 => 
 pur Try.prog (Instr.fieldAt 35 t3 1) fun t14 => 
 rd Try.prog (Instr.loadAt 3 t14) (fun t15 => 
 callS Try.prog 15 #[v_m, t13, t15] (fun _ w_3 => 
 pur Try.prog (Builtin.len_ #[58] 3 #[t10]) fun t18 => 
 lp 1 (fun J => fun t19 w_4 => ∀ _j : Fr, 
  pur Try.prog (binS .lss 3 false false t19 t18) fun t20 => 
  condS t20
   (pur Try.prog (Instr.indexAt 58 t10 t19) fun t21 => 
  rd Try.prog (Instr.loadAt 66 t21) (fun t22 => 
  act Try.prog (Instr.alloc 66 true (.tuple #[])) (fun t6 w_5 => 
  act Try.prog (thenU (Instr.storeAt 66 t6 t22)) (fun _ w_6 => 
  ∃ S : World → Prop, S (World.drew w_6) ∧ 
  pur Try.prog (Instr.fieldAt 66 t6 0) fun t24 => 
  hld Try.prog S (Instr.loadAt 33 t24) fun t25 => 
  pur Try.prog (Instr.fieldAt 66 t6 1) fun t26 => 
  hld Try.prog S (Instr.loadAt 3 t26) fun t27 => 
  pur Try.prog (Instr.fieldAt 35 t3 1) fun t28 => 
  hld Try.prog S (Instr.loadAt 3 t28) fun t29 => 
  callS Try.prog 39 #[t27, t29] (fun t30 w_7 => S w_7 ∧ 
  callS Try.prog 15 #[v_m, t25, t30] (fun _ w_8 => S w_8 ∧ 
  pur Try.prog (binS .add 3 false true t19 (.int .i64 1)) fun t32 => 
  J t32 w_8) w_7) (World.drew w_6)) w_5) w_4) w_4)
   (Q (.tuple #[]) w_4)) [(.int .i64 0)] w_3) w_2) w_2) w_2) w_1) w_1) w
theorem eq31 (v_m v_l : Value) (Q : Value → World → Prop) (w : World) : semF Try.prog 31 [v_m, v_l] Q w = S31 v_m v_l Q w := by kernel_rfl
theorem ref31 {v_m v_l : Value} {Q : Value → World → Prop} {w : World} (h : S31 v_m v_l Q w) : callS Try.prog 31 #[v_m, v_l] Q w :=
  callS_of mix (fun a w => Try.call31 a w) (by kernel_rfl) (by rw [eq31]; exact h)
-- slices.SortFunc[[]commons/imap.Part[int],commons/imap.Part[int]]
def S32 (v_x v_cmp : Value) (Q : Value → World → Prop) (w : World) : Prop :=
 pur Try.prog (Builtin.len_ #[58] 3 #[v_x]) fun t6 => 
 pur Try.prog (convert 3 80 t6) fun t10 => 
 callS Try.prog 41 #[t10] (fun t11 w_1 => 
 callS Try.prog 40 #[v_x, (.int .i64 0), t6, t11, v_cmp] (fun _ w_2 => 
 Q (.tuple #[]) w_2) w_1) w
theorem eq32 (v_x v_cmp : Value) (Q : Value → World → Prop) (w : World) : semF Try.prog 32 [v_x, v_cmp] Q w = S32 v_x v_cmp Q w := by kernel_rfl
theorem ref32 {v_x v_cmp : Value} {Q : Value → World → Prop} {w : World} (h : S32 v_x v_cmp Q w) : callS Try.prog 32 #[v_x, v_cmp] Q w :=
  callS_of mix (fun a w => Try.call32 a w) (by kernel_rfl) (by rw [eq32]; exact h)
-- (*commons/imap.Map[int]).lay$1
def S33 (v_a v_b : Value) (Q : Value → World → Prop) (w : World) : Prop :=
 act Try.prog (Instr.box 66 v_a) (fun t2 w_1 => 
 act Try.prog (Instr.box 66 v_b) (fun t3 w_2 => 
 pur Try.prog (Instr.fieldAt 66 t2 0) fun t5 => 
 pur Try.prog (Instr.fieldAt 33 t5 0) fun t6 => 
 rd Try.prog (Instr.loadAt 3 t6) (fun t7 => 
 pur Try.prog (Instr.fieldAt 66 t3 0) fun t8 => 
 pur Try.prog (Instr.fieldAt 33 t8 0) fun t9 => 
 rd Try.prog (Instr.loadAt 3 t9) (fun t10 => 
 callS Try.prog 34 #[t7, t10] (fun t11 w_3 => 
 Q t11 w_3) w_2) w_2) w_2) w_1) w
theorem eq33 (v_a v_b : Value) (Q : Value → World → Prop) (w : World) : semF Try.prog 33 [v_a, v_b] Q w = S33 v_a v_b Q w := by kernel_rfl
theorem ref33 {v_a v_b : Value} {Q : Value → World → Prop} {w : World} (h : S33 v_a v_b Q w) : callS Try.prog 33 #[v_a, v_b] Q w :=
  callS_of mix (fun a w => Try.call33 a w) (by kernel_rfl) (by rw [eq33]; exact h)
-- cmp.Compare[int]
def S34 (v_x v_y : Value) (Q : Value → World → Prop) (w : World) : Prop :=
 callS Try.prog 42 #[v_x] (fun t8 w_1 => 
 callS Try.prog 42 #[v_y] (fun t10 w_2 => 
 condS t8
  (condS t10
   (Q (.int .i64 0) w_2)
   (Q (.int .i64 (-1)) w_2))
  (condS t10
  (Q (.int .i64 1) w_2)
  (pur Try.prog (binS .lss 3 false false v_x v_y) fun t16 => 
 condS t16
  (Q (.int .i64 (-1)) w_2)
  (pur Try.prog (binS .gtr 3 false false v_x v_y) fun t19 => 
 condS t19
  (Q (.int .i64 1) w_2)
  (Q (.int .i64 0) w_2))))) w_1) w
theorem eq34 (v_x v_y : Value) (Q : Value → World → Prop) (w : World) : semF Try.prog 34 [v_x, v_y] Q w = S34 v_x v_y Q w := by kernel_rfl
theorem ref34 {v_x v_y : Value} {Q : Value → World → Prop} {w : World} (h : S34 v_x v_y Q w) : callS Try.prog 34 #[v_x, v_y] Q w :=
  callS_of mix (fun a w => Try.call34 a w) (by kernel_rfl) (by rw [eq34]; exact h)
-- commons/span.Minus
def S35 (v_a v_b : Value) (Q : Value → World → Prop) (w : World) : Prop :=
 callS Try.prog 43 #[v_a] (fun t12 w_1 => 
 callS Try.prog 43 #[v_b] (fun t14 w_2 => 
 pur Try.prog (Builtin.len_ #[74] 3 #[t14]) fun t15 => 
 lp 2 (fun J => fun v_out t16 w_3 => ∀ _j : Fr, 
  pur Try.prog (binS .lss 3 false false t16 t15) fun t17 => 
  condS t17
   (pur Try.prog (Instr.indexAt 74 t14 t16) fun t18 => 
  rd Try.prog (Instr.loadAt 33 t18) (fun t19 => 
  act Try.prog (Instr.alloc 33 true (.tuple #[])) (fun t7 w_4 => 
  act Try.prog (thenU (Instr.storeAt 33 t7 t19)) (fun _ w_5 => 
  pur Try.prog (Builtin.len_ #[74] 3 #[v_out]) fun t21 => 
  lp 2 (fun J_1 => fun v_left t22 w_6 => ∀ _j : Fr, 
   pur Try.prog (binS .lss 3 false false t22 t21) fun t23 => 
   condS t23
    (jn 1 (fun J_2 => 
    pur Try.prog (Instr.indexAt 74 v_out t22) fun t24 => 
    rd Try.prog (Instr.loadAt 33 t24) (fun t25 => 
    act Try.prog (Instr.alloc 33 true (.tuple #[])) (fun t10 w_7 => 
    act Try.prog (thenU (Instr.storeAt 33 t10 t25)) (fun _ w_8 => 
    rd Try.prog (Instr.loadAt 33 t10) (fun t26 => 
    rd Try.prog (Instr.loadAt 33 t7) (fun t27 => 
    callS Try.prog 44 #[t26, t27] (fun t28 w_9 => 
    pur Try.prog (Op.unary .not t28) fun t29 => 
    condS t29
     (rd Try.prog (Instr.loadAt 33 t10) (fun t31 => 
     act Try.prog (Instr.buildSlice 74 1 #[(0, t31)]) (fun t32 w_10 => 
     act Try.prog (Builtin.append_ #[74, 74] 74 #[v_left, t32]) (fun t33 w_11 => 
     J_2 t33 w_11) w_10) w_9) w_9)
     (pur Try.prog (Instr.fieldAt 33 t10 0) fun t35 => 
    rd Try.prog (Instr.loadAt 3 t35) (fun t36 => 
    pur Try.prog (Instr.fieldAt 33 t7 0) fun t37 => 
    rd Try.prog (Instr.loadAt 3 t37) (fun t38 => 
    pur Try.prog (Instr.build 33 #[(0, t36), (1, t38)]) fun t39 => 
    pur Try.prog (Instr.fieldAt 33 t7 1) fun t40 => 
    rd Try.prog (Instr.loadAt 3 t40) (fun t41 => 
    pur Try.prog (Instr.fieldAt 33 t10 1) fun t42 => 
    rd Try.prog (Instr.loadAt 3 t42) (fun t43 => 
    pur Try.prog (Instr.build 33 #[(0, t41), (1, t43)]) fun t44 => 
    act Try.prog (Instr.buildSlice 74 2 #[(0, t39), (1, t44)]) (fun t45 w_12 => 
    act Try.prog (Builtin.append_ #[74, 74] 74 #[v_left, t45]) (fun t46 w_13 => 
    J_2 t46 w_13) w_12) w_9) w_9) w_9) w_9) w_9)) w_8) w_8) w_8) w_7) w_6) w_6)
   (fun v_left_1 w_14 => ∀ _j : Fr, 
    pur Try.prog (binS .add 3 false true t22 (.int .i64 1)) fun t47 => 
    J_1 v_left_1 t47 w_14))
    (callS Try.prog 43 #[v_left] (fun t49 w_15 => 
  pur Try.prog (binS .add 3 false true t16 (.int .i64 1)) fun t50 => 
  J t49 t50 w_15) w_6)) [(.slice none 0 0), (.int .i64 0)] w_5) w_4) w_3) w_3)
   (Q v_out w_3)) [t12, (.int .i64 0)] w_2) w_1) w
theorem eq35 (v_a v_b : Value) (Q : Value → World → Prop) (w : World) : semF Try.prog 35 [v_a, v_b] Q w = S35 v_a v_b Q w := by kernel_rfl
theorem ref35 {v_a v_b : Value} {Q : Value → World → Prop} {w : World} (h : S35 v_a v_b Q w) : callS Try.prog 35 #[v_a, v_b] Q w :=
  callS_of mix (fun a w => Try.call35 a w) (by kernel_rfl) (by rw [eq35]; exact h)
-- strings.Repeat
def S36 (v_s v_count : Value) (Q : Value → World → Prop) (w : World) : Prop :=
 pur Try.prog (binS .eql 3 false true v_count (.int .i64 0)) fun t13 => 
 condS t13
  (Q (.string ⟨#[]⟩) w)
  (pur Try.prog (binS .eql 3 false true v_count (.int .i64 1)) fun t15 => 
  condS t15
   (Q v_s w)
   (jn 0 (fun J => 
  pur Try.prog (binS .lss 3 false true v_count (.int .i64 0)) fun t18 => 
  condS t18
   (act Try.prog (Instr.makeInterface 9 (.string ⟨#[115, 116, 114, 105, 110, 103, 115, 58, 32, 110, 101, 103, 97, 116, 105, 118, 101, 32, 82, 101, 112, 101, 97, 116, 32, 99, 111, 117, 110, 116]⟩)) (fun _ w_1 => 
   act Try.prog (stuck "no such operation here") (fun _ w_2 => 
   J  w_2) w_1) w)
   (J  w))
 (fun  w_3 => ∀ _j : Fr, 
  pur Try.prog (Builtin.len_ #[9] 3 #[v_s]) fun t22 => 
  pur Try.prog (convert 3 80 t22) fun t23 => 
  pur Try.prog (convert 3 80 v_count) fun t25 => 
  callS Try.prog 45 #[t23, t25] (fun t26 w_4 => 
  pur Try.prog (Instr.extract t26 0) fun t27 => 
  pur Try.prog (Instr.extract t26 1) fun t28 => 
  jn 0 (fun J_1 => 
   pur Try.prog (binS .gtr 80 false true t27 (.int .u64 0)) fun t30 => 
   gd t30 false (fun k w_5 => k t28 w_5) (fun t32_1 w_6 => 
   gd t30 false (fun k_1 w_7 => pur Try.prog (binS .gtr 80 false true t32_1 (.int .u64 9223372036854775807)) fun t33 => k_1 t33 w_7) (fun t33_1 w_8 => 
   pur Try.prog (pickS t30 (.bool true) t33_1) fun t34 => 
   condS t34
    (act Try.prog (Instr.makeInterface 9 (.string ⟨#[115, 116, 114, 105, 110, 103, 115, 58, 32, 82, 101, 112, 101, 97, 116, 32, 111, 117, 116, 112, 117, 116, 32, 108, 101, 110, 103, 116, 104, 32, 111, 118, 101, 114, 102, 108, 111, 119]⟩)) (fun _ w_9 => 
    act Try.prog (stuck "no such operation here") (fun _ w_10 => 
    J_1  w_10) w_9) w_8)
    (J_1  w_8)) w_6) w_4)
  (fun  w_11 => ∀ _j : Fr, 
   pur Try.prog (convert 80 3 t28) fun t37 => 
   pur Try.prog (Builtin.len_ #[9] 3 #[v_s]) fun t39 => 
   pur Try.prog (binS .eql 3 false true t39 (.int .i64 0)) fun t40 => 
   condS t40
    (Q (.string ⟨#[]⟩) w_11)
    (jn 0 (fun J_2 => 
    pur Try.prog (Instr.index 9 v_s (.int .i64 0)) fun t42 => 
    jn 1 (fun J_3 => 
     pur Try.prog (binS .eql 5 false true t42 (.int .u8 32)) fun t44 => 
     condS t44
      (J_3 t44 w_11)
      (pur Try.prog (binS .eql 5 false true t42 (.int .u8 45)) fun t45 => 
      condS t45
       (J_3 t45 w_11)
       (pur Try.prog (binS .eql 5 false true t42 (.int .u8 48)) fun t46 => 
       condS t46
        (J_3 t46 w_11)
        (pur Try.prog (binS .eql 5 false true t42 (.int .u8 61)) fun t47 => 
        condS t47
         (J_3 t47 w_11)
         (pur Try.prog (binS .eql 5 false true t42 (.int .u8 9)) fun t48 => 
         J_3 t48 w_11)))))
    (fun t43 w_12 => ∀ _j : Fr, 
     condS t43
      (pur Try.prog (binS .leq 3 false true t37 (.int .i64 128)) fun t51 => 
      gd t51 true (fun k_2 w_13 => k_2 v_s w_13) (fun t53_1 w_14 => 
      gd t51 true (fun k_3 w_15 => callS Try.prog 46 #[(.string ⟨#[32, 32, 32, 32, 32, 32, 32, 32, 32, 32, 32, 32, 32, 32, 32, 32, 32, 32, 32, 32, 32, 32, 32, 32, 32, 32, 32, 32, 32, 32, 32, 32, 32, 32, 32, 32, 32, 32, 32, 32, 32, 32, 32, 32, 32, 32, 32, 32, 32, 32, 32, 32, 32, 32, 32, 32, 32, 32, 32, 32, 32, 32, 32, 32, 32, 32, 32, 32, 32, 32, 32, 32, 32, 32, 32, 32, 32, 32, 32, 32, 32, 32, 32, 32, 32, 32, 32, 32, 32, 32, 32, 32, 32, 32, 32, 32, 32, 32, 32, 32, 32, 32, 32, 32, 32, 32, 32, 32, 32, 32, 32, 32, 32, 32, 32, 32, 32, 32, 32, 32, 32, 32, 32, 32, 32, 32, 32, 32]⟩), t53_1] (fun t54 w_16 => k_3 t54 w_16) w_15) (fun t54_1 w_17 => 
      pur Try.prog (pickS t51 t54_1 (.bool false)) fun t55 => 
      condS t55
       (pur Try.prog (Instr.sliceAt 9 (.string ⟨#[32, 32, 32, 32, 32, 32, 32, 32, 32, 32, 32, 32, 32, 32, 32, 32, 32, 32, 32, 32, 32, 32, 32, 32, 32, 32, 32, 32, 32, 32, 32, 32, 32, 32, 32, 32, 32, 32, 32, 32, 32, 32, 32, 32, 32, 32, 32, 32, 32, 32, 32, 32, 32, 32, 32, 32, 32, 32, 32, 32, 32, 32, 32, 32, 32, 32, 32, 32, 32, 32, 32, 32, 32, 32, 32, 32, 32, 32, 32, 32, 32, 32, 32, 32, 32, 32, 32, 32, 32, 32, 32, 32, 32, 32, 32, 32, 32, 32, 32, 32, 32, 32, 32, 32, 32, 32, 32, 32, 32, 32, 32, 32, 32, 32, 32, 32, 32, 32, 32, 32, 32, 32, 32, 32, 32, 32, 32, 32]⟩) none (some t37) none) fun t57 => 
       Q t57 w_17)
       (pur Try.prog (binS .leq 3 false true t37 (.int .i64 128)) fun t60 => 
       gd t60 true (fun k_4 w_18 => k_4 v_s w_18) (fun t62_1 w_19 => 
       gd t60 true (fun k_5 w_20 => callS Try.prog 46 #[(.string ⟨#[45, 45, 45, 45, 45, 45, 45, 45, 45, 45, 45, 45, 45, 45, 45, 45, 45, 45, 45, 45, 45, 45, 45, 45, 45, 45, 45, 45, 45, 45, 45, 45, 45, 45, 45, 45, 45, 45, 45, 45, 45, 45, 45, 45, 45, 45, 45, 45, 45, 45, 45, 45, 45, 45, 45, 45, 45, 45, 45, 45, 45, 45, 45, 45, 45, 45, 45, 45, 45, 45, 45, 45, 45, 45, 45, 45, 45, 45, 45, 45, 45, 45, 45, 45, 45, 45, 45, 45, 45, 45, 45, 45, 45, 45, 45, 45, 45, 45, 45, 45, 45, 45, 45, 45, 45, 45, 45, 45, 45, 45, 45, 45, 45, 45, 45, 45, 45, 45, 45, 45, 45, 45, 45, 45, 45, 45, 45, 45]⟩), t62_1] (fun t63 w_21 => k_5 t63 w_21) w_20) (fun t63_1 w_22 => 
       pur Try.prog (pickS t60 t63_1 (.bool false)) fun t64 => 
       condS t64
        (pur Try.prog (Instr.sliceAt 9 (.string ⟨#[45, 45, 45, 45, 45, 45, 45, 45, 45, 45, 45, 45, 45, 45, 45, 45, 45, 45, 45, 45, 45, 45, 45, 45, 45, 45, 45, 45, 45, 45, 45, 45, 45, 45, 45, 45, 45, 45, 45, 45, 45, 45, 45, 45, 45, 45, 45, 45, 45, 45, 45, 45, 45, 45, 45, 45, 45, 45, 45, 45, 45, 45, 45, 45, 45, 45, 45, 45, 45, 45, 45, 45, 45, 45, 45, 45, 45, 45, 45, 45, 45, 45, 45, 45, 45, 45, 45, 45, 45, 45, 45, 45, 45, 45, 45, 45, 45, 45, 45, 45, 45, 45, 45, 45, 45, 45, 45, 45, 45, 45, 45, 45, 45, 45, 45, 45, 45, 45, 45, 45, 45, 45, 45, 45, 45, 45, 45, 45]⟩) none (some t37) none) fun t66 => 
        Q t66 w_22)
        (pur Try.prog (binS .leq 3 false true t37 (.int .i64 64)) fun t69 => 
        gd t69 true (fun k_6 w_23 => k_6 v_s w_23) (fun t71_1 w_24 => 
        gd t69 true (fun k_7 w_25 => callS Try.prog 46 #[(.string ⟨#[48, 48, 48, 48, 48, 48, 48, 48, 48, 48, 48, 48, 48, 48, 48, 48, 48, 48, 48, 48, 48, 48, 48, 48, 48, 48, 48, 48, 48, 48, 48, 48, 48, 48, 48, 48, 48, 48, 48, 48, 48, 48, 48, 48, 48, 48, 48, 48, 48, 48, 48, 48, 48, 48, 48, 48, 48, 48, 48, 48, 48, 48, 48, 48]⟩), t71_1] (fun t72 w_26 => k_7 t72 w_26) w_25) (fun t72_1 w_27 => 
        pur Try.prog (pickS t69 t72_1 (.bool false)) fun t73 => 
        condS t73
         (pur Try.prog (Instr.sliceAt 9 (.string ⟨#[48, 48, 48, 48, 48, 48, 48, 48, 48, 48, 48, 48, 48, 48, 48, 48, 48, 48, 48, 48, 48, 48, 48, 48, 48, 48, 48, 48, 48, 48, 48, 48, 48, 48, 48, 48, 48, 48, 48, 48, 48, 48, 48, 48, 48, 48, 48, 48, 48, 48, 48, 48, 48, 48, 48, 48, 48, 48, 48, 48, 48, 48, 48, 48]⟩) none (some t37) none) fun t75 => 
         Q t75 w_27)
         (pur Try.prog (binS .leq 3 false true t37 (.int .i64 128)) fun t78 => 
         gd t78 true (fun k_8 w_28 => k_8 v_s w_28) (fun t80_1 w_29 => 
         gd t78 true (fun k_9 w_30 => callS Try.prog 46 #[(.string ⟨#[61, 61, 61, 61, 61, 61, 61, 61, 61, 61, 61, 61, 61, 61, 61, 61, 61, 61, 61, 61, 61, 61, 61, 61, 61, 61, 61, 61, 61, 61, 61, 61, 61, 61, 61, 61, 61, 61, 61, 61, 61, 61, 61, 61, 61, 61, 61, 61, 61, 61, 61, 61, 61, 61, 61, 61, 61, 61, 61, 61, 61, 61, 61, 61, 61, 61, 61, 61, 61, 61, 61, 61, 61, 61, 61, 61, 61, 61, 61, 61, 61, 61, 61, 61, 61, 61, 61, 61, 61, 61, 61, 61, 61, 61, 61, 61, 61, 61, 61, 61, 61, 61, 61, 61, 61, 61, 61, 61, 61, 61, 61, 61, 61, 61, 61, 61, 61, 61, 61, 61, 61, 61, 61, 61, 61, 61, 61, 61]⟩), t80_1] (fun t81 w_31 => k_9 t81 w_31) w_30) (fun t81_1 w_32 => 
         pur Try.prog (pickS t78 t81_1 (.bool false)) fun t82 => 
         condS t82
          (pur Try.prog (Instr.sliceAt 9 (.string ⟨#[61, 61, 61, 61, 61, 61, 61, 61, 61, 61, 61, 61, 61, 61, 61, 61, 61, 61, 61, 61, 61, 61, 61, 61, 61, 61, 61, 61, 61, 61, 61, 61, 61, 61, 61, 61, 61, 61, 61, 61, 61, 61, 61, 61, 61, 61, 61, 61, 61, 61, 61, 61, 61, 61, 61, 61, 61, 61, 61, 61, 61, 61, 61, 61, 61, 61, 61, 61, 61, 61, 61, 61, 61, 61, 61, 61, 61, 61, 61, 61, 61, 61, 61, 61, 61, 61, 61, 61, 61, 61, 61, 61, 61, 61, 61, 61, 61, 61, 61, 61, 61, 61, 61, 61, 61, 61, 61, 61, 61, 61, 61, 61, 61, 61, 61, 61, 61, 61, 61, 61, 61, 61, 61, 61, 61, 61, 61, 61]⟩) none (some t37) none) fun t84 => 
          Q t84 w_32)
          (pur Try.prog (binS .leq 3 false true t37 (.int .i64 64)) fun t87 => 
          gd t87 true (fun k_10 w_33 => k_10 v_s w_33) (fun t89_1 w_34 => 
          gd t87 true (fun k_11 w_35 => callS Try.prog 46 #[(.string ⟨#[9, 9, 9, 9, 9, 9, 9, 9, 9, 9, 9, 9, 9, 9, 9, 9, 9, 9, 9, 9, 9, 9, 9, 9, 9, 9, 9, 9, 9, 9, 9, 9, 9, 9, 9, 9, 9, 9, 9, 9, 9, 9, 9, 9, 9, 9, 9, 9, 9, 9, 9, 9, 9, 9, 9, 9, 9, 9, 9, 9, 9, 9, 9, 9]⟩), t89_1] (fun t90 w_36 => k_11 t90 w_36) w_35) (fun t90_1 w_37 => 
          pur Try.prog (pickS t87 t90_1 (.bool false)) fun t91 => 
          condS t91
           (pur Try.prog (Instr.sliceAt 9 (.string ⟨#[9, 9, 9, 9, 9, 9, 9, 9, 9, 9, 9, 9, 9, 9, 9, 9, 9, 9, 9, 9, 9, 9, 9, 9, 9, 9, 9, 9, 9, 9, 9, 9, 9, 9, 9, 9, 9, 9, 9, 9, 9, 9, 9, 9, 9, 9, 9, 9, 9, 9, 9, 9, 9, 9, 9, 9, 9, 9, 9, 9, 9, 9, 9, 9]⟩) none (some t37) none) fun t93 => 
           Q t93 w_37)
           (J_2  w_37)) w_34) w_32)) w_29) w_27)) w_24) w_22)) w_19) w_17)) w_14) w_12)
      (J_2  w_12)))
   (fun  w_38 => ∀ _j : Fr, 
    jn 1 (fun J_4 => 
     pur Try.prog (binS .gtr 3 false true t37 (.int .i64 8192)) fun t96 => 
     condS t96
      (pur Try.prog (Builtin.len_ #[9] 3 #[v_s]) fun t98 => 
      pur Try.prog (binS .quo 3 true false (.int .i64 8192) t98) fun t99 => 
      pur Try.prog (Builtin.len_ #[9] 3 #[v_s]) fun t101 => 
      pur Try.prog (binS .mul 3 false false t99 t101) fun t102 => 
      pur Try.prog (binS .eql 3 false true t102 (.int .i64 0)) fun t104 => 
      condS t104
       (pur Try.prog (Builtin.len_ #[9] 3 #[v_s]) fun t106 => 
       J_4 t106 w_38)
       (J_4 t102 w_38))
      (J_4 t37 w_38))
    (fun v_chunkMax w_39 => ∀ _j : Fr, 
     act Try.prog (Instr.alloc 89 true (.tuple #[])) (fun t9 w_40 => 
     callS Try.prog 47 #[t9, t37] (fun _ w_41 => 
     callS Try.prog 48 #[t9, v_s] (fun _ w_42 => 
     lp 0 (fun J_5 => fun  w_43 => ∀ _j : Fr, 
      callS Try.prog 49 #[t9] (fun t111 w_44 => 
      pur Try.prog (binS .lss 3 false false t111 t37) fun t113 => 
      condS t113
       (callS Try.prog 49 #[t9] (fun t115 w_45 => 
      pur Try.prog (binS .sub 3 false false t37 t115) fun t116 => 
      callS Try.prog 49 #[t9] (fun t117 w_46 => 
      pur Try.prog (Builtin.min_ #[3, 3, 3] 3 #[t116, t117, v_chunkMax]) fun t119 => 
      callS Try.prog 50 #[t9] (fun t120 w_47 => 
      pur Try.prog (Instr.sliceAt 9 t120 none (some t119) none) fun t122 => 
      callS Try.prog 48 #[t9, t122] (fun _ w_48 => 
      J_5  w_48) w_47) w_46) w_45) w_44)
       (callS Try.prog 50 #[t9] (fun t124 w_49 => 
     Q t124 w_49) w_44)) w_43) [] w_42) w_41) w_40) w_39))))) w_3)))
theorem eq36 (v_s v_count : Value) (Q : Value → World → Prop) (w : World) : semF Try.prog 36 [v_s, v_count] Q w = S36 v_s v_count Q w := by kernel_rfl
theorem ref36 {v_s v_count : Value} {Q : Value → World → Prop} {w : World} (h : S36 v_s v_count Q w) : callS Try.prog 36 #[v_s, v_count] Q w :=
  callS_of mix (fun a w => Try.call36 a w) (by kernel_rfl) (by rw [eq36]; exact h)
-- slices.Clone[[]commons/imap.Part[int],commons/imap.Part[int]]
def S37 (v_s : Value) (Q : Value → World → Prop) (w : World) : Prop :=
 rd Try.prog (binS .eql 58 false true v_s (.slice none 0 0)) (fun t4 => 
 condS t4
  (Q (.slice none 0 0) w)
  (act Try.prog (Instr.buildSlice 58 0 #[]) (fun t5 w_1 => 
 act Try.prog (Builtin.append_ #[58, 58] 58 #[t5, v_s]) (fun t7 w_2 => 
 Q t7 w_2) w_1) w)) w
theorem eq37 (v_s : Value) (Q : Value → World → Prop) (w : World) : semF Try.prog 37 [v_s] Q w = S37 v_s Q w := by kernel_rfl
theorem ref37 {v_s : Value} {Q : Value → World → Prop} {w : World} (h : S37 v_s Q w) : callS Try.prog 37 #[v_s] Q w :=
  callS_of mix (fun a w => Try.call37 a w) (by kernel_rfl) (by rw [eq37]; exact h)
-- (*commons/imap.Map[int]).Parts
def S38 (v_m v_s : Value) (Q : Value → World → Prop) (w : World) : Prop :=
 act Try.prog (Instr.box 33 v_s) (fun t3 w_1 => 
 rd Try.prog (binS .eql 44 false true v_m (.pointer none)) (fun t11 => 
 condS t11
  (Q (.slice none 0 0) w_1)
  (pur Try.prog (nilV v_m) fun t13 => 
 pur Try.prog (Instr.fieldAt 60 t13 0) fun t14 => 
 rd Try.prog (Instr.loadAt 58 t14) (fun t15 => 
 pur Try.prog (Builtin.len_ #[58] 3 #[t15]) fun t16 => 
 lp 2 (fun J => fun v_out t17 w_2 => ∀ _j : Fr, 
  pur Try.prog (binS .lss 3 false false t17 t16) fun t18 => 
  condS t18
   (jn 1 (fun J_1 => 
   pur Try.prog (Instr.indexAt 58 t15 t17) fun t19 => 
   rd Try.prog (Instr.loadAt 66 t19) (fun t20 => 
   act Try.prog (Instr.alloc 66 true (.tuple #[])) (fun t7 w_3 => 
   act Try.prog (thenU (Instr.storeAt 66 t7 t20)) (fun _ w_4 => 
   pur Try.prog (Instr.fieldAt 66 t7 0) fun t22 => 
   rd Try.prog (Instr.loadAt 33 t22) (fun t23 => 
   rd Try.prog (Instr.loadAt 33 t3) (fun t24 => 
   callS Try.prog 51 #[t23, t24] (fun t25 w_5 => 
   pur Try.prog (Instr.extract t25 0) fun t26 => 
   pur Try.prog (Instr.extract t25 1) fun t27 => 
   act Try.prog (Instr.alloc 33 true (.tuple #[])) (fun t8 w_6 => 
   act Try.prog (thenU (Instr.storeAt 33 t8 t26)) (fun _ w_7 => 
   condS t27
    (rd Try.prog (Instr.loadAt 33 t8) (fun t30 => 
    pur Try.prog (Instr.fieldAt 66 t7 1) fun t31 => 
    rd Try.prog (Instr.loadAt 3 t31) (fun t32 => 
    pur Try.prog (Instr.build 66 #[(0, t30), (1, t32)]) fun t33 => 
    act Try.prog (Instr.buildSlice 58 1 #[(0, t33)]) (fun t34 w_8 => 
    act Try.prog (Builtin.append_ #[58, 58] 58 #[v_out, t34]) (fun t35 w_9 => 
    J_1 t35 w_9) w_8) w_7) w_7) w_7)
    (J_1 v_out w_7)) w_6) w_5) w_4) w_4) w_4) w_3) w_2) w_2)
  (fun v_out_1 w_10 => ∀ _j : Fr, 
   pur Try.prog (binS .add 3 false true t17 (.int .i64 1)) fun t36 => 
   J v_out_1 t36 w_10))
   (Q v_out w_2)) [(.slice none 0 0), (.int .i64 0)] w_1) w_1)) w_1) w
theorem eq38 (v_m v_s : Value) (Q : Value → World → Prop) (w : World) : semF Try.prog 38 [v_m, v_s] Q w = S38 v_m v_s Q w := by kernel_rfl
theorem ref38 {v_m v_s : Value} {Q : Value → World → Prop} {w : World} (h : S38 v_m v_s Q w) : callS Try.prog 38 #[v_m, v_s] Q w :=
  callS_of mix (fun a w => Try.call38 a w) (by kernel_rfl) (by rw [eq38]; exact h)
-- commons/mode.Join
def S39 (v_a v_b : Value) (Q : Value → World → Prop) (w : World) : Prop :=
 pur Try.prog (Builtin.max_ #[3, 3] 3 #[v_a, v_b]) fun t7 => 
 Q t7 w
theorem eq39 (v_a v_b : Value) (Q : Value → World → Prop) (w : World) : semF Try.prog 39 [v_a, v_b] Q w = S39 v_a v_b Q w := by kernel_rfl
theorem ref39 {v_a v_b : Value} {Q : Value → World → Prop} {w : World} (h : S39 v_a v_b Q w) : callS Try.prog 39 #[v_a, v_b] Q w :=
  callS_of mix (fun a w => Try.call39 a w) (by kernel_rfl) (by rw [eq39]; exact h)
-- cmp.isNaN[int]
def S42 (v_x : Value) (Q : Value → World → Prop) (w : World) : Prop :=
 pur Try.prog (binS .neq 3 false false v_x v_x) fun t5 => 
 Q t5 w
theorem eq42 (v_x : Value) (Q : Value → World → Prop) (w : World) : semF Try.prog 42 [v_x] Q w = S42 v_x Q w := by kernel_rfl
theorem ref42 {v_x : Value} {Q : Value → World → Prop} {w : World} (h : S42 v_x Q w) : callS Try.prog 42 #[v_x] Q w :=
  callS_of mix (fun a w => Try.call42 a w) (by kernel_rfl) (by rw [eq42]; exact h)
-- commons/span.Norm
def S43 (v_l : Value) (Q : Value → World → Prop) (w : World) : Prop :=
 callS Try.prog 63 #[v_l] (fun t8 w_1 => 
 callS Try.prog 62 #[t8, (.func (.func 64) #[] #[])] (fun t9 w_2 => 
 callS Try.prog 65 #[t9, (.func (.func 66) #[] #[])] (fun _ w_3 => 
 pur Try.prog (Builtin.len_ #[74] 3 #[t9]) fun t13 => 
 lp 2 (fun J => fun v_out t14 w_4 => ∀ _j : Fr, 
  pur Try.prog (binS .lss 3 false false t14 t13) fun t15 => 
  condS t15
   (jn 1 (fun J_1 => 
   pur Try.prog (Instr.indexAt 74 t9 t14) fun t16 => 
   rd Try.prog (Instr.loadAt 33 t16) (fun t17 => 
   act Try.prog (Instr.alloc 33 true (.tuple #[])) (fun t5 w_5 => 
   act Try.prog (thenU (Instr.storeAt 33 t5 t17)) (fun _ w_6 => 
   pur Try.prog (Builtin.len_ #[74] 3 #[v_out]) fun t19 => 
   pur Try.prog (binS .sub 3 false true t19 (.int .i64 1)) fun t20 => 
   pur Try.prog (binS .geq 3 false true t20 (.int .i64 0)) fun t22 => 
   gd t22 true (fun k w_7 => pur Try.prog (Instr.fieldAt 33 t5 0) fun t24 => k t24 w_7) (fun t24_1 w_8 => 
   gd t22 true (fun k_1 w_9 => rd Try.prog (Instr.loadAt 3 t24_1) (fun t25 => k_1 t25 w_9) w_9) (fun t25_1 w_10 => 
   gd t22 true (fun k_2 w_11 => k_2 v_out w_11) (fun t26_1 w_12 => 
   gd t22 true (fun k_3 w_13 => k_3 t20 w_13) (fun t27_1 w_14 => 
   gd t22 true (fun k_4 w_15 => pur Try.prog (Instr.indexAt 74 t26_1 t27_1) fun t28 => k_4 t28 w_15) (fun t28_1 w_16 => 
   gd t22 true (fun k_5 w_17 => pur Try.prog (Instr.fieldAt 33 t28_1 1) fun t29 => k_5 t29 w_17) (fun t29_1 w_18 => 
   gd t22 true (fun k_6 w_19 => rd Try.prog (Instr.loadAt 3 t29_1) (fun t30 => k_6 t30 w_19) w_19) (fun t30_1 w_20 => 
   gd t22 true (fun k_7 w_21 => pur Try.prog (binS .leq 3 false false t25_1 t30_1) fun t31 => k_7 t31 w_21) (fun t31_1 w_22 => 
   pur Try.prog (pickS t22 t31_1 (.bool false)) fun t32 => 
   condS t32
    (pur Try.prog (Instr.indexAt 74 v_out t20) fun t37 => 
    pur Try.prog (Instr.fieldAt 33 t37 1) fun t38 => 
    rd Try.prog (Instr.loadAt 3 t38) (fun t39 => 
    pur Try.prog (Instr.fieldAt 33 t5 1) fun t40 => 
    rd Try.prog (Instr.loadAt 3 t40) (fun t41 => 
    pur Try.prog (Builtin.max_ #[3, 3] 3 #[t39, t41]) fun t42 => 
    pur Try.prog (Instr.indexAt 74 v_out t20) fun t43 => 
    pur Try.prog (Instr.fieldAt 33 t43 1) fun t44 => 
    act Try.prog (thenU (Instr.storeAt 3 t44 t42)) (fun _ w_23 => 
    J_1 v_out w_23) (World.drew w_22)) (World.drew w_22)) (World.drew w_22))
    (rd Try.prog (Instr.loadAt 33 t5) (fun t46 => 
    act Try.prog (Instr.buildSlice 74 1 #[(0, t46)]) (fun t47 w_24 => 
    act Try.prog (Builtin.append_ #[74, 74] 74 #[v_out, t47]) (fun t48 w_25 => 
    J_1 t48 w_25) w_24) w_22) w_22)) w_20) w_18) w_16) w_14) w_12) w_10) w_8) (World.drew w_6)) w_5) w_4) w_4)
  (fun v_out_1 w_26 => ∀ _j : Fr, 
   pur Try.prog (binS .add 3 false true t14 (.int .i64 1)) fun t49 => 
   J v_out_1 t49 w_26))
   (Q v_out w_4)) [(.slice none 0 0), (.int .i64 0)] w_3) w_2) w_1) w
theorem eq43 (v_l : Value) (Q : Value → World → Prop) (w : World) : semF Try.prog 43 [v_l] Q w = S43 v_l Q w := by kernel_rfl
theorem ref43 {v_l : Value} {Q : Value → World → Prop} {w : World} (h : S43 v_l Q w) : callS Try.prog 43 #[v_l] Q w :=
  callS_of mix (fun a w => Try.call43 a w) (by kernel_rfl) (by rw [eq43]; exact h)
-- commons/span.Meets
def S44 (v_a v_b : Value) (Q : Value → World → Prop) (w : World) : Prop :=
 act Try.prog (Instr.box 33 v_a) (fun t2 w_1 => 
 act Try.prog (Instr.box 33 v_b) (fun t3 w_2 => 
 rd Try.prog (Instr.loadAt 33 t2) (fun t8 => 
 rd Try.prog (Instr.loadAt 33 t3) (fun t9 => 
 callS Try.prog 51 #[t8, t9] (fun t10 w_3 => 
 pur Try.prog (Instr.extract t10 0) fun t11 => 
 pur Try.prog (Instr.extract t10 1) fun t12 => 
 act Try.prog (Instr.alloc 33 true (.tuple #[])) (fun t5 w_4 => 
 act Try.prog (thenU (Instr.storeAt 33 t5 t11)) (fun _ w_5 => 
 Q t12 w_5) w_4) w_3) w_2) w_2) w_2) w_1) w
theorem eq44 (v_a v_b : Value) (Q : Value → World → Prop) (w : World) : semF Try.prog 44 [v_a, v_b] Q w = S44 v_a v_b Q w := by kernel_rfl
theorem ref44 {v_a v_b : Value} {Q : Value → World → Prop} {w : World} (h : S44 v_a v_b Q w) : callS Try.prog 44 #[v_a, v_b] Q w :=
  callS_of mix (fun a w => Try.call44 a w) (by kernel_rfl) (by rw [eq44]; exact h)
-- math/bits.Mul
def S45 (v_x v_y : Value) (Q : Value → World → Prop) (w : World) : Prop :=
 condS (.bool false)
  (pur Try.prog (convert 80 107 v_x) fun t12 => 
  pur Try.prog (convert 80 107 v_y) fun t14 => 
  callS Try.prog 68 #[t12, t14] (fun t15 w_1 => 
  pur Try.prog (Instr.extract t15 0) fun t16 => 
  pur Try.prog (Instr.extract t15 1) fun t17 => 
  pur Try.prog (convert 107 80 t16) fun t19 => 
  pur Try.prog (convert 107 80 t17) fun t21 => 
  Q (.tuple #[t19, t21]) w_1) w)
  (callS Try.prog 69 #[v_x, v_y] (fun t25 w_2 => 
 pur Try.prog (Instr.extract t25 0) fun t26 => 
 pur Try.prog (Instr.extract t25 1) fun t27 => 
 Q (.tuple #[t26, t27]) w_2) w)
theorem eq45 (v_x v_y : Value) (Q : Value → World → Prop) (w : World) : semF Try.prog 45 [v_x, v_y] Q w = S45 v_x v_y Q w := by kernel_rfl
theorem ref45 {v_x v_y : Value} {Q : Value → World → Prop} {w : World} (h : S45 v_x v_y Q w) : callS Try.prog 45 #[v_x, v_y] Q w :=
  callS_of mix (fun a w => Try.call45 a w) (by kernel_rfl) (by rw [eq45]; exact h)
-- strings.HasPrefix
def S46 (v_s v_prefix : Value) (Q : Value → World → Prop) (w : World) : Prop :=
 callS Try.prog 70 #[v_s, v_prefix] (fun t7 w_1 => 
 Q t7 w_1) w
theorem eq46 (v_s v_prefix : Value) (Q : Value → World → Prop) (w : World) : semF Try.prog 46 [v_s, v_prefix] Q w = S46 v_s v_prefix Q w := by kernel_rfl
theorem ref46 {v_s v_prefix : Value} {Q : Value → World → Prop} {w : World} (h : S46 v_s v_prefix Q w) : callS Try.prog 46 #[v_s, v_prefix] Q w :=
  callS_of mix (fun a w => Try.call46 a w) (by kernel_rfl) (by rw [eq46]; exact h)
-- (*strings.Builder).Grow
def S47 (v_b v_n : Value) (Q : Value → World → Prop) (w : World) : Prop :=
 callS Try.prog 71 #[v_b] (fun _ w_1 => 
 jn 0 (fun J => 
  pur Try.prog (binS .lss 3 false true v_n (.int .i64 0)) fun t7 => 
  condS t7
   (act Try.prog (Instr.makeInterface 9 (.string ⟨#[115, 116, 114, 105, 110, 103, 115, 46, 66, 117, 105, 108, 100, 101, 114, 46, 71, 114, 111, 119, 58, 32, 110, 101, 103, 97, 116, 105, 118, 101, 32, 99, 111, 117, 110, 116]⟩)) (fun _ w_2 => 
   act Try.prog (stuck "no such operation here") (fun _ w_3 => 
   J  w_3) w_2) w_1)
   (J  w_1))
 (fun  w_4 => ∀ _j : Fr, 
  pur Try.prog (nilV v_b) fun t10 => 
  pur Try.prog (Instr.fieldAt 89 t10 1) fun t11 => 
  rd Try.prog (Instr.loadAt 87 t11) (fun t12 => 
  pur Try.prog (Builtin.cap_ #[87] 3 #[t12]) fun t13 => 
  pur Try.prog (nilV v_b) fun t15 => 
  pur Try.prog (Instr.fieldAt 89 t15 1) fun t16 => 
  rd Try.prog (Instr.loadAt 87 t16) (fun t17 => 
  pur Try.prog (Builtin.len_ #[87] 3 #[t17]) fun t18 => 
  pur Try.prog (binS .sub 3 false false t13 t18) fun t19 => 
  pur Try.prog (binS .lss 3 false false t19 v_n) fun t21 => 
  condS t21
   (callS Try.prog 72 #[v_b, v_n] (fun _ w_5 => 
   Q (.tuple #[]) w_5) (World.drew w_4))
   (Q (.tuple #[]) (World.drew w_4))) (World.drew w_4)) (World.drew w_4))) w
theorem eq47 (v_b v_n : Value) (Q : Value → World → Prop) (w : World) : semF Try.prog 47 [v_b, v_n] Q w = S47 v_b v_n Q w := by kernel_rfl
theorem ref47 {v_b v_n : Value} {Q : Value → World → Prop} {w : World} (h : S47 v_b v_n Q w) : callS Try.prog 47 #[v_b, v_n] Q w :=
  callS_of mix (fun a w => Try.call47 a w) (by kernel_rfl) (by rw [eq47]; exact h)
-- (*strings.Builder).WriteString
def S48 (v_b v_s : Value) (Q : Value → World → Prop) (w : World) : Prop :=
 callS Try.prog 71 #[v_b] (fun _ w_1 => 
 pur Try.prog (nilV v_b) fun t10 => 
 pur Try.prog (Instr.fieldAt 89 t10 1) fun t11 => 
 rd Try.prog (Instr.loadAt 87 t11) (fun t12 => 
 act Try.prog (Builtin.append_ #[87, 9] 87 #[t12, v_s]) (fun t14 w_2 => 
 pur Try.prog (nilV v_b) fun t15 => 
 pur Try.prog (Instr.fieldAt 89 t15 1) fun t16 => 
 act Try.prog (thenU (Instr.storeAt 87 t16 t14)) (fun _ w_3 => 
 pur Try.prog (Builtin.len_ #[9] 3 #[v_s]) fun t18 => 
 Q (.tuple #[t18, .nilIface]) w_3) w_2) w_1) w_1) w
theorem eq48 (v_b v_s : Value) (Q : Value → World → Prop) (w : World) : semF Try.prog 48 [v_b, v_s] Q w = S48 v_b v_s Q w := by kernel_rfl
theorem ref48 {v_b v_s : Value} {Q : Value → World → Prop} {w : World} (h : S48 v_b v_s Q w) : callS Try.prog 48 #[v_b, v_s] Q w :=
  callS_of mix (fun a w => Try.call48 a w) (by kernel_rfl) (by rw [eq48]; exact h)
-- (*strings.Builder).Len
def S49 (v_b : Value) (Q : Value → World → Prop) (w : World) : Prop :=
 pur Try.prog (nilV v_b) fun t4 => 
 pur Try.prog (Instr.fieldAt 89 t4 1) fun t5 => 
 rd Try.prog (Instr.loadAt 87 t5) (fun t6 => 
 pur Try.prog (Builtin.len_ #[87] 3 #[t6]) fun t7 => 
 Q t7 w) w
theorem eq49 (v_b : Value) (Q : Value → World → Prop) (w : World) : semF Try.prog 49 [v_b] Q w = S49 v_b Q w := by kernel_rfl
theorem ref49 {v_b : Value} {Q : Value → World → Prop} {w : World} (h : S49 v_b Q w) : callS Try.prog 49 #[v_b] Q w :=
  callS_of mix (fun a w => Try.call49 a w) (by kernel_rfl) (by rw [eq49]; exact h)
-- (*strings.Builder).String
def S50 (v_b : Value) (Q : Value → World → Prop) (w : World) : Prop :=
 ∃ S : World → Prop, S (World.drew w) ∧ 
 pur Try.prog (nilV v_b) fun t4 => 
 pur Try.prog (Instr.fieldAt 89 t4 1) fun t5 => 
 hld Try.prog S (Instr.loadAt 87 t5) fun _ => 
 act Try.prog (stuck "no such builtin here") (fun _ w_1 => S w_1 ∧ 
 pur Try.prog (nilV v_b) fun t9 => 
 pur Try.prog (Instr.fieldAt 89 t9 1) fun t10 => 
 hld Try.prog S (Instr.loadAt 87 t10) fun t11 => 
 pur Try.prog (Builtin.len_ #[87] 3 #[t11]) fun _ => 
 act Try.prog (stuck "no such builtin here") (fun t13 w_2 => S w_2 ∧ 
 Q t13 w_2) w_1) (World.drew w)
theorem eq50 (v_b : Value) (Q : Value → World → Prop) (w : World) : semF Try.prog 50 [v_b] Q w = S50 v_b Q w := by kernel_rfl
theorem ref50 {v_b : Value} {Q : Value → World → Prop} {w : World} (h : S50 v_b Q w) : callS Try.prog 50 #[v_b] Q w :=
  callS_of mix (fun a w => Try.call50 a w) (by kernel_rfl) (by rw [eq50]; exact h)
-- commons/span.Meet
def S51 (v_a v_b : Value) (Q : Value → World → Prop) (w : World) : Prop :=
 act Try.prog (Instr.box 33 v_a) (fun t2 w_1 => 
 act Try.prog (Instr.box 33 v_b) (fun t3 w_2 => 
 act Try.prog (Instr.alloc 33 true (.tuple #[])) (fun t4 w_3 => 
 pur Try.prog (Instr.fieldAt 33 t2 0) fun t7 => 
 rd Try.prog (Instr.loadAt 3 t7) (fun t8 => 
 pur Try.prog (Instr.fieldAt 33 t3 0) fun t9 => 
 rd Try.prog (Instr.loadAt 3 t9) (fun t10 => 
 pur Try.prog (Builtin.max_ #[3, 3] 3 #[t8, t10]) fun t11 => 
 pur Try.prog (Instr.fieldAt 33 t2 1) fun t12 => 
 rd Try.prog (Instr.loadAt 3 t12) (fun t13 => 
 pur Try.prog (Instr.fieldAt 33 t3 1) fun t14 => 
 rd Try.prog (Instr.loadAt 3 t14) (fun t15 => 
 pur Try.prog (Builtin.min_ #[3, 3] 3 #[t13, t15]) fun t16 => 
 pur Try.prog (Instr.build 33 #[(0, t11), (1, t16)]) fun t17 => 
 act Try.prog (Instr.alloc 33 true (.tuple #[])) (fun t6 w_4 => 
 act Try.prog (thenU (Instr.storeAt 33 t6 t17)) (fun _ w_5 => 
 rd Try.prog (Instr.loadAt 33 t2) (fun t18 => 
 callS Try.prog 21 #[t18] (fun t19 w_6 => 
 pur Try.prog (Op.unary .not t19) fun t20 => 
 gd t20 false (fun k w_7 => rd Try.prog (Instr.loadAt 33 t3) (fun t22 => k t22 w_7) w_7) (fun t22_1 w_8 => 
 gd t20 false (fun k_1 w_9 => callS Try.prog 21 #[t22_1] (fun t23 w_10 => k_1 t23 w_10) w_9) (fun t23_1 w_11 => 
 gd t20 false (fun k_2 w_12 => pur Try.prog (Op.unary .not t23_1) fun t24 => k_2 t24 w_12) (fun t24_1 w_13 => 
 pur Try.prog (pickS t20 (.bool true) t24_1) fun t25 => 
 gd t25 false (fun k_3 w_14 => rd Try.prog (Instr.loadAt 33 t6) (fun t27 => k_3 t27 w_14) w_14) (fun t27_1 w_15 => 
 gd t25 false (fun k_4 w_16 => callS Try.prog 21 #[t27_1] (fun t28 w_17 => k_4 t28 w_17) w_16) (fun t28_1 w_18 => 
 gd t25 false (fun k_5 w_19 => pur Try.prog (Op.unary .not t28_1) fun t29 => k_5 t29 w_19) (fun t29_1 w_20 => 
 pur Try.prog (pickS t25 (.bool true) t29_1) fun t30 => 
 condS t30
  (pur Try.prog (Instr.build 33 #[]) fun t31 => 
  act Try.prog (thenU (Instr.storeAt 33 t4 t31)) (fun _ w_21 => 
  rd Try.prog (resL 33 t4) (fun r => Q (.tuple #[r, (.bool false)]) w_21) w_21) w_20)
  (rd Try.prog (Instr.loadAt 33 t6) (fun t32 => 
 act Try.prog (thenU (Instr.storeAt 33 t4 t32)) (fun _ w_22 => 
 rd Try.prog (resL 33 t4) (fun r_1 => Q (.tuple #[r_1, (.bool true)]) w_22) w_22) w_20) w_20)) w_18) w_15) w_13) w_11) w_8) w_6) w_5) w_5) w_4) w_3) w_3) w_3) w_3) w_3) w_2) w_1) w
theorem eq51 (v_a v_b : Value) (Q : Value → World → Prop) (w : World) : semF Try.prog 51 [v_a, v_b] Q w = S51 v_a v_b Q w := by kernel_rfl
theorem ref51 {v_a v_b : Value} {Q : Value → World → Prop} {w : World} (h : S51 v_a v_b Q w) : callS Try.prog 51 #[v_a, v_b] Q w :=
  callS_of mix (fun a w => Try.call51 a w) (by kernel_rfl) (by rw [eq51]; exact h)
-- slices.DeleteFunc[[]commons/api.Span,commons/api.Span]
def S62 (v_s v_del : Value) (Q : Value → World → Prop) (w : World) : Prop :=
 callS Try.prog 78 #[v_s, v_del] (fun t10 w_1 => 
 pur Try.prog (binS .eql 3 false true t10 (.int .i64 (-1))) fun t12 => 
 condS t12
  (Q v_s w_1)
  (pur Try.prog (binS .add 3 false true t10 (.int .i64 1)) fun t15 => 
 lp 2 (fun J => fun v_i v_j w_2 => ∀ _j : Fr, 
  pur Try.prog (Builtin.len_ #[74] 3 #[v_s]) fun t18 => 
  pur Try.prog (binS .lss 3 false false v_j t18) fun t19 => 
  condS t19
   (jn 1 (fun J_1 => 
   pur Try.prog (Instr.indexAt 74 v_s v_j) fun t24 => 
   rd Try.prog (Instr.loadAt 33 t24) (fun t25 => 
   act Try.prog (Instr.alloc 33 true (.tuple #[])) (fun t7 w_3 => 
   act Try.prog (thenU (Instr.storeAt 33 t7 t25)) (fun _ w_4 => 
   rd Try.prog (Instr.loadAt 33 t7) (fun t27 => 
   callF Try.prog v_del #[t27] (fun t28 w_5 => 
   pur Try.prog (Op.unary .not t28) fun t29 => 
   condS t29
    (rd Try.prog (Instr.loadAt 33 t7) (fun t32 => 
    pur Try.prog (Instr.indexAt 74 v_s v_i) fun t33 => 
    act Try.prog (thenU (Instr.storeAt 33 t33 t32)) (fun _ w_6 => 
    pur Try.prog (binS .add 3 false true v_i (.int .i64 1)) fun t35 => 
    J_1 t35 w_6) w_5) w_5)
    (J_1 v_i w_5)) w_4) w_4) w_3) w_2) w_2)
  (fun v_i_1 w_7 => ∀ _j : Fr, 
   pur Try.prog (binS .add 3 false true v_j (.int .i64 1)) fun t21 => 
   J v_i_1 t21 w_7))
   (pur Try.prog (Instr.sliceAt 74 v_s (some v_i) none none) fun t38 => 
 act Try.prog (Builtin.clear_ #[74] 0 #[t38]) (fun _ w_8 => 
 pur Try.prog (Instr.sliceAt 74 v_s none (some v_i) none) fun t41 => 
 Q t41 w_8) w_2)) [t10, t15] w_1)) w
theorem eq62 (v_s v_del : Value) (Q : Value → World → Prop) (w : World) : semF Try.prog 62 [v_s, v_del] Q w = S62 v_s v_del Q w := by kernel_rfl
theorem ref62 {v_s v_del : Value} {Q : Value → World → Prop} {w : World} (h : S62 v_s v_del Q w) : callS Try.prog 62 #[v_s, v_del] Q w :=
  callS_of mix (fun a w => Try.call62 a w) (by kernel_rfl) (by rw [eq62]; exact h)
-- slices.Clone[[]commons/api.Span,commons/api.Span]
def S63 (v_s : Value) (Q : Value → World → Prop) (w : World) : Prop :=
 rd Try.prog (binS .eql 74 false true v_s (.slice none 0 0)) (fun t4 => 
 condS t4
  (Q (.slice none 0 0) w)
  (act Try.prog (Instr.buildSlice 74 0 #[]) (fun t5 w_1 => 
 act Try.prog (Builtin.append_ #[74, 74] 74 #[t5, v_s]) (fun t7 w_2 => 
 Q t7 w_2) w_1) w)) w
theorem eq63 (v_s : Value) (Q : Value → World → Prop) (w : World) : semF Try.prog 63 [v_s] Q w = S63 v_s Q w := by kernel_rfl
theorem ref63 {v_s : Value} {Q : Value → World → Prop} {w : World} (h : S63 v_s Q w) : callS Try.prog 63 #[v_s] Q w :=
  callS_of mix (fun a w => Try.call63 a w) (by kernel_rfl) (by rw [eq63]; exact h)
-- commons/span.Norm$1
def S64 (v_s : Value) (Q : Value → World → Prop) (w : World) : Prop :=
 act Try.prog (Instr.box 33 v_s) (fun t1 w_1 => 
 rd Try.prog (Instr.loadAt 33 t1) (fun t3 => 
 callS Try.prog 21 #[t3] (fun t4 w_2 => 
 pur Try.prog (Op.unary .not t4) fun t5 => 
 Q t5 w_2) w_1) w_1) w
theorem eq64 (v_s : Value) (Q : Value → World → Prop) (w : World) : semF Try.prog 64 [v_s] Q w = S64 v_s Q w := by kernel_rfl
theorem ref64 {v_s : Value} {Q : Value → World → Prop} {w : World} (h : S64 v_s Q w) : callS Try.prog 64 #[v_s] Q w :=
  callS_of mix (fun a w => Try.call64 a w) (by kernel_rfl) (by rw [eq64]; exact h)
-- slices.SortFunc[[]commons/api.Span,commons/api.Span]
def S65 (v_x v_cmp : Value) (Q : Value → World → Prop) (w : World) : Prop :=
 pur Try.prog (Builtin.len_ #[74] 3 #[v_x]) fun t6 => 
 pur Try.prog (convert 3 80 t6) fun t10 => 
 callS Try.prog 41 #[t10] (fun t11 w_1 => 
 callS Try.prog 79 #[v_x, (.int .i64 0), t6, t11, v_cmp] (fun _ w_2 => 
 Q (.tuple #[]) w_2) w_1) w
theorem eq65 (v_x v_cmp : Value) (Q : Value → World → Prop) (w : World) : semF Try.prog 65 [v_x, v_cmp] Q w = S65 v_x v_cmp Q w := by kernel_rfl
theorem ref65 {v_x v_cmp : Value} {Q : Value → World → Prop} {w : World} (h : S65 v_x v_cmp Q w) : callS Try.prog 65 #[v_x, v_cmp] Q w :=
  callS_of mix (fun a w => Try.call65 a w) (by kernel_rfl) (by rw [eq65]; exact h)
-- commons/span.Norm$2
def S66 (v_a v_b : Value) (Q : Value → World → Prop) (w : World) : Prop :=
 act Try.prog (Instr.box 33 v_a) (fun t2 w_1 => 
 act Try.prog (Instr.box 33 v_b) (fun t3 w_2 => 
 ∃ S : World → Prop, S (World.drew w_2) ∧ 
 pur Try.prog (Instr.fieldAt 33 t2 0) fun t5 => 
 hld Try.prog S (Instr.loadAt 3 t5) fun t6 => 
 pur Try.prog (Instr.fieldAt 33 t3 0) fun t7 => 
 hld Try.prog S (Instr.loadAt 3 t7) fun t8 => 
 callS Try.prog 34 #[t6, t8] (fun t9 w_3 => S w_3 ∧ 
 pur Try.prog (Instr.fieldAt 33 t2 1) fun t10 => 
 hld Try.prog S (Instr.loadAt 3 t10) fun t11 => 
 pur Try.prog (Instr.fieldAt 33 t3 1) fun t12 => 
 hld Try.prog S (Instr.loadAt 3 t12) fun t13 => 
 callS Try.prog 34 #[t11, t13] (fun t14 w_4 => S w_4 ∧ 
 act Try.prog (Instr.buildSlice 128 2 #[(0, t9), (1, t14)]) (fun t15 w_5 => S w_5 ∧ 
 callS Try.prog 67 #[t15] (fun t16 w_6 => S w_6 ∧ 
 Q t16 w_6) w_5) w_4) w_3) (World.drew w_2)) w_1) w
theorem eq66 (v_a v_b : Value) (Q : Value → World → Prop) (w : World) : semF Try.prog 66 [v_a, v_b] Q w = S66 v_a v_b Q w := by kernel_rfl
theorem ref66 {v_a v_b : Value} {Q : Value → World → Prop} {w : World} (h : S66 v_a v_b Q w) : callS Try.prog 66 #[v_a, v_b] Q w :=
  callS_of mix (fun a w => Try.call66 a w) (by kernel_rfl) (by rw [eq66]; exact h)
-- cmp.Or[int]
def S67 (v_vals : Value) (Q : Value → World → Prop) (w : World) : Prop :=
 pur Try.prog (Builtin.len_ #[128] 3 #[v_vals]) fun t7 => 
 lp 1 (fun J => fun t8 w_1 => ∀ _j : Fr, 
  pur Try.prog (binS .lss 3 false false t8 t7) fun t9 => 
  condS t9
   (pur Try.prog (Instr.indexAt 128 v_vals t8) fun t10 => 
  rd Try.prog (Instr.loadAt 3 t10) (fun t11 => 
  pur Try.prog (binS .neq 3 false false t11 (.int .i64 0)) fun t14 => 
  condS t14
   (Q t11 w_1)
   (pur Try.prog (binS .add 3 false true t8 (.int .i64 1)) fun t16 => 
  J t16 w_1)) w_1)
   (Q (.int .i64 0) w_1)) [(.int .i64 0)] w
theorem eq67 (v_vals : Value) (Q : Value → World → Prop) (w : World) : semF Try.prog 67 [v_vals] Q w = S67 v_vals Q w := by kernel_rfl
theorem ref67 {v_vals : Value} {Q : Value → World → Prop} {w : World} (h : S67 v_vals Q w) : callS Try.prog 67 #[v_vals] Q w :=
  callS_of mix (fun a w => Try.call67 a w) (by kernel_rfl) (by rw [eq67]; exact h)
-- math/bits.Mul32
def S68 (v_x v_y : Value) (Q : Value → World → Prop) (w : World) : Prop :=
 pur Try.prog (convert 107 109 v_x) fun t8 => 
 pur Try.prog (convert 107 109 v_y) fun t10 => 
 pur Try.prog (binS .mul 109 false false t8 t10) fun t11 => 
 pur Try.prog (binS .shr 109 false true t11 (.int .u64 32)) fun t13 => 
 pur Try.prog (convert 109 107 t13) fun t14 => 
 pur Try.prog (convert 109 107 t11) fun t16 => 
 Q (.tuple #[t14, t16]) w
theorem eq68 (v_x v_y : Value) (Q : Value → World → Prop) (w : World) : semF Try.prog 68 [v_x, v_y] Q w = S68 v_x v_y Q w := by kernel_rfl
theorem ref68 {v_x v_y : Value} {Q : Value → World → Prop} {w : World} (h : S68 v_x v_y Q w) : callS Try.prog 68 #[v_x, v_y] Q w :=
  callS_of mix (fun a w => Try.call68 a w) (by kernel_rfl) (by rw [eq68]; exact h)
-- math/bits.Mul64
def S69 (v_x v_y : Value) (Q : Value → World → Prop) (w : World) : Prop :=
 pur Try.prog (binS .and 109 false true v_x (.int .u64 4294967295)) fun t15 => 
 pur Try.prog (binS .shr 109 false true v_x (.int .u64 32)) fun t17 => 
 pur Try.prog (binS .and 109 false true v_y (.int .u64 4294967295)) fun t19 => 
 pur Try.prog (binS .shr 109 false true v_y (.int .u64 32)) fun t21 => 
 pur Try.prog (binS .mul 109 false false t15 t19) fun t24 => 
 pur Try.prog (binS .mul 109 false false t17 t19) fun t27 => 
 pur Try.prog (binS .shr 109 false true t24 (.int .u64 32)) fun t29 => 
 pur Try.prog (binS .add 109 false false t27 t29) fun t30 => 
 pur Try.prog (binS .and 109 false true t30 (.int .u64 4294967295)) fun t32 => 
 pur Try.prog (binS .shr 109 false true t30 (.int .u64 32)) fun t34 => 
 pur Try.prog (binS .mul 109 false false t15 t21) fun t38 => 
 pur Try.prog (binS .add 109 false false t32 t38) fun t39 => 
 pur Try.prog (binS .mul 109 false false t17 t21) fun t42 => 
 pur Try.prog (binS .add 109 false false t42 t34) fun t44 => 
 pur Try.prog (binS .shr 109 false true t39 (.int .u64 32)) fun t46 => 
 pur Try.prog (binS .add 109 false false t44 t46) fun t47 => 
 pur Try.prog (binS .mul 109 false false v_x v_y) fun t50 => 
 Q (.tuple #[t47, t50]) w
theorem eq69 (v_x v_y : Value) (Q : Value → World → Prop) (w : World) : semF Try.prog 69 [v_x, v_y] Q w = S69 v_x v_y Q w := by kernel_rfl
theorem ref69 {v_x v_y : Value} {Q : Value → World → Prop} {w : World} (h : S69 v_x v_y Q w) : callS Try.prog 69 #[v_x, v_y] Q w :=
  callS_of mix (fun a w => Try.call69 a w) (by kernel_rfl) (by rw [eq69]; exact h)
-- internal/stringslite.HasPrefix
def S70 (v_s v_prefix : Value) (Q : Value → World → Prop) (w : World) : Prop :=
 pur Try.prog (Builtin.len_ #[9] 3 #[v_s]) fun t6 => 
 pur Try.prog (Builtin.len_ #[9] 3 #[v_prefix]) fun t8 => 
 pur Try.prog (binS .geq 3 false false t6 t8) fun t9 => 
 gd t9 true (fun k w_1 => k v_s w_1) (fun t11_1 w_2 => 
 gd t9 true (fun k_1 w_3 => k_1 v_prefix w_3) (fun t12_1 w_4 => 
 gd t9 true (fun k_2 w_5 => pur Try.prog (Builtin.len_ #[9] 3 #[t12_1]) fun t13 => k_2 t13 w_5) (fun t13_1 w_6 => 
 gd t9 true (fun k_3 w_7 => pur Try.prog (Instr.sliceAt 9 t11_1 none (some t13_1) none) fun t14 => k_3 t14 w_7) (fun t14_1 w_8 => 
 gd t9 true (fun k_4 w_9 => k_4 v_prefix w_9) (fun t15_1 w_10 => 
 gd t9 true (fun k_5 w_11 => pur Try.prog (binS .eql 9 false false t14_1 t15_1) fun t16 => k_5 t16 w_11) (fun t16_1 w_12 => 
 pur Try.prog (pickS t9 t16_1 (.bool false)) fun t17 => 
 Q t17 w_12) w_10) w_8) w_6) w_4) w_2) w
theorem eq70 (v_s v_prefix : Value) (Q : Value → World → Prop) (w : World) : semF Try.prog 70 [v_s, v_prefix] Q w = S70 v_s v_prefix Q w := by kernel_rfl
theorem ref70 {v_s v_prefix : Value} {Q : Value → World → Prop} {w : World} (h : S70 v_s v_prefix Q w) : callS Try.prog 70 #[v_s, v_prefix] Q w :=
  callS_of mix (fun a w => Try.call70 a w) (by kernel_rfl) (by rw [eq70]; exact h)
-- (*strings.Builder).grow
def S72 (v_b v_n : Value) (Q : Value → World → Prop) (w : World) : Prop :=
 ∃ S : World → Prop, S (World.drew w) ∧ 
 pur Try.prog (nilV v_b) fun t6 => 
 pur Try.prog (Instr.fieldAt 89 t6 1) fun t7 => 
 hld Try.prog S (Instr.loadAt 87 t7) fun t8 => 
 pur Try.prog (Builtin.cap_ #[87] 3 #[t8]) fun t9 => 
 pur Try.prog (binS .mul 3 true false (.int .i64 2) t9) fun t10 => 
 pur Try.prog (binS .add 3 false false t10 v_n) fun t12 => 
 callS Try.prog 81 #[t12] (fun t13 w_1 => S w_1 ∧ 
 pur Try.prog (nilV v_b) fun t15 => 
 pur Try.prog (Instr.fieldAt 89 t15 1) fun t16 => 
 hld Try.prog S (Instr.loadAt 87 t16) fun t17 => 
 pur Try.prog (Builtin.len_ #[87] 3 #[t17]) fun t18 => 
 pur Try.prog (Instr.sliceAt 87 t13 none (some t18) none) fun t19 => 
 pur Try.prog (nilV v_b) fun t22 => 
 pur Try.prog (Instr.fieldAt 89 t22 1) fun t23 => 
 rd Try.prog (Instr.loadAt 87 t23) (fun t24 => 
 act Try.prog (Builtin.copy_ #[87, 87] 3 #[t19, t24]) (fun _ w_2 => 
 pur Try.prog (nilV v_b) fun t28 => 
 pur Try.prog (Instr.fieldAt 89 t28 1) fun t29 => 
 act Try.prog (thenU (Instr.storeAt 87 t29 t19)) (fun _ w_3 => 
 Q (.tuple #[]) w_3) w_2) w_1) w_1) (World.drew w)
theorem eq72 (v_b v_n : Value) (Q : Value → World → Prop) (w : World) : semF Try.prog 72 [v_b, v_n] Q w = S72 v_b v_n Q w := by kernel_rfl
theorem ref72 {v_b v_n : Value} {Q : Value → World → Prop} {w : World} (h : S72 v_b v_n Q w) : callS Try.prog 72 #[v_b, v_n] Q w :=
  callS_of mix (fun a w => Try.call72 a w) (by kernel_rfl) (by rw [eq72]; exact h)
-- slices.IndexFunc[[]commons/api.Span,commons/api.Span]
def S78 (v_s v_f : Value) (Q : Value → World → Prop) (w : World) : Prop :=
 pur Try.prog (Builtin.len_ #[74] 3 #[v_s]) fun t7 => 
 lp 1 (fun J => fun t8 w_1 => ∀ _j : Fr, 
  pur Try.prog (binS .lss 3 false false t8 t7) fun t9 => 
  condS t9
   (pur Try.prog (Instr.indexAt 74 v_s t8) fun t14 => 
  rd Try.prog (Instr.loadAt 33 t14) (fun t15 => 
  callF Try.prog v_f #[t15] (fun t16 w_2 => 
  condS t16
   (Q t8 w_2)
   (pur Try.prog (binS .add 3 false true t8 (.int .i64 1)) fun t18 => 
  J t18 w_2)) w_1) w_1)
   (Q (.int .i64 (-1)) w_1)) [(.int .i64 0)] w
theorem eq78 (v_s v_f : Value) (Q : Value → World → Prop) (w : World) : semF Try.prog 78 [v_s, v_f] Q w = S78 v_s v_f Q w := by kernel_rfl
theorem ref78 {v_s v_f : Value} {Q : Value → World → Prop} {w : World} (h : S78 v_s v_f Q w) : callS Try.prog 78 #[v_s, v_f] Q w :=
  callS_of mix (fun a w => Try.call78 a w) (by kernel_rfl) (by rw [eq78]; exact h)
end Go.Proofs.Ytelcfojkacdbpaa
