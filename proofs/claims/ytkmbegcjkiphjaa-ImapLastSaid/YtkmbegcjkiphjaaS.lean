/- The readings of the functions' code, printed by a program, each held equal to the one that is computed: for all arguments, all worlds.
   Conditions: none. -/
import Derived.Test.YtkmbegcjkiphjaaShC
import Derived.Test.YtkmbegcjkiphjaaProg
import Derived.KernelRfl
set_option linter.unusedSimpArgs false
set_option linter.unusedVariables false
namespace Go.Proofs.Ytkmbegcjkiphjaa
open Go.Sh
set_option maxRecDepth 100000
theorem mix : Try.prog.follows .mixedOrders = true := by kernel_rfl

-- gosem.cut.init
def S2 (Q : Value → World → Prop) (w : World) : Prop :=
 callS Try.prog 1 #[] (fun _ w_1 => 
 Q (.tuple #[]) w_1) w
theorem eq2 (Q : Value → World → Prop) (w : World) : semF Try.prog 2 [] Q w = S2 Q w := by kernel_rfl
theorem ref2 {Q : Value → World → Prop} {w : World} (h : S2 Q w) : callS Try.prog 2 #[] Q w :=
  callS_of mix (fun a w => Try.call2 a w) (by kernel_rfl) (by rw [eq2]; exact h)
-- commons/commonslaw7.ImapLast
def S3 (v_l v_block : Value) (Q : Value → World → Prop) (w : World) : Prop :=
 pur Try.prog (Builtin.len_ #[22] 3 #[v_l]) fun t16 => 
 pur Try.prog (binS .gtr 3 false true t16 (.int .i64 60)) fun t17 => 
 condS t17
  (callS Try.prog 8 #[] (fun t18 w_1 => 
  Q t18 w_1) w)
  (callS Try.prog 9 #[] (fun t19 w_2 => 
 rd Try.prog (binS .eql 24 false true t19 (.pointer none)) (fun t21 => 
 condS t21
  (Q (.bool false) w_2)
  (lp 3 (fun J => fun v_want v_there v_i w_3 => ∀ _j : Fr, 
  pur Try.prog (Builtin.len_ #[22] 3 #[v_l]) fun t24 => 
  pur Try.prog (binS .lss 3 false false v_i t24) fun t25 => 
  condS t25
   (jn 2 (fun J_1 => 
   pur Try.prog (Instr.indexAt 22 v_l v_i) fun t30 => 
   pur Try.prog (Instr.fieldAt 29 t30 1) fun t31 => 
   rd Try.prog (Instr.loadAt 3 t31) (fun t32 => 
   pur Try.prog (convert 3 5 t32) fun t33 => 
   act Try.prog (Instr.buildSlice 30 1 #[(0, t33)]) (fun t34 w_4 => 
   act Try.prog (convert 30 9 t34) (fun t35 w_5 => 
   pur Try.prog (Instr.indexAt 22 v_l v_i) fun t38 => 
   pur Try.prog (Instr.fieldAt 29 t38 3) fun t39 => 
   rd Try.prog (Instr.loadAt 27 t39) (fun t40 => 
   callS Try.prog 10 #[t40] (fun t41 w_6 => 
   gd t41 true (fun k w_7 => k v_l w_7) (fun t43_1 w_8 => 
   gd t41 true (fun k_1 w_9 => k_1 v_i w_9) (fun t44_1 w_10 => 
   gd t41 true (fun k_2 w_11 => pur Try.prog (Instr.indexAt 22 t43_1 t44_1) fun t45 => k_2 t45 w_11) (fun t45_1 w_12 => 
   gd t41 true (fun k_3 w_13 => pur Try.prog (Instr.fieldAt 29 t45_1 3) fun t46 => k_3 t46 w_13) (fun t46_1 w_14 => 
   gd t41 true (fun k_4 w_15 => pur Try.prog (Instr.fieldAt 27 t46_1 0) fun t47 => k_4 t47 w_15) (fun t47_1 w_16 => 
   gd t41 true (fun k_5 w_17 => rd Try.prog (Instr.loadAt 3 t47_1) (fun t48 => k_5 t48 w_17) w_17) (fun t48_1 w_18 => 
   gd t41 true (fun k_6 w_19 => k_6 v_block w_19) (fun t49_1 w_20 => 
   gd t41 true (fun k_7 w_21 => pur Try.prog (binS .leq 3 false false t48_1 t49_1) fun t50 => k_7 t50 w_21) (fun t50_1 w_22 => 
   pur Try.prog (pickS t41 t50_1 (.bool false)) fun t51 => 
   gd t51 true (fun k_8 w_23 => k_8 v_block w_23) (fun t53_1 w_24 => 
   gd t51 true (fun k_9 w_25 => k_9 v_l w_25) (fun t54_1 w_26 => 
   gd t51 true (fun k_10 w_27 => k_10 v_i w_27) (fun t55_1 w_28 => 
   gd t51 true (fun k_11 w_29 => pur Try.prog (Instr.indexAt 22 t54_1 t55_1) fun t56 => k_11 t56 w_29) (fun t56_1 w_30 => 
   gd t51 true (fun k_12 w_31 => pur Try.prog (Instr.fieldAt 29 t56_1 3) fun t57 => k_12 t57 w_31) (fun t57_1 w_32 => 
   gd t51 true (fun k_13 w_33 => pur Try.prog (Instr.fieldAt 27 t57_1 1) fun t58 => k_13 t58 w_33) (fun t58_1 w_34 => 
   gd t51 true (fun k_14 w_35 => rd Try.prog (Instr.loadAt 3 t58_1) (fun t59 => k_14 t59 w_35) w_35) (fun t59_1 w_36 => 
   gd t51 true (fun k_15 w_37 => pur Try.prog (binS .lss 3 false false t53_1 t59_1) fun t60 => k_15 t60 w_37) (fun t60_1 w_38 => 
   pur Try.prog (pickS t51 t60_1 (.bool false)) fun t61 => 
   pur Try.prog (Instr.indexAt 22 v_l v_i) fun t64 => 
   pur Try.prog (Instr.fieldAt 29 t64 0) fun t65 => 
   rd Try.prog (Instr.loadAt 3 t65) (fun t66 => 
   pur Try.prog (binS .eql 3 false true t66 (.int .i64 2)) fun t67 => 
   condS t67
    (pur Try.prog (Instr.indexAt 22 v_l v_i) fun t71 => 
    pur Try.prog (Instr.fieldAt 29 t71 3) fun t72 => 
    rd Try.prog (Instr.loadAt 27 t72) (fun t73 => 
    callS Try.prog 11 #[t19, t73] (fun _ w_39 => 
    gd v_there true (fun k_16 w_40 => k_16 t61 w_40) (fun t77_1 w_41 => 
    gd v_there true (fun k_17 w_42 => pur Try.prog (Op.unary .not t77_1) fun t78 => k_17 t78 w_42) (fun t78_1 w_43 => 
    pur Try.prog (pickS v_there t78_1 (.bool false)) fun t79 => 
    J_1 v_want t79 w_43) w_41) w_39) w_38) w_38)
    (pur Try.prog (Instr.indexAt 22 v_l v_i) fun t83 => 
    pur Try.prog (Instr.fieldAt 29 t83 3) fun t84 => 
    rd Try.prog (Instr.loadAt 27 t84) (fun t85 => 
    callS Try.prog 12 #[t19, t85, t35] (fun _ w_44 => 
    condS t61
     (J_1 t35 (.bool true) w_44)
     (J_1 v_want v_there w_44)) w_38) w_38)) w_38) w_36) w_34) w_32) w_30) w_28) w_26) w_24) w_22) w_20) w_18) w_16) w_14) w_12) w_10) w_8) w_6) w_5) w_5) w_4) w_3) w_3)
  (fun v_want_1 v_there_1 w_45 => ∀ _j : Fr, 
   pur Try.prog (binS .add 3 false true v_i (.int .i64 1)) fun t27 => 
   J v_want_1 v_there_1 t27 w_45))
   (callS Try.prog 13 #[t19, v_block] (fun t93 w_46 => 
 pur Try.prog (Instr.extract t93 0) fun t94 => 
 pur Try.prog (Instr.extract t93 1) fun t95 => 
 callS Try.prog 14 #[t19] (fun t97 w_47 => 
 lp 1 (fun J_2 => fun v_i_1 w_48 => ∀ _j : Fr, 
  pur Try.prog (Builtin.len_ #[35] 3 #[t97]) fun t100 => 
  pur Try.prog (binS .lss 3 false false v_i_1 t100) fun t101 => 
  condS t101
   (pur Try.prog (binS .sub 3 false true v_i_1 (.int .i64 1)) fun t106 => 
  pur Try.prog (Instr.indexAt 35 t97 t106) fun t107 => 
  pur Try.prog (Instr.fieldAt 38 t107 0) fun t108 => 
  pur Try.prog (Instr.fieldAt 27 t108 1) fun t109 => 
  rd Try.prog (Instr.loadAt 3 t109) (fun t110 => 
  pur Try.prog (Instr.indexAt 35 t97 v_i_1) fun t113 => 
  pur Try.prog (Instr.fieldAt 38 t113 0) fun t114 => 
  pur Try.prog (Instr.fieldAt 27 t114 0) fun t115 => 
  rd Try.prog (Instr.loadAt 3 t115) (fun t116 => 
  pur Try.prog (binS .gtr 3 false false t110 t116) fun t117 => 
  gd t117 false (fun k_18 w_49 => k_18 t97 w_49) (fun t119_1 w_50 => 
  gd t117 false (fun k_19 w_51 => k_19 v_i_1 w_51) (fun t120_1 w_52 => 
  gd t117 false (fun k_20 w_53 => pur Try.prog (binS .sub 3 false true t120_1 (.int .i64 1)) fun t121 => k_20 t121 w_53) (fun t121_1 w_54 => 
  gd t117 false (fun k_21 w_55 => pur Try.prog (Instr.indexAt 35 t119_1 t121_1) fun t122 => k_21 t122 w_55) (fun t122_1 w_56 => 
  gd t117 false (fun k_22 w_57 => pur Try.prog (Instr.fieldAt 38 t122_1 0) fun t123 => k_22 t123 w_57) (fun t123_1 w_58 => 
  gd t117 false (fun k_23 w_59 => pur Try.prog (Instr.fieldAt 27 t123_1 1) fun t124 => k_23 t124 w_59) (fun t124_1 w_60 => 
  gd t117 false (fun k_24 w_61 => rd Try.prog (Instr.loadAt 3 t124_1) (fun t125 => k_24 t125 w_61) w_61) (fun t125_1 w_62 => 
  gd t117 false (fun k_25 w_63 => k_25 t97 w_63) (fun t126_1 w_64 => 
  gd t117 false (fun k_26 w_65 => k_26 v_i_1 w_65) (fun t127_1 w_66 => 
  gd t117 false (fun k_27 w_67 => pur Try.prog (Instr.indexAt 35 t126_1 t127_1) fun t128 => k_27 t128 w_67) (fun t128_1 w_68 => 
  gd t117 false (fun k_28 w_69 => pur Try.prog (Instr.fieldAt 38 t128_1 0) fun t129 => k_28 t129 w_69) (fun t129_1 w_70 => 
  gd t117 false (fun k_29 w_71 => pur Try.prog (Instr.fieldAt 27 t129_1 0) fun t130 => k_29 t130 w_71) (fun t130_1 w_72 => 
  gd t117 false (fun k_30 w_73 => rd Try.prog (Instr.loadAt 3 t130_1) (fun t131 => k_30 t131 w_73) w_73) (fun t131_1 w_74 => 
  gd t117 false (fun k_31 w_75 => pur Try.prog (binS .eql 3 false false t125_1 t131_1) fun t132 => k_31 t132 w_75) (fun t132_1 w_76 => 
  gd t117 false (fun k_32 w_77 => k_32 t132_1 w_77) (fun t133_1 w_78 => 
  gd t133_1 true (fun k_33 w_79 => k_33 t97 w_79) (fun t134_1 w_80 => 
  gd t133_1 true (fun k_34 w_81 => k_34 v_i_1 w_81) (fun t135_1 w_82 => 
  gd t133_1 true (fun k_35 w_83 => pur Try.prog (binS .sub 3 false true t135_1 (.int .i64 1)) fun t136 => k_35 t136 w_83) (fun t136_1 w_84 => 
  gd t133_1 true (fun k_36 w_85 => pur Try.prog (Instr.indexAt 35 t134_1 t136_1) fun t137 => k_36 t137 w_85) (fun t137_1 w_86 => 
  gd t133_1 true (fun k_37 w_87 => pur Try.prog (Instr.fieldAt 38 t137_1 1) fun t138 => k_37 t138 w_87) (fun t138_1 w_88 => 
  gd t133_1 true (fun k_38 w_89 => rd Try.prog (Instr.loadAt 9 t138_1) (fun t139 => k_38 t139 w_89) w_89) (fun t139_1 w_90 => 
  gd t133_1 true (fun k_39 w_91 => k_39 t97 w_91) (fun t140_1 w_92 => 
  gd t133_1 true (fun k_40 w_93 => k_40 v_i_1 w_93) (fun t141_1 w_94 => 
  gd t133_1 true (fun k_41 w_95 => pur Try.prog (Instr.indexAt 35 t140_1 t141_1) fun t142 => k_41 t142 w_95) (fun t142_1 w_96 => 
  gd t133_1 true (fun k_42 w_97 => pur Try.prog (Instr.fieldAt 38 t142_1 1) fun t143 => k_42 t143 w_97) (fun t143_1 w_98 => 
  gd t133_1 true (fun k_43 w_99 => rd Try.prog (Instr.loadAt 9 t143_1) (fun t144 => k_43 t144 w_99) w_99) (fun t144_1 w_100 => 
  gd t133_1 true (fun k_44 w_101 => pur Try.prog (binS .eql 9 false false t139_1 t144_1) fun t145 => k_44 t145 w_101) (fun t145_1 w_102 => 
  gd t117 false (fun k_45 w_103 => pur Try.prog (pickS t133_1 t145_1 (.bool false)) fun t146 => k_45 t146 w_103) (fun t146_1 w_104 => 
  pur Try.prog (pickS t117 (.bool true) t146_1) fun t147 => 
  condS t147
   (Q (.bool false) w_104)
   (pur Try.prog (binS .add 3 false true v_i_1 (.int .i64 1)) fun t103 => 
  J_2 t103 w_104)) w_102) w_100) w_98) w_96) w_94) w_92) w_90) w_88) w_86) w_84) w_82) w_80) w_78) w_76) w_74) w_72) w_70) w_68) w_66) w_64) w_62) w_60) w_58) w_56) w_54) w_52) w_50) (World.drew w_48)) (World.drew w_48)) (World.drew w_48))
   (callS Try.prog 8 #[] (fun t148 w_105 => 
 gd t148 true (fun k_46 w_106 => k_46 t95 w_106) (fun t150_1 w_107 => 
 gd t148 true (fun k_47 w_108 => k_47 v_there w_108) (fun t151_1 w_109 => 
 gd t148 true (fun k_48 w_110 => pur Try.prog (binS .eql 4 false false t150_1 t151_1) fun t152 => k_48 t152 w_110) (fun t152_1 w_111 => 
 pur Try.prog (pickS t148 t152_1 (.bool false)) fun t153 => 
 gd t153 true (fun k_49 w_112 => k_49 t95 w_112) (fun t155_1 w_113 => 
 gd t153 true (fun k_50 w_114 => pur Try.prog (Op.unary .not t155_1) fun t156 => k_50 t156 w_114) (fun t156_1 w_115 => 
 gd t153 true (fun k_51 w_116 => k_51 t156_1 w_116) (fun t157_1 w_117 => 
 gd t157_1 false (fun k_52 w_118 => k_52 t94 w_118) (fun t158_1 w_119 => 
 gd t157_1 false (fun k_53 w_120 => k_53 v_want w_120) (fun t159_1 w_121 => 
 gd t157_1 false (fun k_54 w_122 => pur Try.prog (binS .eql 9 false false t158_1 t159_1) fun t160 => k_54 t160 w_122) (fun t160_1 w_123 => 
 gd t153 true (fun k_55 w_124 => pur Try.prog (pickS t157_1 (.bool true) t160_1) fun t161 => k_55 t161 w_124) (fun t161_1 w_125 => 
 pur Try.prog (pickS t153 t161_1 (.bool false)) fun t162 => 
 Q t162 w_125) w_123) w_121) w_119) w_117) w_115) w_113) w_111) w_109) w_107) w_105) w_48)) [(.int .i64 1)] w_47) w_46) w_3)) [(.string ⟨#[]⟩), (.bool false), (.int .i64 0)] w_2)) w_2) w)
theorem eq3 (v_l v_block : Value) (Q : Value → World → Prop) (w : World) : semF Try.prog 3 [v_l, v_block] Q w = S3 v_l v_block Q w := by kernel_rfl
theorem ref3 {v_l v_block : Value} {Q : Value → World → Prop} {w : World} (h : S3 v_l v_block Q w) : callS Try.prog 3 #[v_l, v_block] Q w :=
  callS_of mix (fun a w => Try.call3 a w) (by kernel_rfl) (by rw [eq3]; exact h)
-- commons/commonslaw7.ImapParts
def S4 (v_l v_from v_mid v_to : Value) (Q : Value → World → Prop) (w : World) : Prop :=
 pur Try.prog (Builtin.len_ #[22] 3 #[v_l]) fun t20 => 
 pur Try.prog (binS .gtr 3 false true t20 (.int .i64 40)) fun t21 => 
 gd t21 false (fun k w_1 => k v_from w_1) (fun t23_1 w_2 => 
 gd t21 false (fun k_1 w_3 => pur Try.prog (binS .lss 3 false true t23_1 (.int .i64 0)) fun t24 => k_1 t24 w_3) (fun t24_1 w_4 => 
 pur Try.prog (pickS t21 (.bool true) t24_1) fun t25 => 
 gd t25 false (fun k_2 w_5 => k_2 v_from w_5) (fun t27_1 w_6 => 
 gd t25 false (fun k_3 w_7 => k_3 v_mid w_7) (fun t28_1 w_8 => 
 gd t25 false (fun k_4 w_9 => pur Try.prog (binS .geq 3 false false t27_1 t28_1) fun t29 => k_4 t29 w_9) (fun t29_1 w_10 => 
 pur Try.prog (pickS t25 (.bool true) t29_1) fun t30 => 
 gd t30 false (fun k_5 w_11 => k_5 v_mid w_11) (fun t32_1 w_12 => 
 gd t30 false (fun k_6 w_13 => k_6 v_to w_13) (fun t33_1 w_14 => 
 gd t30 false (fun k_7 w_15 => pur Try.prog (binS .geq 3 false false t32_1 t33_1) fun t34 => k_7 t34 w_15) (fun t34_1 w_16 => 
 pur Try.prog (pickS t30 (.bool true) t34_1) fun t35 => 
 gd t35 false (fun k_8 w_17 => k_8 v_to w_17) (fun t37_1 w_18 => 
 gd t35 false (fun k_9 w_19 => pur Try.prog (binS .gtr 3 false true t37_1 (.int .i64 1000)) fun t38 => k_9 t38 w_19) (fun t38_1 w_20 => 
 pur Try.prog (pickS t35 (.bool true) t38_1) fun t39 => 
 condS t39
  (callS Try.prog 8 #[] (fun t40 w_21 => 
  Q t40 w_21) w_20)
  (callS Try.prog 15 #[] (fun t41 w_22 => 
 rd Try.prog (binS .eql 40 false true t41 (.pointer none)) (fun t43 => 
 condS t43
  (Q (.bool false) w_22)
  (lp 1 (fun J => fun v_i w_23 => ∀ _j : Fr, 
  pur Try.prog (Builtin.len_ #[22] 3 #[v_l]) fun t46 => 
  pur Try.prog (binS .lss 3 false false v_i t46) fun t47 => 
  condS t47
   (pur Try.prog (Instr.indexAt 22 v_l v_i) fun t53 => 
  pur Try.prog (Instr.fieldAt 29 t53 3) fun t54 => 
  rd Try.prog (Instr.loadAt 27 t54) (fun t55 => 
  pur Try.prog (Instr.indexAt 22 v_l v_i) fun t58 => 
  pur Try.prog (Instr.fieldAt 29 t58 1) fun t59 => 
  rd Try.prog (Instr.loadAt 3 t59) (fun t60 => 
  callS Try.prog 16 #[t41, t55, t60] (fun _ w_24 => 
  pur Try.prog (binS .add 3 false true v_i (.int .i64 1)) fun t49 => 
  J t49 w_24) (World.drew w_23)) (World.drew w_23)) (World.drew w_23))
   (pur Try.prog (Instr.build 27 #[(0, v_from), (1, v_mid)]) fun t65 => 
 callS Try.prog 17 #[t41, t65] (fun t66 w_25 => 
 pur Try.prog (Instr.build 27 #[(0, v_mid), (1, v_to)]) fun t70 => 
 callS Try.prog 17 #[t41, t70] (fun t71 w_26 => 
 pur Try.prog (Instr.build 27 #[(0, v_from), (1, v_to)]) fun t75 => 
 callS Try.prog 17 #[t41, t75] (fun t76 w_27 => 
 callS Try.prog 15 #[] (fun t77 w_28 => 
 act Try.prog (Builtin.append_ #[43, 43] 43 #[(.slice none 0 0), t66]) (fun t79 w_29 => 
 act Try.prog (Builtin.append_ #[43, 43] 43 #[t79, t71]) (fun t81 w_30 => 
 lp 1 (fun J_1 => fun v_i_1 w_31 => ∀ _j : Fr, 
  pur Try.prog (Builtin.len_ #[43] 3 #[t81]) fun t84 => 
  pur Try.prog (binS .lss 3 false false v_i_1 t84) fun t85 => 
  condS t85
   (pur Try.prog (Instr.indexAt 43 t81 v_i_1) fun t91 => 
  pur Try.prog (Instr.fieldAt 46 t91 0) fun t92 => 
  rd Try.prog (Instr.loadAt 27 t92) (fun t93 => 
  pur Try.prog (Instr.indexAt 43 t81 v_i_1) fun t96 => 
  pur Try.prog (Instr.fieldAt 46 t96 1) fun t97 => 
  rd Try.prog (Instr.loadAt 3 t97) (fun t98 => 
  callS Try.prog 16 #[t77, t93, t98] (fun _ w_32 => 
  pur Try.prog (binS .add 3 false true v_i_1 (.int .i64 1)) fun t87 => 
  J_1 t87 w_32) (World.drew w_31)) (World.drew w_31)) (World.drew w_31))
   (callS Try.prog 18 #[t77] (fun t101 w_33 => 
 pur Try.prog (Builtin.len_ #[43] 3 #[t76]) fun t103 => 
 pur Try.prog (Builtin.len_ #[43] 3 #[t101]) fun t105 => 
 pur Try.prog (binS .neq 3 false false t103 t105) fun t106 => 
 condS t106
  (Q (.bool false) w_33)
  (lp 1 (fun J_2 => fun v_i_2 w_34 => ∀ _j : Fr, 
  pur Try.prog (Builtin.len_ #[43] 3 #[t76]) fun t109 => 
  pur Try.prog (binS .lss 3 false false v_i_2 t109) fun t110 => 
  condS t110
   (pur Try.prog (Instr.indexAt 43 t76 v_i_2) fun t115 => 
  rd Try.prog (Instr.loadAt 46 t115) (fun t116 => 
  pur Try.prog (Instr.indexAt 43 t101 v_i_2) fun t119 => 
  rd Try.prog (Instr.loadAt 46 t119) (fun t120 => 
  rd Try.prog (binS .neq 46 false false t116 t120) (fun t121 => 
  gd t121 false (fun k_10 w_35 => k_10 t76 w_35) (fun t123_1 w_36 => 
  gd t121 false (fun k_11 w_37 => k_11 v_i_2 w_37) (fun t124_1 w_38 => 
  gd t121 false (fun k_12 w_39 => pur Try.prog (Instr.indexAt 43 t123_1 t124_1) fun t125 => k_12 t125 w_39) (fun t125_1 w_40 => 
  gd t121 false (fun k_13 w_41 => pur Try.prog (Instr.fieldAt 46 t125_1 0) fun t126 => k_13 t126 w_41) (fun t126_1 w_42 => 
  gd t121 false (fun k_14 w_43 => pur Try.prog (Instr.fieldAt 27 t126_1 0) fun t127 => k_14 t127 w_43) (fun t127_1 w_44 => 
  gd t121 false (fun k_15 w_45 => rd Try.prog (Instr.loadAt 3 t127_1) (fun t128 => k_15 t128 w_45) w_45) (fun t128_1 w_46 => 
  gd t121 false (fun k_16 w_47 => k_16 v_from w_47) (fun t129_1 w_48 => 
  gd t121 false (fun k_17 w_49 => pur Try.prog (binS .lss 3 false false t128_1 t129_1) fun t130 => k_17 t130 w_49) (fun t130_1 w_50 => 
  pur Try.prog (pickS t121 (.bool true) t130_1) fun t131 => 
  gd t131 false (fun k_18 w_51 => k_18 t76 w_51) (fun t133_1 w_52 => 
  gd t131 false (fun k_19 w_53 => k_19 v_i_2 w_53) (fun t134_1 w_54 => 
  gd t131 false (fun k_20 w_55 => pur Try.prog (Instr.indexAt 43 t133_1 t134_1) fun t135 => k_20 t135 w_55) (fun t135_1 w_56 => 
  gd t131 false (fun k_21 w_57 => pur Try.prog (Instr.fieldAt 46 t135_1 0) fun t136 => k_21 t136 w_57) (fun t136_1 w_58 => 
  gd t131 false (fun k_22 w_59 => pur Try.prog (Instr.fieldAt 27 t136_1 1) fun t137 => k_22 t137 w_59) (fun t137_1 w_60 => 
  gd t131 false (fun k_23 w_61 => rd Try.prog (Instr.loadAt 3 t137_1) (fun t138 => k_23 t138 w_61) w_61) (fun t138_1 w_62 => 
  gd t131 false (fun k_24 w_63 => k_24 v_to w_63) (fun t139_1 w_64 => 
  gd t131 false (fun k_25 w_65 => pur Try.prog (binS .gtr 3 false false t138_1 t139_1) fun t140 => k_25 t140 w_65) (fun t140_1 w_66 => 
  pur Try.prog (pickS t131 (.bool true) t140_1) fun t141 => 
  condS t141
   (Q (.bool false) w_66)
   (pur Try.prog (binS .add 3 false true v_i_2 (.int .i64 1)) fun t112 => 
  J_2 t112 w_66)) w_64) w_62) w_60) w_58) w_56) w_54) w_52) w_50) w_48) w_46) w_44) w_42) w_40) w_38) w_36) (World.drew w_34)) (World.drew w_34)) (World.drew w_34)) (World.drew w_34))
   (callS Try.prog 8 #[] (fun t142 w_67 => 
 Q t142 w_67) w_34)) [(.int .i64 0)] w_33)) w_31)) [(.int .i64 0)] w_30) w_29) w_28) w_27) w_26) w_25) w_23)) [(.int .i64 0)] w_22)) w_22) w_20)) w_18) w_16) w_14) w_12) w_10) w_8) w_6) w_4) w_2) w
theorem eq4 (v_l v_from v_mid v_to : Value) (Q : Value → World → Prop) (w : World) : semF Try.prog 4 [v_l, v_from, v_mid, v_to] Q w = S4 v_l v_from v_mid v_to Q w := by kernel_rfl
theorem ref4 {v_l v_from v_mid v_to : Value} {Q : Value → World → Prop} {w : World} (h : S4 v_l v_from v_mid v_to Q w) : callS Try.prog 4 #[v_l, v_from, v_mid, v_to] Q w :=
  callS_of mix (fun a w => Try.call4 a w) (by kernel_rfl) (by rw [eq4]; exact h)
-- commons/commonslaw7.ImapWith
def S5 (v_l v_v v_block : Value) (Q : Value → World → Prop) (w : World) : Prop :=
 pur Try.prog (Builtin.len_ #[22] 3 #[v_l]) fun t15 => 
 pur Try.prog (binS .gtr 3 false true t15 (.int .i64 40)) fun t16 => 
 condS t16
  (callS Try.prog 8 #[] (fun t17 w_1 => 
  Q t17 w_1) w)
  (callS Try.prog 15 #[] (fun t18 w_2 => 
 rd Try.prog (binS .eql 40 false true t18 (.pointer none)) (fun t20 => 
 condS t20
  (Q (.bool false) w_2)
  (lp 1 (fun J => fun v_i w_3 => ∀ _j : Fr, 
  pur Try.prog (Builtin.len_ #[22] 3 #[v_l]) fun t23 => 
  pur Try.prog (binS .lss 3 false false v_i t23) fun t24 => 
  condS t24
   (jn 0 (fun J_1 => 
   pur Try.prog (Instr.indexAt 22 v_l v_i) fun t29 => 
   pur Try.prog (Instr.fieldAt 29 t29 0) fun t30 => 
   rd Try.prog (Instr.loadAt 3 t30) (fun t31 => 
   pur Try.prog (binS .eql 3 false true t31 (.int .i64 2)) fun t32 => 
   condS t32
    (pur Try.prog (Instr.indexAt 22 v_l v_i) fun t36 => 
    pur Try.prog (Instr.fieldAt 29 t36 3) fun t37 => 
    rd Try.prog (Instr.loadAt 27 t37) (fun t38 => 
    callS Try.prog 19 #[t18, t38] (fun _ w_4 => 
    J_1  w_4) w_3) w_3)
    (pur Try.prog (Instr.indexAt 22 v_l v_i) fun t43 => 
    pur Try.prog (Instr.fieldAt 29 t43 3) fun t44 => 
    rd Try.prog (Instr.loadAt 27 t44) (fun t45 => 
    pur Try.prog (Instr.indexAt 22 v_l v_i) fun t48 => 
    pur Try.prog (Instr.fieldAt 29 t48 1) fun t49 => 
    rd Try.prog (Instr.loadAt 3 t49) (fun t50 => 
    callS Try.prog 16 #[t18, t45, t50] (fun _ w_5 => 
    J_1  w_5) (World.drew w_3)) (World.drew w_3)) (World.drew w_3))) w_3)
  (fun  w_6 => ∀ _j : Fr, 
   pur Try.prog (binS .add 3 false true v_i (.int .i64 1)) fun t26 => 
   J t26 w_6))
   (callS Try.prog 20 #[t18, v_v] (fun t54 w_7 => 
 lp 2 (fun J_2 => fun v_in v_i_1 w_8 => ∀ _j : Fr, 
  pur Try.prog (Builtin.len_ #[49] 3 #[t54]) fun t57 => 
  pur Try.prog (binS .lss 3 false false v_i_1 t57) fun t58 => 
  condS t58
   (gd v_in false (fun k w_9 => k t54 w_9) (fun t63_1 w_10 => 
  gd v_in false (fun k_1 w_11 => k_1 v_i_1 w_11) (fun t64_1 w_12 => 
  gd v_in false (fun k_2 w_13 => pur Try.prog (Instr.indexAt 49 t63_1 t64_1) fun t65 => k_2 t65 w_13) (fun t65_1 w_14 => 
  gd v_in false (fun k_3 w_15 => rd Try.prog (Instr.loadAt 27 t65_1) (fun t66 => k_3 t66 w_15) w_15) (fun t66_1 w_16 => 
  gd v_in false (fun k_4 w_17 => k_4 v_block w_17) (fun t67_1 w_18 => 
  gd v_in false (fun k_5 w_19 => callS Try.prog 21 #[t66_1, t67_1] (fun t68 w_20 => k_5 t68 w_20) w_19) (fun t68_1 w_21 => 
  pur Try.prog (pickS v_in (.bool true) t68_1) fun t69 => 
  pur Try.prog (binS .gtr 3 false true v_i_1 (.int .i64 0)) fun t71 => 
  gd t71 true (fun k_6 w_22 => k_6 t54 w_22) (fun t73_1 w_23 => 
  gd t71 true (fun k_7 w_24 => k_7 v_i_1 w_24) (fun t74_1 w_25 => 
  gd t71 true (fun k_8 w_26 => pur Try.prog (binS .sub 3 false true t74_1 (.int .i64 1)) fun t75 => k_8 t75 w_26) (fun t75_1 w_27 => 
  gd t71 true (fun k_9 w_28 => pur Try.prog (Instr.indexAt 49 t73_1 t75_1) fun t76 => k_9 t76 w_28) (fun t76_1 w_29 => 
  gd t71 true (fun k_10 w_30 => pur Try.prog (Instr.fieldAt 27 t76_1 1) fun t77 => k_10 t77 w_30) (fun t77_1 w_31 => 
  gd t71 true (fun k_11 w_32 => rd Try.prog (Instr.loadAt 3 t77_1) (fun t78 => k_11 t78 w_32) w_32) (fun t78_1 w_33 => 
  gd t71 true (fun k_12 w_34 => k_12 t54 w_34) (fun t79_1 w_35 => 
  gd t71 true (fun k_13 w_36 => k_13 v_i_1 w_36) (fun t80_1 w_37 => 
  gd t71 true (fun k_14 w_38 => pur Try.prog (Instr.indexAt 49 t79_1 t80_1) fun t81 => k_14 t81 w_38) (fun t81_1 w_39 => 
  gd t71 true (fun k_15 w_40 => pur Try.prog (Instr.fieldAt 27 t81_1 0) fun t82 => k_15 t82 w_40) (fun t82_1 w_41 => 
  gd t71 true (fun k_16 w_42 => rd Try.prog (Instr.loadAt 3 t82_1) (fun t83 => k_16 t83 w_42) w_42) (fun t83_1 w_43 => 
  gd t71 true (fun k_17 w_44 => pur Try.prog (binS .geq 3 false false t78_1 t83_1) fun t84 => k_17 t84 w_44) (fun t84_1 w_45 => 
  pur Try.prog (pickS t71 t84_1 (.bool false)) fun t85 => 
  condS t85
   (Q (.bool false) w_45)
   (pur Try.prog (binS .add 3 false true v_i_1 (.int .i64 1)) fun t60 => 
  J_2 t69 t60 w_45)) w_43) w_41) w_39) w_37) w_35) w_33) w_31) w_29) w_27) w_25) w_23) (World.drew w_21)) w_18) w_16) w_14) w_12) w_10) w_8)
   (callS Try.prog 22 #[t18, v_block] (fun t89 w_46 => 
 pur Try.prog (Instr.extract t89 0) fun t90 => 
 pur Try.prog (Instr.extract t89 1) fun t91 => 
 callS Try.prog 8 #[] (fun t92 w_47 => 
 gd t92 true (fun k_18 w_48 => k_18 v_in w_48) (fun t94_1 w_49 => 
 gd t92 true (fun k_19 w_50 => k_19 t91 w_50) (fun t95_1 w_51 => 
 gd t92 true (fun k_20 w_52 => k_20 t95_1 w_52) (fun t96_1 w_53 => 
 gd t96_1 true (fun k_21 w_54 => k_21 t90 w_54) (fun t97_1 w_55 => 
 gd t96_1 true (fun k_22 w_56 => k_22 v_v w_56) (fun t98_1 w_57 => 
 gd t96_1 true (fun k_23 w_58 => pur Try.prog (binS .eql 3 false false t97_1 t98_1) fun t99 => k_23 t99 w_58) (fun t99_1 w_59 => 
 gd t92 true (fun k_24 w_60 => pur Try.prog (pickS t96_1 t99_1 (.bool false)) fun t100 => k_24 t100 w_60) (fun t100_1 w_61 => 
 gd t92 true (fun k_25 w_62 => pur Try.prog (binS .eql 4 false false t94_1 t100_1) fun t101 => k_25 t101 w_62) (fun t101_1 w_63 => 
 pur Try.prog (pickS t92 t101_1 (.bool false)) fun t102 => 
 Q t102 w_63) w_61) w_59) w_57) w_55) w_53) w_51) w_49) w_47) w_46) w_8)) [(.bool false), (.int .i64 0)] w_7) w_3)) [(.int .i64 0)] w_2)) w_2) w)
theorem eq5 (v_l v_v v_block : Value) (Q : Value → World → Prop) (w : World) : semF Try.prog 5 [v_l, v_v, v_block] Q w = S5 v_l v_v v_block Q w := by kernel_rfl
theorem ref5 {v_l v_v v_block : Value} {Q : Value → World → Prop} {w : World} (h : S5 v_l v_v v_block Q w) : callS Try.prog 5 #[v_l, v_v, v_block] Q w :=
  callS_of mix (fun a w => Try.call5 a w) (by kernel_rfl) (by rw [eq5]; exact h)
-- commons/commonslaw7.ImapSwaps
def S6 (v_l v_s v_v v_w : Value) (Q : Value → World → Prop) (w : World) : Prop :=
 act Try.prog (Instr.box 27 v_s) (fun t5 w_1 => 
 pur Try.prog (Builtin.len_ #[22] 3 #[v_l]) fun t21 => 
 pur Try.prog (binS .gtr 3 false true t21 (.int .i64 40)) fun t22 => 
 gd t22 false (fun k w_2 => k v_v w_2) (fun t24_1 w_3 => 
 gd t22 false (fun k_1 w_4 => k_1 v_w w_4) (fun t25_1 w_5 => 
 gd t22 false (fun k_2 w_6 => pur Try.prog (binS .eql 3 false false t24_1 t25_1) fun t26 => k_2 t26 w_6) (fun t26_1 w_7 => 
 pur Try.prog (pickS t22 (.bool true) t26_1) fun t27 => 
 condS t27
  (callS Try.prog 8 #[] (fun t28 w_8 => 
  Q t28 w_8) w_7)
  (callS Try.prog 15 #[] (fun t29 w_9 => 
 rd Try.prog (binS .eql 40 false true t29 (.pointer none)) (fun t31 => 
 condS t31
  (Q (.bool false) w_9)
  (lp 1 (fun J => fun v_i w_10 => ∀ _j : Fr, 
  pur Try.prog (Builtin.len_ #[22] 3 #[v_l]) fun t34 => 
  pur Try.prog (binS .lss 3 false false v_i t34) fun t35 => 
  condS t35
   (jn 0 (fun J_1 => 
   pur Try.prog (Instr.indexAt 22 v_l v_i) fun t40 => 
   pur Try.prog (Instr.fieldAt 29 t40 1) fun t41 => 
   rd Try.prog (Instr.loadAt 3 t41) (fun t42 => 
   pur Try.prog (binS .neq 3 false false t42 v_w) fun t44 => 
   condS t44
    (pur Try.prog (Instr.indexAt 22 v_l v_i) fun t48 => 
    pur Try.prog (Instr.fieldAt 29 t48 3) fun t49 => 
    rd Try.prog (Instr.loadAt 27 t49) (fun t50 => 
    pur Try.prog (Instr.indexAt 22 v_l v_i) fun t53 => 
    pur Try.prog (Instr.fieldAt 29 t53 1) fun t54 => 
    rd Try.prog (Instr.loadAt 3 t54) (fun t55 => 
    callS Try.prog 16 #[t29, t50, t55] (fun _ w_11 => 
    J_1  w_11) (World.drew w_10)) (World.drew w_10)) (World.drew w_10))
    (J_1  w_10)) w_10)
  (fun  w_12 => ∀ _j : Fr, 
   pur Try.prog (binS .add 3 false true v_i (.int .i64 1)) fun t37 => 
   J t37 w_12))
   (callS Try.prog 18 #[t29] (fun t58 w_13 => 
 callS Try.prog 20 #[t29, v_v] (fun t61 w_14 => 
 rd Try.prog (Instr.loadAt 27 t5) (fun t63 => 
 callS Try.prog 23 #[t29, t63, v_v, v_w] (fun t66 w_15 => 
 callS Try.prog 20 #[t29, v_w] (fun t69 w_16 => 
 lp 2 (fun J_2 => fun v_k v_i_1 w_17 => ∀ _j : Fr, 
  pur Try.prog (Builtin.len_ #[49] 3 #[t69]) fun t72 => 
  pur Try.prog (binS .lss 3 false false v_i_1 t72) fun t73 => 
  condS t73
   (pur Try.prog (binS .add 3 false true v_i_1 (.int .i64 1)) fun t80 => 
  pur Try.prog (Instr.sliceAt 49 t69 (some v_i_1) (some t80) none) fun t81 => 
  callS Try.prog 24 #[t61, t81] (fun t82 w_18 => 
  pur Try.prog (Op.unary .not t82) fun t83 => 
  gd t83 false (fun k_3 w_19 => k_3 t69 w_19) (fun t85_1 w_20 => 
  gd t83 false (fun k_4 w_21 => k_4 v_i_1 w_21) (fun t86_1 w_22 => 
  gd t83 false (fun k_5 w_23 => pur Try.prog (Instr.indexAt 49 t85_1 t86_1) fun t87 => k_5 t87 w_23) (fun t87_1 w_24 => 
  gd t83 false (fun k_6 w_25 => pur Try.prog (Instr.fieldAt 27 t87_1 0) fun t88 => k_6 t88 w_25) (fun t88_1 w_26 => 
  gd t83 false (fun k_7 w_27 => rd Try.prog (Instr.loadAt 3 t88_1) (fun t89 => k_7 t89 w_27) w_27) (fun t89_1 w_28 => 
  gd t83 false (fun k_8 w_29 => pur Try.prog (Instr.fieldAt 27 t5 0) fun t90 => k_8 t90 w_29) (fun t90_1 w_30 => 
  gd t83 false (fun k_9 w_31 => rd Try.prog (Instr.loadAt 3 t90_1) (fun t91 => k_9 t91 w_31) w_31) (fun t91_1 w_32 => 
  gd t83 false (fun k_10 w_33 => pur Try.prog (binS .lss 3 false false t89_1 t91_1) fun t92 => k_10 t92 w_33) (fun t92_1 w_34 => 
  pur Try.prog (pickS t83 (.bool true) t92_1) fun t93 => 
  gd t93 false (fun k_11 w_35 => k_11 t69 w_35) (fun t95_1 w_36 => 
  gd t93 false (fun k_12 w_37 => k_12 v_i_1 w_37) (fun t96_1 w_38 => 
  gd t93 false (fun k_13 w_39 => pur Try.prog (Instr.indexAt 49 t95_1 t96_1) fun t97 => k_13 t97 w_39) (fun t97_1 w_40 => 
  gd t93 false (fun k_14 w_41 => pur Try.prog (Instr.fieldAt 27 t97_1 1) fun t98 => k_14 t98 w_41) (fun t98_1 w_42 => 
  gd t93 false (fun k_15 w_43 => rd Try.prog (Instr.loadAt 3 t98_1) (fun t99 => k_15 t99 w_43) w_43) (fun t99_1 w_44 => 
  gd t93 false (fun k_16 w_45 => pur Try.prog (Instr.fieldAt 27 t5 1) fun t100 => k_16 t100 w_45) (fun t100_1 w_46 => 
  gd t93 false (fun k_17 w_47 => rd Try.prog (Instr.loadAt 3 t100_1) (fun t101 => k_17 t101 w_47) w_47) (fun t101_1 w_48 => 
  gd t93 false (fun k_18 w_49 => pur Try.prog (binS .gtr 3 false false t99_1 t101_1) fun t102 => k_18 t102 w_49) (fun t102_1 w_50 => 
  pur Try.prog (pickS t93 (.bool true) t102_1) fun t103 => 
  condS t103
   (Q (.bool false) w_50)
   (pur Try.prog (Instr.indexAt 49 t69 v_i_1) fun t107 => 
  rd Try.prog (Instr.loadAt 27 t107) (fun t108 => 
  callS Try.prog 25 #[t108] (fun t109 w_51 => 
  pur Try.prog (binS .add 3 false false v_k t109) fun t110 => 
  pur Try.prog (binS .add 3 false true v_i_1 (.int .i64 1)) fun t75 => 
  J_2 t110 t75 w_51) w_50) w_50)) w_48) w_46) w_44) w_42) w_40) w_38) w_36) w_34) w_32) w_30) w_28) w_26) w_24) w_22) w_20) w_18) (World.drew w_17))
   (rd Try.prog (Instr.loadAt 27 t5) (fun t112 => 
 callS Try.prog 23 #[t29, t112, v_w, v_v] (fun t115 w_52 => 
 callS Try.prog 18 #[t29] (fun t117 w_53 => 
 pur Try.prog (Builtin.len_ #[43] 3 #[t117]) fun t119 => 
 pur Try.prog (Builtin.len_ #[43] 3 #[t58]) fun t121 => 
 pur Try.prog (binS .neq 3 false false t119 t121) fun t122 => 
 gd t122 false (fun k_19 w_54 => k_19 t66 w_54) (fun t124_1 w_55 => 
 gd t122 false (fun k_20 w_56 => k_20 v_k w_56) (fun t125_1 w_57 => 
 gd t122 false (fun k_21 w_58 => pur Try.prog (binS .neq 3 false false t124_1 t125_1) fun t126 => k_21 t126 w_58) (fun t126_1 w_59 => 
 pur Try.prog (pickS t122 (.bool true) t126_1) fun t127 => 
 gd t127 false (fun k_22 w_60 => k_22 t115 w_60) (fun t129_1 w_61 => 
 gd t127 false (fun k_23 w_62 => k_23 t66 w_62) (fun t130_1 w_63 => 
 gd t127 false (fun k_24 w_64 => pur Try.prog (binS .neq 3 false false t129_1 t130_1) fun t131 => k_24 t131 w_64) (fun t131_1 w_65 => 
 pur Try.prog (pickS t127 (.bool true) t131_1) fun t132 => 
 condS t132
  (Q (.bool false) w_65)
  (lp 1 (fun J_3 => fun v_i_2 w_66 => ∀ _j : Fr, 
  pur Try.prog (Builtin.len_ #[43] 3 #[t117]) fun t135 => 
  pur Try.prog (binS .lss 3 false false v_i_2 t135) fun t136 => 
  condS t136
   (pur Try.prog (Instr.indexAt 43 t117 v_i_2) fun t141 => 
  rd Try.prog (Instr.loadAt 46 t141) (fun t142 => 
  pur Try.prog (Instr.indexAt 43 t58 v_i_2) fun t145 => 
  rd Try.prog (Instr.loadAt 46 t145) (fun t146 => 
  rd Try.prog (binS .neq 46 false false t142 t146) (fun t147 => 
  condS t147
   (Q (.bool false) (World.drew w_66))
   (pur Try.prog (binS .add 3 false true v_i_2 (.int .i64 1)) fun t138 => 
  J_3 t138 (World.drew w_66))) (World.drew w_66)) (World.drew w_66)) (World.drew w_66))
   (callS Try.prog 8 #[] (fun t148 w_67 => 
 gd t148 true (fun k_25 w_68 => k_25 t29 w_68) (fun t150_1 w_69 => 
 gd t148 true (fun k_26 w_70 => k_26 v_v w_70) (fun t151_1 w_71 => 
 gd t148 true (fun k_27 w_72 => callS Try.prog 20 #[t150_1, t151_1] (fun t152 w_73 => k_27 t152 w_73) w_72) (fun t152_1 w_74 => 
 gd t148 true (fun k_28 w_75 => k_28 t61 w_75) (fun t153_1 w_76 => 
 gd t148 true (fun k_29 w_77 => callS Try.prog 26 #[t152_1, t153_1] (fun t154 w_78 => k_29 t154 w_78) w_77) (fun t154_1 w_79 => 
 pur Try.prog (pickS t148 t154_1 (.bool false)) fun t155 => 
 Q t155 w_79) w_76) w_74) w_71) w_69) w_67) w_66)) [(.int .i64 0)] w_65)) w_63) w_61) w_59) w_57) w_55) w_53) w_52) w_17) w_17)) [(.int .i64 0), (.int .i64 0)] w_16) w_15) w_14) w_14) w_13) w_10)) [(.int .i64 0)] w_9)) w_9) w_7)) w_5) w_3) w_1) w
theorem eq6 (v_l v_s v_v v_w : Value) (Q : Value → World → Prop) (w : World) : semF Try.prog 6 [v_l, v_s, v_v, v_w] Q w = S6 v_l v_s v_v v_w Q w := by kernel_rfl
theorem ref6 {v_l v_s v_v v_w : Value} {Q : Value → World → Prop} {w : World} (h : S6 v_l v_s v_v v_w Q w) : callS Try.prog 6 #[v_l, v_s, v_v, v_w] Q w :=
  callS_of mix (fun a w => Try.call6 a w) (by kernel_rfl) (by rw [eq6]; exact h)
-- commons/commonslaw7.ImapNone
def S7 (v_s v_v : Value) (Q : Value → World → Prop) (w : World) : Prop :=
 act Try.prog (Instr.box 27 v_s) (fun t2 w_1 => 
 pur Try.prog (Instr.fieldAt 27 t2 0) fun t10 => 
 rd Try.prog (Instr.loadAt 3 t10) (fun t11 => 
 callS Try.prog 22 #[(.pointer none), t11] (fun t12 w_2 => 
 pur Try.prog (Instr.extract t12 0) fun _ => 
 pur Try.prog (Instr.extract t12 1) fun t14 => 
 ∃ S : World → Prop, S (World.drew w_2) ∧ 
 callS Try.prog 8 #[] (fun t15 w_3 => S w_3 ∧ 
 gd t15 true (fun k w_4 => k (.pointer none) w_4) (fun t17_1 w_5 => 
 gd t15 true (fun k_1 w_6 => hld Try.prog S (Instr.loadAt 27 t2) fun t18 => k_1 t18 w_6) (fun t18_1 w_7 => 
 gd t15 true (fun k_2 w_8 => k_2 v_v w_8) (fun t19_1 w_9 => 
 gd t15 true (fun k_3 w_10 => callS Try.prog 16 #[t17_1, t18_1, t19_1] (fun t20 w_11 => S w_11 ∧ k_3 t20 w_11) w_10) (fun t20_1 w_12 => 
 gd t15 true (fun k_4 w_13 => pur Try.prog (Op.unary .not t20_1) fun t21 => k_4 t21 w_13) (fun t21_1 w_14 => 
 pur Try.prog (pickS t15 t21_1 (.bool false)) fun t22 => 
 gd t22 true (fun k_5 w_15 => k_5 (.pointer none) w_15) (fun t24_1 w_16 => 
 gd t22 true (fun k_6 w_17 => hld Try.prog S (Instr.loadAt 27 t2) fun t25 => k_6 t25 w_17) (fun t25_1 w_18 => 
 gd t22 true (fun k_7 w_19 => callS Try.prog 19 #[t24_1, t25_1] (fun t26 w_20 => S w_20 ∧ k_7 t26 w_20) w_19) (fun t26_1 w_21 => 
 gd t22 true (fun k_8 w_22 => pur Try.prog (Op.unary .not t26_1) fun t27 => k_8 t27 w_22) (fun t27_1 w_23 => 
 pur Try.prog (pickS t22 t27_1 (.bool false)) fun t28 => 
 gd t28 true (fun k_9 w_24 => k_9 t14 w_24) (fun t30_1 w_25 => 
 gd t28 true (fun k_10 w_26 => pur Try.prog (Op.unary .not t30_1) fun t31 => k_10 t31 w_26) (fun t31_1 w_27 => 
 pur Try.prog (pickS t28 t31_1 (.bool false)) fun t32 => 
 gd t32 true (fun k_11 w_28 => k_11 (.pointer none) w_28) (fun t34_1 w_29 => 
 gd t32 true (fun k_12 w_30 => hld Try.prog S (Instr.loadAt 27 t2) fun t35 => k_12 t35 w_30) (fun t35_1 w_31 => 
 gd t32 true (fun k_13 w_32 => callS Try.prog 17 #[t34_1, t35_1] (fun t36 w_33 => S w_33 ∧ k_13 t36 w_33) w_32) (fun t36_1 w_34 => 
 gd t32 true (fun k_14 w_35 => pur Try.prog (Builtin.len_ #[43] 3 #[t36_1]) fun t37 => k_14 t37 w_35) (fun t37_1 w_36 => 
 gd t32 true (fun k_15 w_37 => k_15 (.pointer none) w_37) (fun t38_1 w_38 => 
 gd t32 true (fun k_16 w_39 => callS Try.prog 18 #[t38_1] (fun t39 w_40 => S w_40 ∧ k_16 t39 w_40) w_39) (fun t39_1 w_41 => 
 gd t32 true (fun k_17 w_42 => pur Try.prog (Builtin.len_ #[43] 3 #[t39_1]) fun t40 => k_17 t40 w_42) (fun t40_1 w_43 => 
 gd t32 true (fun k_18 w_44 => pur Try.prog (binS .add 3 false false t37_1 t40_1) fun t41 => k_18 t41 w_44) (fun t41_1 w_45 => 
 gd t32 true (fun k_19 w_46 => k_19 (.pointer none) w_46) (fun t42_1 w_47 => 
 gd t32 true (fun k_20 w_48 => k_20 v_v w_48) (fun t43_1 w_49 => 
 gd t32 true (fun k_21 w_50 => callS Try.prog 20 #[t42_1, t43_1] (fun t44 w_51 => S w_51 ∧ k_21 t44 w_51) w_50) (fun t44_1 w_52 => 
 gd t32 true (fun k_22 w_53 => pur Try.prog (Builtin.len_ #[49] 3 #[t44_1]) fun t45 => k_22 t45 w_53) (fun t45_1 w_54 => 
 gd t32 true (fun k_23 w_55 => pur Try.prog (binS .add 3 false false t41_1 t45_1) fun t46 => k_23 t46 w_55) (fun t46_1 w_56 => 
 gd t32 true (fun k_24 w_57 => k_24 (.pointer none) w_57) (fun t47_1 w_58 => 
 gd t32 true (fun k_25 w_59 => hld Try.prog S (Instr.loadAt 27 t2) fun t48 => k_25 t48 w_59) (fun t48_1 w_60 => 
 gd t32 true (fun k_26 w_61 => k_26 v_v w_61) (fun t49_1 w_62 => 
 gd t32 true (fun k_27 w_63 => callS Try.prog 23 #[t47_1, t48_1, t49_1, (.int .i64 1)] (fun t50 w_64 => S w_64 ∧ k_27 t50 w_64) w_63) (fun t50_1 w_65 => 
 gd t32 true (fun k_28 w_66 => pur Try.prog (binS .add 3 false false t46_1 t50_1) fun t51 => k_28 t51 w_66) (fun t51_1 w_67 => 
 gd t32 true (fun k_29 w_68 => k_29 (.pointer none) w_68) (fun t52_1 w_69 => 
 gd t32 true (fun k_30 w_70 => callS Try.prog 27 #[t52_1] (fun t53 w_71 => S w_71 ∧ k_30 t53 w_71) w_70) (fun t53_1 w_72 => 
 gd t32 true (fun k_31 w_73 => pur Try.prog (binS .add 3 false false t51_1 t53_1) fun t54 => k_31 t54 w_73) (fun t54_1 w_74 => 
 gd t32 true (fun k_32 w_75 => pur Try.prog (binS .eql 3 false true t54_1 (.int .i64 0)) fun t55 => k_32 t55 w_75) (fun t55_1 w_76 => 
 pur Try.prog (pickS t32 t55_1 (.bool false)) fun t56 => 
 Q t56 w_76) w_74) w_72) w_69) w_67) w_65) w_62) w_60) w_58) w_56) w_54) w_52) w_49) w_47) w_45) w_43) w_41) w_38) w_36) w_34) w_31) w_29) w_27) w_25) w_23) w_21) w_18) w_16) w_14) w_12) w_9) w_7) w_5) w_3) (World.drew w_2)) w_1) w_1) w
theorem eq7 (v_s v_v : Value) (Q : Value → World → Prop) (w : World) : semF Try.prog 7 [v_s, v_v] Q w = S7 v_s v_v Q w := by kernel_rfl
theorem ref7 {v_s v_v : Value} {Q : Value → World → Prop} {w : World} (h : S7 v_s v_v Q w) : callS Try.prog 7 #[v_s, v_v] Q w :=
  callS_of mix (fun a w => Try.call7 a w) (by kernel_rfl) (by rw [eq7]; exact h)
-- commons/commonslaw7.alive
def S8 (Q : Value → World → Prop) (w : World) : Prop :=
 callS Try.prog 15 #[] (fun t5 w_1 => 
 rd Try.prog (binS .eql 40 false true t5 (.pointer none)) (fun t7 => 
 gd t7 false (fun k w_2 => k t5 w_2) (fun t9_1 w_3 => 
 gd t7 false (fun k_1 w_4 => pur Try.prog (Instr.build 27 #[(1, (.int .i64 9))]) fun t10 => k_1 t10 w_4) (fun t10_1 w_5 => 
 gd t7 false (fun k_2 w_6 => callS Try.prog 16 #[t9_1, t10_1, (.int .i64 1)] (fun t11 w_7 => k_2 t11 w_7) w_6) (fun t11_1 w_8 => 
 gd t7 false (fun k_3 w_9 => pur Try.prog (Op.unary .not t11_1) fun t12 => k_3 t12 w_9) (fun t12_1 w_10 => 
 pur Try.prog (pickS t7 (.bool true) t12_1) fun t13 => 
 gd t13 false (fun k_4 w_11 => k_4 t5 w_11) (fun t15_1 w_12 => 
 gd t13 false (fun k_5 w_13 => pur Try.prog (Instr.build 27 #[(0, (.int .i64 3)), (1, (.int .i64 5))]) fun t16 => k_5 t16 w_13) (fun t16_1 w_14 => 
 gd t13 false (fun k_6 w_15 => callS Try.prog 16 #[t15_1, t16_1, (.int .i64 2)] (fun t17 w_16 => k_6 t17 w_16) w_15) (fun t17_1 w_17 => 
 gd t13 false (fun k_7 w_18 => pur Try.prog (Op.unary .not t17_1) fun t18 => k_7 t18 w_18) (fun t18_1 w_19 => 
 pur Try.prog (pickS t13 (.bool true) t18_1) fun t19 => 
 condS t19
  (Q (.bool false) w_19)
  (callS Try.prog 22 #[t5, (.int .i64 4)] (fun t22 w_20 => 
 pur Try.prog (Instr.extract t22 0) fun t23 => 
 pur Try.prog (Instr.extract t22 1) fun t24 => 
 callS Try.prog 18 #[t5] (fun t26 w_21 => 
 gd t24 true (fun k_8 w_22 => k_8 t23 w_22) (fun t29_1 w_23 => 
 gd t24 true (fun k_9 w_24 => pur Try.prog (binS .eql 3 false true t29_1 (.int .i64 2)) fun t30 => k_9 t30 w_24) (fun t30_1 w_25 => 
 pur Try.prog (pickS t24 t30_1 (.bool false)) fun t31 => 
 gd t31 true (fun k_10 w_26 => k_10 t26 w_26) (fun t33_1 w_27 => 
 gd t31 true (fun k_11 w_28 => pur Try.prog (Builtin.len_ #[43] 3 #[t33_1]) fun t34 => k_11 t34 w_28) (fun t34_1 w_29 => 
 gd t31 true (fun k_12 w_30 => pur Try.prog (binS .eql 3 false true t34_1 (.int .i64 3)) fun t35 => k_12 t35 w_30) (fun t35_1 w_31 => 
 pur Try.prog (pickS t31 t35_1 (.bool false)) fun t36 => 
 gd t36 true (fun k_13 w_32 => k_13 t26 w_32) (fun t38_1 w_33 => 
 gd t36 true (fun k_14 w_34 => pur Try.prog (Instr.indexAt 43 t38_1 (.int .i64 1)) fun t39 => k_14 t39 w_34) (fun t39_1 w_35 => 
 gd t36 true (fun k_15 w_36 => pur Try.prog (Instr.fieldAt 46 t39_1 0) fun t40 => k_15 t40 w_36) (fun t40_1 w_37 => 
 gd t36 true (fun k_16 w_38 => rd Try.prog (Instr.loadAt 27 t40_1) (fun t41 => k_16 t41 w_38) w_38) (fun t41_1 w_39 => 
 gd t36 true (fun k_17 w_40 => pur Try.prog (Instr.build 27 #[(0, (.int .i64 3)), (1, (.int .i64 5))]) fun t42 => k_17 t42 w_40) (fun t42_1 w_41 => 
 gd t36 true (fun k_18 w_42 => rd Try.prog (binS .eql 27 false false t41_1 t42_1) (fun t43 => k_18 t43 w_42) w_42) (fun t43_1 w_43 => 
 pur Try.prog (pickS t36 t43_1 (.bool false)) fun t44 => 
 gd t44 true (fun k_19 w_44 => k_19 t5 w_44) (fun t46_1 w_45 => 
 gd t44 true (fun k_20 w_46 => callS Try.prog 27 #[t46_1] (fun t47 w_47 => k_20 t47 w_47) w_46) (fun t47_1 w_48 => 
 gd t44 true (fun k_21 w_49 => pur Try.prog (binS .eql 3 false true t47_1 (.int .i64 3)) fun t48 => k_21 t48 w_49) (fun t48_1 w_50 => 
 pur Try.prog (pickS t44 t48_1 (.bool false)) fun t49 => 
 Q t49 w_50) w_48) w_45) w_43) w_41) w_39) w_37) w_35) w_33) w_31) w_29) w_27) w_25) w_23) w_21) w_20) w_19)) w_17) w_14) w_12) w_10) w_8) w_5) w_3) w_1) w_1) w
theorem eq8 (Q : Value → World → Prop) (w : World) : semF Try.prog 8 [] Q w = S8 Q w := by kernel_rfl
theorem ref8 {Q : Value → World → Prop} {w : World} (h : S8 Q w) : callS Try.prog 8 #[] Q w :=
  callS_of mix (fun a w => Try.call8 a w) (by kernel_rfl) (by rw [eq8]; exact h)
-- commons/imap.New[string]
def S9 (Q : Value → World → Prop) (w : World) : Prop :=
 pur Try.prog (Instr.build 60 #[]) fun t1 => 
 act Try.prog (Instr.box 60 t1) (fun t2 w_1 => 
 Q t2 w_1) w
theorem eq9 (Q : Value → World → Prop) (w : World) : semF Try.prog 9 [] Q w = S9 Q w := by kernel_rfl
theorem ref9 {Q : Value → World → Prop} {w : World} (h : S9 Q w) : callS Try.prog 9 #[] Q w :=
  callS_of mix (fun a w => Try.call9 a w) (by kernel_rfl) (by rw [eq9]; exact h)
-- commons/commonsref1.Valid
def S10 (v_s : Value) (Q : Value → World → Prop) (w : World) : Prop :=
 act Try.prog (Instr.box 27 v_s) (fun t1 w_1 => 
 pur Try.prog (Instr.fieldAt 27 t1 0) fun t3 => 
 rd Try.prog (Instr.loadAt 3 t3) (fun t4 => 
 pur Try.prog (binS .geq 3 false true t4 (.int .i64 0)) fun t5 => 
 gd t5 true (fun k w_2 => pur Try.prog (Instr.fieldAt 27 t1 0) fun t7 => k t7 w_2) (fun t7_1 w_3 => 
 gd t5 true (fun k_1 w_4 => rd Try.prog (Instr.loadAt 3 t7_1) (fun t8 => k_1 t8 w_4) w_4) (fun t8_1 w_5 => 
 gd t5 true (fun k_2 w_6 => pur Try.prog (Instr.fieldAt 27 t1 1) fun t9 => k_2 t9 w_6) (fun t9_1 w_7 => 
 gd t5 true (fun k_3 w_8 => rd Try.prog (Instr.loadAt 3 t9_1) (fun t10 => k_3 t10 w_8) w_8) (fun t10_1 w_9 => 
 gd t5 true (fun k_4 w_10 => pur Try.prog (binS .lss 3 false false t8_1 t10_1) fun t11 => k_4 t11 w_10) (fun t11_1 w_11 => 
 pur Try.prog (pickS t5 t11_1 (.bool false)) fun t12 => 
 Q t12 w_11) w_9) w_7) w_5) w_3) w_1) w_1) w
theorem eq10 (v_s : Value) (Q : Value → World → Prop) (w : World) : semF Try.prog 10 [v_s] Q w = S10 v_s Q w := by kernel_rfl
theorem ref10 {v_s : Value} {Q : Value → World → Prop} {w : World} (h : S10 v_s Q w) : callS Try.prog 10 #[v_s] Q w :=
  callS_of mix (fun a w => Try.call10 a w) (by kernel_rfl) (by rw [eq10]; exact h)
-- (*commons/imap.Map[string]).Clear
def S11 (v_m v_s : Value) (Q : Value → World → Prop) (w : World) : Prop :=
 act Try.prog (Instr.box 27 v_s) (fun t3 w_1 => 
 rd Try.prog (binS .eql 24 false true v_m (.pointer none)) (fun t6 => 
 gd t6 false (fun k w_2 => rd Try.prog (Instr.loadAt 27 t3) (fun t8 => k t8 w_2) w_2) (fun t8_1 w_3 => 
 gd t6 false (fun k_1 w_4 => callS Try.prog 28 #[t8_1] (fun t9 w_5 => k_1 t9 w_5) w_4) (fun t9_1 w_6 => 
 gd t6 false (fun k_2 w_7 => pur Try.prog (Op.unary .not t9_1) fun t10 => k_2 t10 w_7) (fun t10_1 w_8 => 
 pur Try.prog (pickS t6 (.bool true) t10_1) fun t11 => 
 condS t11
  (Q (.bool false) w_8)
  (rd Try.prog (Instr.loadAt 27 t3) (fun t14 => 
 callS Try.prog 30 #[v_m, t14] (fun t15 w_9 => 
 callS Try.prog 29 #[v_m, t15] (fun _ w_10 => 
 Q (.bool true) w_10) w_9) w_8) w_8)) w_6) w_3) w_1) w_1) w
theorem eq11 (v_m v_s : Value) (Q : Value → World → Prop) (w : World) : semF Try.prog 11 [v_m, v_s] Q w = S11 v_m v_s Q w := by kernel_rfl
theorem ref11 {v_m v_s : Value} {Q : Value → World → Prop} {w : World} (h : S11 v_m v_s Q w) : callS Try.prog 11 #[v_m, v_s] Q w :=
  callS_of mix (fun a w => Try.call11 a w) (by kernel_rfl) (by rw [eq11]; exact h)
-- (*commons/imap.Map[string]).Set
def S12 (v_m v_s v_v : Value) (Q : Value → World → Prop) (w : World) : Prop :=
 act Try.prog (Instr.box 27 v_s) (fun t4 w_1 => 
 rd Try.prog (binS .eql 24 false true v_m (.pointer none)) (fun t8 => 
 gd t8 false (fun k w_2 => rd Try.prog (Instr.loadAt 27 t4) (fun t10 => k t10 w_2) w_2) (fun t10_1 w_3 => 
 gd t8 false (fun k_1 w_4 => callS Try.prog 28 #[t10_1] (fun t11 w_5 => k_1 t11 w_5) w_4) (fun t11_1 w_6 => 
 gd t8 false (fun k_2 w_7 => pur Try.prog (Op.unary .not t11_1) fun t12 => k_2 t12 w_7) (fun t12_1 w_8 => 
 pur Try.prog (pickS t8 (.bool true) t12_1) fun t13 => 
 condS t13
  (Q (.bool false) w_8)
  (jn 0 (fun J => 
  ∃ S : World → Prop, S (World.drew w_8) ∧ 
 hld Try.prog S (Instr.loadAt 27 t4) fun t16 => 
  hld Try.prog S (Instr.loadAt 27 t4) fun t18 => 
  pur Try.prog (Instr.build 38 #[(0, t18), (1, v_v)]) fun t20 => 
  (callS Try.prog 30 #[v_m, t16] (fun t17 w_9 => S w_9 ∧ 
  act Try.prog (Instr.buildSlice 35 1 #[(0, t20)]) (fun t21 w_10 => S w_10 ∧ 
  act Try.prog (Builtin.append_ #[35, 35] 35 #[t17, t21]) (fun t22 w_11 => S w_11 ∧ 
  callS Try.prog 29 #[v_m, t22] (fun _ w_12 => S w_12 ∧ 
  J  w_12) w_11) w_10) w_9) (World.drew w_8)
  ) ∧ (act Try.prog (Instr.buildSlice 35 1 #[(0, t20)]) (fun t21_1 w_13 => S w_13 ∧ 
  callS Try.prog 30 #[v_m, t16] (fun t17_1 w_14 => S w_14 ∧ 
  act Try.prog (Builtin.append_ #[35, 35] 35 #[t17_1, t21_1]) (fun t22_1 w_15 => S w_15 ∧ 
  callS Try.prog 29 #[v_m, t22_1] (fun _ w_16 => S w_16 ∧ 
  J  w_16) w_15) w_14) w_13) (World.drew w_8)))
 (fun  w_17 => ∀ _j : Fr, 
  Q (.bool true) w_17))) w_6) w_3) w_1) w_1) w
theorem eq12 (v_m v_s v_v : Value) (Q : Value → World → Prop) (w : World) : semF Try.prog 12 [v_m, v_s, v_v] Q w = S12 v_m v_s v_v Q w := by kernel_rfl
theorem ref12 {v_m v_s v_v : Value} {Q : Value → World → Prop} {w : World} (h : S12 v_m v_s v_v Q w) : callS Try.prog 12 #[v_m, v_s, v_v] Q w :=
  callS_of mix (fun a w => Try.call12 a w) (by kernel_rfl) (by rw [eq12]; exact h)
-- (*commons/imap.Map[string]).Get
def S13 (v_m v_block : Value) (Q : Value → World → Prop) (w : World) : Prop :=
 rd Try.prog (binS .eql 24 false true v_m (.pointer none)) (fun t10 => 
 condS t10
  (Q (.tuple #[(.string ⟨#[]⟩), (.bool false)]) w)
  (pur Try.prog (nilV v_m) fun t13 => 
 pur Try.prog (Instr.fieldAt 60 t13 0) fun t14 => 
 rd Try.prog (Instr.loadAt 35 t14) (fun t15 => 
 pur Try.prog (Builtin.len_ #[35] 3 #[t15]) fun t16 => 
 lp 1 (fun J => fun t17 w_1 => ∀ _j : Fr, 
  pur Try.prog (binS .lss 3 false false t17 t16) fun t18 => 
  condS t18
   (pur Try.prog (Instr.indexAt 35 t15 t17) fun t19 => 
  rd Try.prog (Instr.loadAt 38 t19) (fun t20 => 
  act Try.prog (Instr.alloc 38 true (.tuple #[])) (fun t8 w_2 => 
  act Try.prog (thenU (Instr.storeAt 38 t8 t20)) (fun _ w_3 => 
  pur Try.prog (Instr.fieldAt 38 t8 0) fun t21 => 
  rd Try.prog (Instr.loadAt 27 t21) (fun t22 => 
  callS Try.prog 21 #[t22, v_block] (fun t24 w_4 => 
  condS t24
   (pur Try.prog (Instr.fieldAt 38 t8 1) fun t25 => 
   rd Try.prog (Instr.loadAt 9 t25) (fun t26 => 
   Q (.tuple #[t26, (.bool true)]) w_4) w_4)
   (pur Try.prog (binS .add 3 false true t17 (.int .i64 1)) fun t27 => 
  J t27 w_4)) w_3) w_3) w_2) w_1) w_1)
   (Q (.tuple #[(.string ⟨#[]⟩), (.bool false)]) w_1)) [(.int .i64 0)] w) w)) w
theorem eq13 (v_m v_block : Value) (Q : Value → World → Prop) (w : World) : semF Try.prog 13 [v_m, v_block] Q w = S13 v_m v_block Q w := by kernel_rfl
theorem ref13 {v_m v_block : Value} {Q : Value → World → Prop} {w : World} (h : S13 v_m v_block Q w) : callS Try.prog 13 #[v_m, v_block] Q w :=
  callS_of mix (fun a w => Try.call13 a w) (by kernel_rfl) (by rw [eq13]; exact h)
-- (*commons/imap.Map[string]).All
def S14 (v_m : Value) (Q : Value → World → Prop) (w : World) : Prop :=
 rd Try.prog (binS .eql 24 false true v_m (.pointer none)) (fun t4 => 
 condS t4
  (Q (.slice none 0 0) w)
  (pur Try.prog (nilV v_m) fun t6 => 
 pur Try.prog (Instr.fieldAt 60 t6 0) fun t7 => 
 rd Try.prog (Instr.loadAt 35 t7) (fun t8 => 
 callS Try.prog 31 #[t8] (fun t9 w_1 => 
 Q t9 w_1) w) w)) w
theorem eq14 (v_m : Value) (Q : Value → World → Prop) (w : World) : semF Try.prog 14 [v_m] Q w = S14 v_m Q w := by kernel_rfl
theorem ref14 {v_m : Value} {Q : Value → World → Prop} {w : World} (h : S14 v_m Q w) : callS Try.prog 14 #[v_m] Q w :=
  callS_of mix (fun a w => Try.call14 a w) (by kernel_rfl) (by rw [eq14]; exact h)
-- commons/imap.New[int]
def S15 (Q : Value → World → Prop) (w : World) : Prop :=
 pur Try.prog (Instr.build 65 #[]) fun t1 => 
 act Try.prog (Instr.box 65 t1) (fun t2 w_1 => 
 Q t2 w_1) w
theorem eq15 (Q : Value → World → Prop) (w : World) : semF Try.prog 15 [] Q w = S15 Q w := by kernel_rfl
theorem ref15 {Q : Value → World → Prop} {w : World} (h : S15 Q w) : callS Try.prog 15 #[] Q w :=
  callS_of mix (fun a w => Try.call15 a w) (by kernel_rfl) (by rw [eq15]; exact h)
-- (*commons/imap.Map[int]).Set
def S16 (v_m v_s v_v : Value) (Q : Value → World → Prop) (w : World) : Prop :=
 act Try.prog (Instr.box 27 v_s) (fun t4 w_1 => 
 rd Try.prog (binS .eql 40 false true v_m (.pointer none)) (fun t8 => 
 gd t8 false (fun k w_2 => rd Try.prog (Instr.loadAt 27 t4) (fun t10 => k t10 w_2) w_2) (fun t10_1 w_3 => 
 gd t8 false (fun k_1 w_4 => callS Try.prog 28 #[t10_1] (fun t11 w_5 => k_1 t11 w_5) w_4) (fun t11_1 w_6 => 
 gd t8 false (fun k_2 w_7 => pur Try.prog (Op.unary .not t11_1) fun t12 => k_2 t12 w_7) (fun t12_1 w_8 => 
 pur Try.prog (pickS t8 (.bool true) t12_1) fun t13 => 
 condS t13
  (Q (.bool false) w_8)
  (jn 0 (fun J => 
  ∃ S : World → Prop, S (World.drew w_8) ∧ 
 hld Try.prog S (Instr.loadAt 27 t4) fun t16 => 
  hld Try.prog S (Instr.loadAt 27 t4) fun t18 => 
  pur Try.prog (Instr.build 46 #[(0, t18), (1, v_v)]) fun t20 => 
  (callS Try.prog 33 #[v_m, t16] (fun t17 w_9 => S w_9 ∧ 
  act Try.prog (Instr.buildSlice 43 1 #[(0, t20)]) (fun t21 w_10 => S w_10 ∧ 
  act Try.prog (Builtin.append_ #[43, 43] 43 #[t17, t21]) (fun t22 w_11 => S w_11 ∧ 
  callS Try.prog 32 #[v_m, t22] (fun _ w_12 => S w_12 ∧ 
  J  w_12) w_11) w_10) w_9) (World.drew w_8)
  ) ∧ (act Try.prog (Instr.buildSlice 43 1 #[(0, t20)]) (fun t21_1 w_13 => S w_13 ∧ 
  callS Try.prog 33 #[v_m, t16] (fun t17_1 w_14 => S w_14 ∧ 
  act Try.prog (Builtin.append_ #[43, 43] 43 #[t17_1, t21_1]) (fun t22_1 w_15 => S w_15 ∧ 
  callS Try.prog 32 #[v_m, t22_1] (fun _ w_16 => S w_16 ∧ 
  J  w_16) w_15) w_14) w_13) (World.drew w_8)))
 (fun  w_17 => ∀ _j : Fr, 
  Q (.bool true) w_17))) w_6) w_3) w_1) w_1) w
theorem eq16 (v_m v_s v_v : Value) (Q : Value → World → Prop) (w : World) : semF Try.prog 16 [v_m, v_s, v_v] Q w = S16 v_m v_s v_v Q w := by kernel_rfl
theorem ref16 {v_m v_s v_v : Value} {Q : Value → World → Prop} {w : World} (h : S16 v_m v_s v_v Q w) : callS Try.prog 16 #[v_m, v_s, v_v] Q w :=
  callS_of mix (fun a w => Try.call16 a w) (by kernel_rfl) (by rw [eq16]; exact h)
-- (*commons/imap.Map[int]).Parts
def S17 (v_m v_s : Value) (Q : Value → World → Prop) (w : World) : Prop :=
 act Try.prog (Instr.box 27 v_s) (fun t3 w_1 => 
 rd Try.prog (binS .eql 40 false true v_m (.pointer none)) (fun t11 => 
 condS t11
  (Q (.slice none 0 0) w_1)
  (pur Try.prog (nilV v_m) fun t13 => 
 pur Try.prog (Instr.fieldAt 65 t13 0) fun t14 => 
 rd Try.prog (Instr.loadAt 43 t14) (fun t15 => 
 pur Try.prog (Builtin.len_ #[43] 3 #[t15]) fun t16 => 
 lp 2 (fun J => fun v_out t17 w_2 => ∀ _j : Fr, 
  pur Try.prog (binS .lss 3 false false t17 t16) fun t18 => 
  condS t18
   (jn 1 (fun J_1 => 
   pur Try.prog (Instr.indexAt 43 t15 t17) fun t19 => 
   rd Try.prog (Instr.loadAt 46 t19) (fun t20 => 
   act Try.prog (Instr.alloc 46 true (.tuple #[])) (fun t7 w_3 => 
   act Try.prog (thenU (Instr.storeAt 46 t7 t20)) (fun _ w_4 => 
   pur Try.prog (Instr.fieldAt 46 t7 0) fun t22 => 
   rd Try.prog (Instr.loadAt 27 t22) (fun t23 => 
   rd Try.prog (Instr.loadAt 27 t3) (fun t24 => 
   callS Try.prog 34 #[t23, t24] (fun t25 w_5 => 
   pur Try.prog (Instr.extract t25 0) fun t26 => 
   pur Try.prog (Instr.extract t25 1) fun t27 => 
   act Try.prog (Instr.alloc 27 true (.tuple #[])) (fun t8 w_6 => 
   act Try.prog (thenU (Instr.storeAt 27 t8 t26)) (fun _ w_7 => 
   condS t27
    (rd Try.prog (Instr.loadAt 27 t8) (fun t30 => 
    pur Try.prog (Instr.fieldAt 46 t7 1) fun t31 => 
    rd Try.prog (Instr.loadAt 3 t31) (fun t32 => 
    pur Try.prog (Instr.build 46 #[(0, t30), (1, t32)]) fun t33 => 
    act Try.prog (Instr.buildSlice 43 1 #[(0, t33)]) (fun t34 w_8 => 
    act Try.prog (Builtin.append_ #[43, 43] 43 #[v_out, t34]) (fun t35 w_9 => 
    J_1 t35 w_9) w_8) w_7) w_7) w_7)
    (J_1 v_out w_7)) w_6) w_5) w_4) w_4) w_4) w_3) w_2) w_2)
  (fun v_out_1 w_10 => ∀ _j : Fr, 
   pur Try.prog (binS .add 3 false true t17 (.int .i64 1)) fun t36 => 
   J v_out_1 t36 w_10))
   (Q v_out w_2)) [(.slice none 0 0), (.int .i64 0)] w_1) w_1)) w_1) w
theorem eq17 (v_m v_s : Value) (Q : Value → World → Prop) (w : World) : semF Try.prog 17 [v_m, v_s] Q w = S17 v_m v_s Q w := by kernel_rfl
theorem ref17 {v_m v_s : Value} {Q : Value → World → Prop} {w : World} (h : S17 v_m v_s Q w) : callS Try.prog 17 #[v_m, v_s] Q w :=
  callS_of mix (fun a w => Try.call17 a w) (by kernel_rfl) (by rw [eq17]; exact h)
-- (*commons/imap.Map[int]).All
def S18 (v_m : Value) (Q : Value → World → Prop) (w : World) : Prop :=
 rd Try.prog (binS .eql 40 false true v_m (.pointer none)) (fun t4 => 
 condS t4
  (Q (.slice none 0 0) w)
  (pur Try.prog (nilV v_m) fun t6 => 
 pur Try.prog (Instr.fieldAt 65 t6 0) fun t7 => 
 rd Try.prog (Instr.loadAt 43 t7) (fun t8 => 
 callS Try.prog 35 #[t8] (fun t9 w_1 => 
 Q t9 w_1) w) w)) w
theorem eq18 (v_m : Value) (Q : Value → World → Prop) (w : World) : semF Try.prog 18 [v_m] Q w = S18 v_m Q w := by kernel_rfl
theorem ref18 {v_m : Value} {Q : Value → World → Prop} {w : World} (h : S18 v_m Q w) : callS Try.prog 18 #[v_m] Q w :=
  callS_of mix (fun a w => Try.call18 a w) (by kernel_rfl) (by rw [eq18]; exact h)
-- (*commons/imap.Map[int]).Clear
def S19 (v_m v_s : Value) (Q : Value → World → Prop) (w : World) : Prop :=
 act Try.prog (Instr.box 27 v_s) (fun t3 w_1 => 
 rd Try.prog (binS .eql 40 false true v_m (.pointer none)) (fun t6 => 
 gd t6 false (fun k w_2 => rd Try.prog (Instr.loadAt 27 t3) (fun t8 => k t8 w_2) w_2) (fun t8_1 w_3 => 
 gd t6 false (fun k_1 w_4 => callS Try.prog 28 #[t8_1] (fun t9 w_5 => k_1 t9 w_5) w_4) (fun t9_1 w_6 => 
 gd t6 false (fun k_2 w_7 => pur Try.prog (Op.unary .not t9_1) fun t10 => k_2 t10 w_7) (fun t10_1 w_8 => 
 pur Try.prog (pickS t6 (.bool true) t10_1) fun t11 => 
 condS t11
  (Q (.bool false) w_8)
  (rd Try.prog (Instr.loadAt 27 t3) (fun t14 => 
 callS Try.prog 33 #[v_m, t14] (fun t15 w_9 => 
 callS Try.prog 32 #[v_m, t15] (fun _ w_10 => 
 Q (.bool true) w_10) w_9) w_8) w_8)) w_6) w_3) w_1) w_1) w
theorem eq19 (v_m v_s : Value) (Q : Value → World → Prop) (w : World) : semF Try.prog 19 [v_m, v_s] Q w = S19 v_m v_s Q w := by kernel_rfl
theorem ref19 {v_m v_s : Value} {Q : Value → World → Prop} {w : World} (h : S19 v_m v_s Q w) : callS Try.prog 19 #[v_m, v_s] Q w :=
  callS_of mix (fun a w => Try.call19 a w) (by kernel_rfl) (by rw [eq19]; exact h)
-- (*commons/imap.Map[int]).With
def S20 (v_m v_v : Value) (Q : Value → World → Prop) (w : World) : Prop :=
 callS Try.prog 18 #[v_m] (fun t9 w_1 => 
 pur Try.prog (Builtin.len_ #[43] 3 #[t9]) fun t10 => 
 lp 2 (fun J => fun v_out t11 w_2 => ∀ _j : Fr, 
  pur Try.prog (binS .lss 3 false false t11 t10) fun t12 => 
  condS t12
   (jn 1 (fun J_1 => 
   pur Try.prog (Instr.indexAt 43 t9 t11) fun t13 => 
   rd Try.prog (Instr.loadAt 46 t13) (fun t14 => 
   act Try.prog (Instr.alloc 46 true (.tuple #[])) (fun t7 w_3 => 
   act Try.prog (thenU (Instr.storeAt 46 t7 t14)) (fun _ w_4 => 
   pur Try.prog (Instr.fieldAt 46 t7 1) fun t15 => 
   rd Try.prog (Instr.loadAt 3 t15) (fun t16 => 
   pur Try.prog (binS .eql 3 false false t16 v_v) fun t18 => 
   condS t18
    (pur Try.prog (Instr.fieldAt 46 t7 0) fun t20 => 
    rd Try.prog (Instr.loadAt 27 t20) (fun t21 => 
    act Try.prog (Instr.buildSlice 49 1 #[(0, t21)]) (fun t22 w_5 => 
    act Try.prog (Builtin.append_ #[49, 49] 49 #[v_out, t22]) (fun t23 w_6 => 
    J_1 t23 w_6) w_5) w_4) w_4)
    (J_1 v_out w_4)) w_4) w_3) w_2) w_2)
  (fun v_out_1 w_7 => ∀ _j : Fr, 
   pur Try.prog (binS .add 3 false true t11 (.int .i64 1)) fun t24 => 
   J v_out_1 t24 w_7))
   (Q v_out w_2)) [(.slice none 0 0), (.int .i64 0)] w_1) w
theorem eq20 (v_m v_v : Value) (Q : Value → World → Prop) (w : World) : semF Try.prog 20 [v_m, v_v] Q w = S20 v_m v_v Q w := by kernel_rfl
theorem ref20 {v_m v_v : Value} {Q : Value → World → Prop} {w : World} (h : S20 v_m v_v Q w) : callS Try.prog 20 #[v_m, v_v] Q w :=
  callS_of mix (fun a w => Try.call20 a w) (by kernel_rfl) (by rw [eq20]; exact h)
-- commons/span.Has
def S21 (v_s v_block : Value) (Q : Value → World → Prop) (w : World) : Prop :=
 act Try.prog (Instr.box 27 v_s) (fun t2 w_1 => 
 rd Try.prog (Instr.loadAt 27 t2) (fun t5 => 
 callS Try.prog 28 #[t5] (fun t6 w_2 => 
 gd t6 true (fun k w_3 => pur Try.prog (Instr.fieldAt 27 t2 0) fun t8 => k t8 w_3) (fun t8_1 w_4 => 
 gd t6 true (fun k_1 w_5 => rd Try.prog (Instr.loadAt 3 t8_1) (fun t9 => k_1 t9 w_5) w_5) (fun t9_1 w_6 => 
 gd t6 true (fun k_2 w_7 => k_2 v_block w_7) (fun t10_1 w_8 => 
 gd t6 true (fun k_3 w_9 => pur Try.prog (binS .leq 3 false false t9_1 t10_1) fun t11 => k_3 t11 w_9) (fun t11_1 w_10 => 
 pur Try.prog (pickS t6 t11_1 (.bool false)) fun t12 => 
 gd t12 true (fun k_4 w_11 => k_4 v_block w_11) (fun t14_1 w_12 => 
 gd t12 true (fun k_5 w_13 => pur Try.prog (Instr.fieldAt 27 t2 1) fun t15 => k_5 t15 w_13) (fun t15_1 w_14 => 
 gd t12 true (fun k_6 w_15 => rd Try.prog (Instr.loadAt 3 t15_1) (fun t16 => k_6 t16 w_15) w_15) (fun t16_1 w_16 => 
 gd t12 true (fun k_7 w_17 => pur Try.prog (binS .lss 3 false false t14_1 t16_1) fun t17 => k_7 t17 w_17) (fun t17_1 w_18 => 
 pur Try.prog (pickS t12 t17_1 (.bool false)) fun t18 => 
 Q t18 w_18) w_16) w_14) w_12) w_10) w_8) w_6) w_4) w_2) w_1) w_1) w
theorem eq21 (v_s v_block : Value) (Q : Value → World → Prop) (w : World) : semF Try.prog 21 [v_s, v_block] Q w = S21 v_s v_block Q w := by kernel_rfl
theorem ref21 {v_s v_block : Value} {Q : Value → World → Prop} {w : World} (h : S21 v_s v_block Q w) : callS Try.prog 21 #[v_s, v_block] Q w :=
  callS_of mix (fun a w => Try.call21 a w) (by kernel_rfl) (by rw [eq21]; exact h)
-- (*commons/imap.Map[int]).Get
def S22 (v_m v_block : Value) (Q : Value → World → Prop) (w : World) : Prop :=
 rd Try.prog (binS .eql 40 false true v_m (.pointer none)) (fun t10 => 
 condS t10
  (Q (.tuple #[(.int .i64 0), (.bool false)]) w)
  (pur Try.prog (nilV v_m) fun t13 => 
 pur Try.prog (Instr.fieldAt 65 t13 0) fun t14 => 
 rd Try.prog (Instr.loadAt 43 t14) (fun t15 => 
 pur Try.prog (Builtin.len_ #[43] 3 #[t15]) fun t16 => 
 lp 1 (fun J => fun t17 w_1 => ∀ _j : Fr, 
  pur Try.prog (binS .lss 3 false false t17 t16) fun t18 => 
  condS t18
   (pur Try.prog (Instr.indexAt 43 t15 t17) fun t19 => 
  rd Try.prog (Instr.loadAt 46 t19) (fun t20 => 
  act Try.prog (Instr.alloc 46 true (.tuple #[])) (fun t8 w_2 => 
  act Try.prog (thenU (Instr.storeAt 46 t8 t20)) (fun _ w_3 => 
  pur Try.prog (Instr.fieldAt 46 t8 0) fun t21 => 
  rd Try.prog (Instr.loadAt 27 t21) (fun t22 => 
  callS Try.prog 21 #[t22, v_block] (fun t24 w_4 => 
  condS t24
   (pur Try.prog (Instr.fieldAt 46 t8 1) fun t25 => 
   rd Try.prog (Instr.loadAt 3 t25) (fun t26 => 
   Q (.tuple #[t26, (.bool true)]) w_4) w_4)
   (pur Try.prog (binS .add 3 false true t17 (.int .i64 1)) fun t27 => 
  J t27 w_4)) w_3) w_3) w_2) w_1) w_1)
   (Q (.tuple #[(.int .i64 0), (.bool false)]) w_1)) [(.int .i64 0)] w) w)) w
theorem eq22 (v_m v_block : Value) (Q : Value → World → Prop) (w : World) : semF Try.prog 22 [v_m, v_block] Q w = S22 v_m v_block Q w := by kernel_rfl
theorem ref22 {v_m v_block : Value} {Q : Value → World → Prop} {w : World} (h : S22 v_m v_block Q w) : callS Try.prog 22 #[v_m, v_block] Q w :=
  callS_of mix (fun a w => Try.call22 a w) (by kernel_rfl) (by rw [eq22]; exact h)
-- (*commons/imap.Map[int]).Swap
def S23 (v_m v_s v_from v_to : Value) (Q : Value → World → Prop) (w : World) : Prop :=
 act Try.prog (Instr.box 27 v_s) (fun t5 w_1 => 
 rd Try.prog (Instr.loadAt 27 t5) (fun t13 => 
 callS Try.prog 17 #[v_m, t13] (fun t14 w_2 => 
 pur Try.prog (Builtin.len_ #[43] 3 #[t14]) fun t15 => 
 lp 2 (fun J => fun v_n t16 w_3 => ∀ _j : Fr, 
  pur Try.prog (binS .lss 3 false false t16 t15) fun t17 => 
  condS t17
   (jn 1 (fun J_1 => 
   pur Try.prog (Instr.indexAt 43 t14 t16) fun t18 => 
   rd Try.prog (Instr.loadAt 46 t18) (fun t19 => 
   act Try.prog (Instr.alloc 46 true (.tuple #[])) (fun t11 w_4 => 
   act Try.prog (thenU (Instr.storeAt 46 t11 t19)) (fun _ w_5 => 
   pur Try.prog (Instr.fieldAt 46 t11 1) fun t20 => 
   rd Try.prog (Instr.loadAt 3 t20) (fun t21 => 
   pur Try.prog (binS .eql 3 false false t21 v_from) fun t23 => 
   condS t23
    (pur Try.prog (Instr.fieldAt 46 t11 0) fun t25 => 
    rd Try.prog (Instr.loadAt 27 t25) (fun t26 => 
    callS Try.prog 25 #[t26] (fun t27 w_6 => 
    pur Try.prog (binS .add 3 false false v_n t27) fun t28 => 
    pur Try.prog (Instr.fieldAt 46 t11 0) fun t30 => 
    rd Try.prog (Instr.loadAt 27 t30) (fun t31 => 
    callS Try.prog 16 #[v_m, t31, v_to] (fun _ w_7 => 
    J_1 t28 w_7) w_6) w_6) w_5) w_5)
    (J_1 v_n w_5)) w_5) w_4) w_3) w_3)
  (fun v_n_1 w_8 => ∀ _j : Fr, 
   pur Try.prog (binS .add 3 false true t16 (.int .i64 1)) fun t34 => 
   J v_n_1 t34 w_8))
   (Q v_n w_3)) [(.int .i64 0), (.int .i64 0)] w_2) w_1) w_1) w
theorem eq23 (v_m v_s v_from v_to : Value) (Q : Value → World → Prop) (w : World) : semF Try.prog 23 [v_m, v_s, v_from, v_to] Q w = S23 v_m v_s v_from v_to Q w := by kernel_rfl
theorem ref23 {v_m v_s v_from v_to : Value} {Q : Value → World → Prop} {w : World} (h : S23 v_m v_s v_from v_to Q w) : callS Try.prog 23 #[v_m, v_s, v_from, v_to] Q w :=
  callS_of mix (fun a w => Try.call23 a w) (by kernel_rfl) (by rw [eq23]; exact h)
-- commons/span.Covers
def S24 (v_a v_b : Value) (Q : Value → World → Prop) (w : World) : Prop :=
 callS Try.prog 36 #[v_b, v_a] (fun t7 w_1 => 
 pur Try.prog (Builtin.len_ #[49] 3 #[t7]) fun t8 => 
 pur Try.prog (binS .eql 3 false true t8 (.int .i64 0)) fun t9 => 
 Q t9 w_1) w
theorem eq24 (v_a v_b : Value) (Q : Value → World → Prop) (w : World) : semF Try.prog 24 [v_a, v_b] Q w = S24 v_a v_b Q w := by kernel_rfl
theorem ref24 {v_a v_b : Value} {Q : Value → World → Prop} {w : World} (h : S24 v_a v_b Q w) : callS Try.prog 24 #[v_a, v_b] Q w :=
  callS_of mix (fun a w => Try.call24 a w) (by kernel_rfl) (by rw [eq24]; exact h)
-- commons/span.Len
def S25 (v_s : Value) (Q : Value → World → Prop) (w : World) : Prop :=
 act Try.prog (Instr.box 27 v_s) (fun t1 w_1 => 
 rd Try.prog (Instr.loadAt 27 t1) (fun t3 => 
 callS Try.prog 28 #[t3] (fun t4 w_2 => 
 pur Try.prog (Op.unary .not t4) fun t5 => 
 condS t5
  (Q (.int .i64 0) w_2)
  (pur Try.prog (Instr.fieldAt 27 t1 1) fun t6 => 
 rd Try.prog (Instr.loadAt 3 t6) (fun t7 => 
 pur Try.prog (Instr.fieldAt 27 t1 0) fun t8 => 
 rd Try.prog (Instr.loadAt 3 t8) (fun t9 => 
 pur Try.prog (binS .sub 3 false false t7 t9) fun t10 => 
 Q t10 w_2) w_2) w_2)) w_1) w_1) w
theorem eq25 (v_s : Value) (Q : Value → World → Prop) (w : World) : semF Try.prog 25 [v_s] Q w = S25 v_s Q w := by kernel_rfl
theorem ref25 {v_s : Value} {Q : Value → World → Prop} {w : World} (h : S25 v_s Q w) : callS Try.prog 25 #[v_s] Q w :=
  callS_of mix (fun a w => Try.call25 a w) (by kernel_rfl) (by rw [eq25]; exact h)
-- commons/commonsbook.SameSpans
def S26 (v_a v_b : Value) (Q : Value → World → Prop) (w : World) : Prop :=
 pur Try.prog (Builtin.len_ #[49] 3 #[v_a]) fun t7 => 
 pur Try.prog (Builtin.len_ #[49] 3 #[v_b]) fun t9 => 
 pur Try.prog (binS .neq 3 false false t7 t9) fun t10 => 
 condS t10
  (Q (.bool false) w)
  (lp 1 (fun J => fun v_i w_1 => ∀ _j : Fr, 
  pur Try.prog (Builtin.len_ #[49] 3 #[v_a]) fun t13 => 
  pur Try.prog (binS .lss 3 false false v_i t13) fun t14 => 
  condS t14
   (pur Try.prog (Instr.indexAt 49 v_a v_i) fun t19 => 
  rd Try.prog (Instr.loadAt 27 t19) (fun t20 => 
  pur Try.prog (Instr.indexAt 49 v_b v_i) fun t23 => 
  rd Try.prog (Instr.loadAt 27 t23) (fun t24 => 
  rd Try.prog (binS .eql 27 false false t20 t24) (fun t25 => 
  pur Try.prog (Op.unary .not t25) fun t26 => 
  condS t26
   (Q (.bool false) (World.drew w_1))
   (pur Try.prog (binS .add 3 false true v_i (.int .i64 1)) fun t16 => 
  J t16 (World.drew w_1))) (World.drew w_1)) (World.drew w_1)) (World.drew w_1))
   (Q (.bool true) w_1)) [(.int .i64 0)] w)
theorem eq26 (v_a v_b : Value) (Q : Value → World → Prop) (w : World) : semF Try.prog 26 [v_a, v_b] Q w = S26 v_a v_b Q w := by kernel_rfl
theorem ref26 {v_a v_b : Value} {Q : Value → World → Prop} {w : World} (h : S26 v_a v_b Q w) : callS Try.prog 26 #[v_a, v_b] Q w :=
  callS_of mix (fun a w => Try.call26 a w) (by kernel_rfl) (by rw [eq26]; exact h)
-- (*commons/imap.Map[int]).Len
def S27 (v_m : Value) (Q : Value → World → Prop) (w : World) : Prop :=
 rd Try.prog (binS .eql 40 false true v_m (.pointer none)) (fun t4 => 
 condS t4
  (Q (.int .i64 0) w)
  (pur Try.prog (nilV v_m) fun t6 => 
 pur Try.prog (Instr.fieldAt 65 t6 0) fun t7 => 
 rd Try.prog (Instr.loadAt 43 t7) (fun t8 => 
 pur Try.prog (Builtin.len_ #[43] 3 #[t8]) fun t9 => 
 Q t9 w) w)) w
theorem eq27 (v_m : Value) (Q : Value → World → Prop) (w : World) : semF Try.prog 27 [v_m] Q w = S27 v_m Q w := by kernel_rfl
theorem ref27 {v_m : Value} {Q : Value → World → Prop} {w : World} (h : S27 v_m Q w) : callS Try.prog 27 #[v_m] Q w :=
  callS_of mix (fun a w => Try.call27 a w) (by kernel_rfl) (by rw [eq27]; exact h)
-- commons/span.Valid
def S28 (v_s : Value) (Q : Value → World → Prop) (w : World) : Prop :=
 act Try.prog (Instr.box 27 v_s) (fun t1 w_1 => 
 pur Try.prog (Instr.fieldAt 27 t1 0) fun t3 => 
 rd Try.prog (Instr.loadAt 3 t3) (fun t4 => 
 pur Try.prog (binS .geq 3 false true t4 (.int .i64 0)) fun t5 => 
 gd t5 true (fun k w_2 => pur Try.prog (Instr.fieldAt 27 t1 0) fun t7 => k t7 w_2) (fun t7_1 w_3 => 
 gd t5 true (fun k_1 w_4 => rd Try.prog (Instr.loadAt 3 t7_1) (fun t8 => k_1 t8 w_4) w_4) (fun t8_1 w_5 => 
 gd t5 true (fun k_2 w_6 => pur Try.prog (Instr.fieldAt 27 t1 1) fun t9 => k_2 t9 w_6) (fun t9_1 w_7 => 
 gd t5 true (fun k_3 w_8 => rd Try.prog (Instr.loadAt 3 t9_1) (fun t10 => k_3 t10 w_8) w_8) (fun t10_1 w_9 => 
 gd t5 true (fun k_4 w_10 => pur Try.prog (binS .lss 3 false false t8_1 t10_1) fun t11 => k_4 t11 w_10) (fun t11_1 w_11 => 
 pur Try.prog (pickS t5 t11_1 (.bool false)) fun t12 => 
 Q t12 w_11) w_9) w_7) w_5) w_3) w_1) w_1) w
theorem eq28 (v_s : Value) (Q : Value → World → Prop) (w : World) : semF Try.prog 28 [v_s] Q w = S28 v_s Q w := by kernel_rfl
theorem ref28 {v_s : Value} {Q : Value → World → Prop} {w : World} (h : S28 v_s Q w) : callS Try.prog 28 #[v_s] Q w :=
  callS_of mix (fun a w => Try.call28 a w) (by kernel_rfl) (by rw [eq28]; exact h)
-- (*commons/imap.Map[string]).lay
def S29 (v_m v_l : Value) (Q : Value → World → Prop) (w : World) : Prop :=
 callS Try.prog 37 #[v_l, (.func (.func 38) #[] #[])] (fun _ w_1 => 
 pur Try.prog (nilV v_m) fun t10 => 
 pur Try.prog (Instr.fieldAt 60 t10 0) fun t11 => 
 act Try.prog (thenU (Instr.storeAt 35 t11 (.slice none 0 0))) (fun _ w_2 => 
 pur Try.prog (Builtin.len_ #[35] 3 #[v_l]) fun t13 => 
 lp 1 (fun J => fun t14 w_3 => ∀ _j : Fr, 
  pur Try.prog (binS .lss 3 false false t14 t13) fun t15 => 
  condS t15
   (jn 0 (fun J_1 => 
   pur Try.prog (Instr.indexAt 35 v_l t14) fun t16 => 
   rd Try.prog (Instr.loadAt 38 t16) (fun t17 => 
   act Try.prog (Instr.alloc 38 true (.tuple #[])) (fun t5 w_4 => 
   act Try.prog (thenU (Instr.storeAt 38 t5 t17)) (fun _ w_5 => 
   pur Try.prog (nilV v_m) fun t19 => 
   pur Try.prog (Instr.fieldAt 60 t19 0) fun t20 => 
   rd Try.prog (Instr.loadAt 35 t20) (fun t21 => 
   pur Try.prog (Builtin.len_ #[35] 3 #[t21]) fun t22 => 
   pur Try.prog (binS .sub 3 false true t22 (.int .i64 1)) fun t23 => 
   pur Try.prog (binS .geq 3 false true t23 (.int .i64 0)) fun t25 => 
   gd t25 true (fun k w_6 => k v_m w_6) (fun t27_1 w_7 => 
   gd t25 true (fun k_1 w_8 => pur Try.prog (nilV t27_1) fun t28 => k_1 t28 w_8) (fun t28_1 w_9 => 
   gd t25 true (fun k_2 w_10 => pur Try.prog (Instr.fieldAt 60 t28_1 0) fun t29 => k_2 t29 w_10) (fun t29_1 w_11 => 
   gd t25 true (fun k_3 w_12 => rd Try.prog (Instr.loadAt 35 t29_1) (fun t30 => k_3 t30 w_12) w_12) (fun t30_1 w_13 => 
   gd t25 true (fun k_4 w_14 => k_4 t23 w_14) (fun t31_1 w_15 => 
   gd t25 true (fun k_5 w_16 => pur Try.prog (Instr.indexAt 35 t30_1 t31_1) fun t32 => k_5 t32 w_16) (fun t32_1 w_17 => 
   gd t25 true (fun k_6 w_18 => pur Try.prog (Instr.fieldAt 38 t32_1 0) fun t33 => k_6 t33 w_18) (fun t33_1 w_19 => 
   gd t25 true (fun k_7 w_20 => pur Try.prog (Instr.fieldAt 27 t33_1 1) fun t34 => k_7 t34 w_20) (fun t34_1 w_21 => 
   gd t25 true (fun k_8 w_22 => rd Try.prog (Instr.loadAt 3 t34_1) (fun t35 => k_8 t35 w_22) w_22) (fun t35_1 w_23 => 
   gd t25 true (fun k_9 w_24 => pur Try.prog (Instr.fieldAt 38 t5 0) fun t36 => k_9 t36 w_24) (fun t36_1 w_25 => 
   gd t25 true (fun k_10 w_26 => pur Try.prog (Instr.fieldAt 27 t36_1 0) fun t37 => k_10 t37 w_26) (fun t37_1 w_27 => 
   gd t25 true (fun k_11 w_28 => rd Try.prog (Instr.loadAt 3 t37_1) (fun t38 => k_11 t38 w_28) w_28) (fun t38_1 w_29 => 
   gd t25 true (fun k_12 w_30 => pur Try.prog (binS .eql 3 false false t35_1 t38_1) fun t39 => k_12 t39 w_30) (fun t39_1 w_31 => 
   pur Try.prog (pickS t25 t39_1 (.bool false)) fun t40 => 
   gd t40 true (fun k_13 w_32 => k_13 v_m w_32) (fun t42_1 w_33 => 
   gd t40 true (fun k_14 w_34 => pur Try.prog (nilV t42_1) fun t43 => k_14 t43 w_34) (fun t43_1 w_35 => 
   gd t40 true (fun k_15 w_36 => pur Try.prog (Instr.fieldAt 60 t43_1 0) fun t44 => k_15 t44 w_36) (fun t44_1 w_37 => 
   gd t40 true (fun k_16 w_38 => rd Try.prog (Instr.loadAt 35 t44_1) (fun t45 => k_16 t45 w_38) w_38) (fun t45_1 w_39 => 
   gd t40 true (fun k_17 w_40 => k_17 t23 w_40) (fun t46_1 w_41 => 
   gd t40 true (fun k_18 w_42 => pur Try.prog (Instr.indexAt 35 t45_1 t46_1) fun t47 => k_18 t47 w_42) (fun t47_1 w_43 => 
   gd t40 true (fun k_19 w_44 => pur Try.prog (Instr.fieldAt 38 t47_1 1) fun t48 => k_19 t48 w_44) (fun t48_1 w_45 => 
   gd t40 true (fun k_20 w_46 => rd Try.prog (Instr.loadAt 9 t48_1) (fun t49 => k_20 t49 w_46) w_46) (fun t49_1 w_47 => 
   gd t40 true (fun k_21 w_48 => pur Try.prog (Instr.fieldAt 38 t5 1) fun t50 => k_21 t50 w_48) (fun t50_1 w_49 => 
   gd t40 true (fun k_22 w_50 => rd Try.prog (Instr.loadAt 9 t50_1) (fun t51 => k_22 t51 w_50) w_50) (fun t51_1 w_51 => 
   gd t40 true (fun k_23 w_52 => pur Try.prog (binS .eql 9 false false t49_1 t51_1) fun t52 => k_23 t52 w_52) (fun t52_1 w_53 => 
   pur Try.prog (pickS t40 t52_1 (.bool false)) fun t53 => 
   condS t53
    (pur Try.prog (nilV v_m) fun t55 => 
    pur Try.prog (Instr.fieldAt 60 t55 0) fun t56 => 
    rd Try.prog (Instr.loadAt 35 t56) (fun t57 => 
    pur Try.prog (Instr.fieldAt 38 t5 0) fun t59 => 
    pur Try.prog (Instr.fieldAt 27 t59 1) fun t60 => 
    rd Try.prog (Instr.loadAt 3 t60) (fun t61 => 
    pur Try.prog (Instr.indexAt 35 t57 t23) fun t62 => 
    pur Try.prog (Instr.fieldAt 38 t62 0) fun t63 => 
    pur Try.prog (Instr.fieldAt 27 t63 1) fun t64 => 
    act Try.prog (thenU (Instr.storeAt 3 t64 t61)) (fun _ w_54 => 
    J_1  w_54) (World.drew w_53)) (World.drew w_53)) (World.drew w_53))
    (jn 0 (fun J_2 => 
     pur Try.prog (nilV v_m) fun t67 => 
     pur Try.prog (Instr.fieldAt 60 t67 0) fun t68 => 
     rd Try.prog (Instr.loadAt 38 t5) (fun t70 => 
     (rd Try.prog (Instr.loadAt 35 t68) (fun t69 => 
     act Try.prog (Instr.buildSlice 35 1 #[(0, t70)]) (fun t71 w_55 => 
     act Try.prog (Builtin.append_ #[35, 35] 35 #[t69, t71]) (fun t72 w_56 => 
     pur Try.prog (nilV v_m) fun t73 => 
     pur Try.prog (Instr.fieldAt 60 t73 0) fun t74 => 
     act Try.prog (thenU (Instr.storeAt 35 t74 t72)) (fun _ w_57 => 
     J_2  w_57) w_56) w_55) (World.drew w_53)) (World.drew w_53)
     ) ∧ (act Try.prog (Instr.buildSlice 35 1 #[(0, t70)]) (fun t71_1 w_58 => 
     rd Try.prog (Instr.loadAt 35 t68) (fun t69_1 => 
     act Try.prog (Builtin.append_ #[35, 35] 35 #[t69_1, t71_1]) (fun t72_1 w_59 => 
     pur Try.prog (nilV v_m) fun t73_1 => 
     pur Try.prog (Instr.fieldAt 60 t73_1 0) fun t74_1 => 
     act Try.prog (thenU (Instr.storeAt 35 t74_1 t72_1)) (fun _ w_60 => 
     J_2  w_60) w_59) w_58) w_58) (World.drew w_53))) (World.drew w_53))
    (fun  w_61 => ∀ _j : Fr, 
     J_1  w_61))) w_51) w_49) w_47) w_45) w_43) w_41) w_39) w_37) w_35) w_33) w_31) w_29) w_27) w_25) w_23) w_21) w_19) w_17) w_15) w_13) w_11) w_9) w_7) (World.drew w_5)) w_5) w_4) w_3) w_3)
  (fun  w_62 => ∀ _j : Fr, 
   pur Try.prog (binS .add 3 false true t14 (.int .i64 1)) fun t75 => 
   J t75 w_62))
   (Q (.tuple #[]) w_3)) [(.int .i64 0)] w_2) w_1) w
theorem eq29 (v_m v_l : Value) (Q : Value → World → Prop) (w : World) : semF Try.prog 29 [v_m, v_l] Q w = S29 v_m v_l Q w := by kernel_rfl
theorem ref29 {v_m v_l : Value} {Q : Value → World → Prop} {w : World} (h : S29 v_m v_l Q w) : callS Try.prog 29 #[v_m, v_l] Q w :=
  callS_of mix (fun a w => Try.call29 a w) (by kernel_rfl) (by rw [eq29]; exact h)
-- (*commons/imap.Map[string]).without
def S30 (v_m v_s : Value) (Q : Value → World → Prop) (w : World) : Prop :=
 act Try.prog (Instr.box 27 v_s) (fun t3 w_1 => 
 pur Try.prog (nilV v_m) fun t11 => 
 pur Try.prog (Instr.fieldAt 60 t11 0) fun t12 => 
 rd Try.prog (Instr.loadAt 35 t12) (fun t13 => 
 pur Try.prog (Builtin.len_ #[35] 3 #[t13]) fun t14 => 
 lp 2 (fun J => fun v_out t15 w_2 => ∀ _j : Fr, 
  pur Try.prog (binS .lss 3 false false t15 t14) fun t16 => 
  condS t16
   (pur Try.prog (Instr.indexAt 35 t13 t15) fun t17 => 
  rd Try.prog (Instr.loadAt 38 t17) (fun t18 => 
  act Try.prog (Instr.alloc 38 true (.tuple #[])) (fun t7 w_3 => 
  act Try.prog (thenU (Instr.storeAt 38 t7 t18)) (fun _ w_4 => 
  pur Try.prog (Instr.fieldAt 38 t7 0) fun t19 => 
  rd Try.prog (Instr.loadAt 27 t19) (fun t20 => 
  act Try.prog (Instr.buildSlice 49 1 #[(0, t20)]) (fun t21 w_5 => 
  rd Try.prog (Instr.loadAt 27 t3) (fun t22 => 
  act Try.prog (Instr.buildSlice 49 1 #[(0, t22)]) (fun t23 w_6 => 
  callS Try.prog 36 #[t21, t23] (fun t24 w_7 => 
  pur Try.prog (Builtin.len_ #[49] 3 #[t24]) fun t25 => 
  lp 2 (fun J_1 => fun v_out_1 t26 w_8 => ∀ _j : Fr, 
   pur Try.prog (binS .lss 3 false false t26 t25) fun t27 => 
   condS t27
    (pur Try.prog (Instr.indexAt 49 t24 t26) fun t28 => 
   rd Try.prog (Instr.loadAt 27 t28) (fun t29 => 
   act Try.prog (Instr.alloc 27 true (.tuple #[])) (fun t9 w_9 => 
   act Try.prog (thenU (Instr.storeAt 27 t9 t29)) (fun _ w_10 => 
   rd Try.prog (Instr.loadAt 27 t9) (fun t31 => 
   pur Try.prog (Instr.fieldAt 38 t7 1) fun t32 => 
   rd Try.prog (Instr.loadAt 9 t32) (fun t33 => 
   pur Try.prog (Instr.build 38 #[(0, t31), (1, t33)]) fun t34 => 
   act Try.prog (Instr.buildSlice 35 1 #[(0, t34)]) (fun t35 w_11 => 
   act Try.prog (Builtin.append_ #[35, 35] 35 #[v_out_1, t35]) (fun t36 w_12 => 
   pur Try.prog (binS .add 3 false true t26 (.int .i64 1)) fun t37 => 
   J_1 t36 t37 w_12) w_11) w_10) w_10) w_10) w_9) w_8) w_8)
    (pur Try.prog (binS .add 3 false true t15 (.int .i64 1)) fun t38 => 
  J v_out_1 t38 w_8)) [v_out, (.int .i64 0)] w_7) w_6) w_5) w_5) w_4) w_4) w_3) w_2) w_2)
   (Q v_out w_2)) [(.slice none 0 0), (.int .i64 0)] w_1) w_1) w
theorem eq30 (v_m v_s : Value) (Q : Value → World → Prop) (w : World) : semF Try.prog 30 [v_m, v_s] Q w = S30 v_m v_s Q w := by kernel_rfl
theorem ref30 {v_m v_s : Value} {Q : Value → World → Prop} {w : World} (h : S30 v_m v_s Q w) : callS Try.prog 30 #[v_m, v_s] Q w :=
  callS_of mix (fun a w => Try.call30 a w) (by kernel_rfl) (by rw [eq30]; exact h)
-- slices.Clone[[]commons/imap.Part[string],commons/imap.Part[string]]
def S31 (v_s : Value) (Q : Value → World → Prop) (w : World) : Prop :=
 rd Try.prog (binS .eql 35 false true v_s (.slice none 0 0)) (fun t4 => 
 condS t4
  (Q (.slice none 0 0) w)
  (act Try.prog (Instr.buildSlice 35 0 #[]) (fun t5 w_1 => 
 act Try.prog (Builtin.append_ #[35, 35] 35 #[t5, v_s]) (fun t7 w_2 => 
 Q t7 w_2) w_1) w)) w
theorem eq31 (v_s : Value) (Q : Value → World → Prop) (w : World) : semF Try.prog 31 [v_s] Q w = S31 v_s Q w := by kernel_rfl
theorem ref31 {v_s : Value} {Q : Value → World → Prop} {w : World} (h : S31 v_s Q w) : callS Try.prog 31 #[v_s] Q w :=
  callS_of mix (fun a w => Try.call31 a w) (by kernel_rfl) (by rw [eq31]; exact h)
-- (*commons/imap.Map[int]).lay
def S32 (v_m v_l : Value) (Q : Value → World → Prop) (w : World) : Prop :=
 callS Try.prog 40 #[v_l, (.func (.func 41) #[] #[])] (fun _ w_1 => 
 pur Try.prog (nilV v_m) fun t10 => 
 pur Try.prog (Instr.fieldAt 65 t10 0) fun t11 => 
 act Try.prog (thenU (Instr.storeAt 43 t11 (.slice none 0 0))) (fun _ w_2 => 
 pur Try.prog (Builtin.len_ #[43] 3 #[v_l]) fun t13 => 
 lp 1 (fun J => fun t14 w_3 => ∀ _j : Fr, 
  pur Try.prog (binS .lss 3 false false t14 t13) fun t15 => 
  condS t15
   (jn 0 (fun J_1 => 
   pur Try.prog (Instr.indexAt 43 v_l t14) fun t16 => 
   rd Try.prog (Instr.loadAt 46 t16) (fun t17 => 
   act Try.prog (Instr.alloc 46 true (.tuple #[])) (fun t5 w_4 => 
   act Try.prog (thenU (Instr.storeAt 46 t5 t17)) (fun _ w_5 => 
   pur Try.prog (nilV v_m) fun t19 => 
   pur Try.prog (Instr.fieldAt 65 t19 0) fun t20 => 
   rd Try.prog (Instr.loadAt 43 t20) (fun t21 => 
   pur Try.prog (Builtin.len_ #[43] 3 #[t21]) fun t22 => 
   pur Try.prog (binS .sub 3 false true t22 (.int .i64 1)) fun t23 => 
   pur Try.prog (binS .geq 3 false true t23 (.int .i64 0)) fun t25 => 
   gd t25 true (fun k w_6 => k v_m w_6) (fun t27_1 w_7 => 
   gd t25 true (fun k_1 w_8 => pur Try.prog (nilV t27_1) fun t28 => k_1 t28 w_8) (fun t28_1 w_9 => 
   gd t25 true (fun k_2 w_10 => pur Try.prog (Instr.fieldAt 65 t28_1 0) fun t29 => k_2 t29 w_10) (fun t29_1 w_11 => 
   gd t25 true (fun k_3 w_12 => rd Try.prog (Instr.loadAt 43 t29_1) (fun t30 => k_3 t30 w_12) w_12) (fun t30_1 w_13 => 
   gd t25 true (fun k_4 w_14 => k_4 t23 w_14) (fun t31_1 w_15 => 
   gd t25 true (fun k_5 w_16 => pur Try.prog (Instr.indexAt 43 t30_1 t31_1) fun t32 => k_5 t32 w_16) (fun t32_1 w_17 => 
   gd t25 true (fun k_6 w_18 => pur Try.prog (Instr.fieldAt 46 t32_1 0) fun t33 => k_6 t33 w_18) (fun t33_1 w_19 => 
   gd t25 true (fun k_7 w_20 => pur Try.prog (Instr.fieldAt 27 t33_1 1) fun t34 => k_7 t34 w_20) (fun t34_1 w_21 => 
   gd t25 true (fun k_8 w_22 => rd Try.prog (Instr.loadAt 3 t34_1) (fun t35 => k_8 t35 w_22) w_22) (fun t35_1 w_23 => 
   gd t25 true (fun k_9 w_24 => pur Try.prog (Instr.fieldAt 46 t5 0) fun t36 => k_9 t36 w_24) (fun t36_1 w_25 => 
   gd t25 true (fun k_10 w_26 => pur Try.prog (Instr.fieldAt 27 t36_1 0) fun t37 => k_10 t37 w_26) (fun t37_1 w_27 => 
   gd t25 true (fun k_11 w_28 => rd Try.prog (Instr.loadAt 3 t37_1) (fun t38 => k_11 t38 w_28) w_28) (fun t38_1 w_29 => 
   gd t25 true (fun k_12 w_30 => pur Try.prog (binS .eql 3 false false t35_1 t38_1) fun t39 => k_12 t39 w_30) (fun t39_1 w_31 => 
   pur Try.prog (pickS t25 t39_1 (.bool false)) fun t40 => 
   gd t40 true (fun k_13 w_32 => k_13 v_m w_32) (fun t42_1 w_33 => 
   gd t40 true (fun k_14 w_34 => pur Try.prog (nilV t42_1) fun t43 => k_14 t43 w_34) (fun t43_1 w_35 => 
   gd t40 true (fun k_15 w_36 => pur Try.prog (Instr.fieldAt 65 t43_1 0) fun t44 => k_15 t44 w_36) (fun t44_1 w_37 => 
   gd t40 true (fun k_16 w_38 => rd Try.prog (Instr.loadAt 43 t44_1) (fun t45 => k_16 t45 w_38) w_38) (fun t45_1 w_39 => 
   gd t40 true (fun k_17 w_40 => k_17 t23 w_40) (fun t46_1 w_41 => 
   gd t40 true (fun k_18 w_42 => pur Try.prog (Instr.indexAt 43 t45_1 t46_1) fun t47 => k_18 t47 w_42) (fun t47_1 w_43 => 
   gd t40 true (fun k_19 w_44 => pur Try.prog (Instr.fieldAt 46 t47_1 1) fun t48 => k_19 t48 w_44) (fun t48_1 w_45 => 
   gd t40 true (fun k_20 w_46 => rd Try.prog (Instr.loadAt 3 t48_1) (fun t49 => k_20 t49 w_46) w_46) (fun t49_1 w_47 => 
   gd t40 true (fun k_21 w_48 => pur Try.prog (Instr.fieldAt 46 t5 1) fun t50 => k_21 t50 w_48) (fun t50_1 w_49 => 
   gd t40 true (fun k_22 w_50 => rd Try.prog (Instr.loadAt 3 t50_1) (fun t51 => k_22 t51 w_50) w_50) (fun t51_1 w_51 => 
   gd t40 true (fun k_23 w_52 => pur Try.prog (binS .eql 3 false false t49_1 t51_1) fun t52 => k_23 t52 w_52) (fun t52_1 w_53 => 
   pur Try.prog (pickS t40 t52_1 (.bool false)) fun t53 => 
   condS t53
    (pur Try.prog (nilV v_m) fun t55 => 
    pur Try.prog (Instr.fieldAt 65 t55 0) fun t56 => 
    rd Try.prog (Instr.loadAt 43 t56) (fun t57 => 
    pur Try.prog (Instr.fieldAt 46 t5 0) fun t59 => 
    pur Try.prog (Instr.fieldAt 27 t59 1) fun t60 => 
    rd Try.prog (Instr.loadAt 3 t60) (fun t61 => 
    pur Try.prog (Instr.indexAt 43 t57 t23) fun t62 => 
    pur Try.prog (Instr.fieldAt 46 t62 0) fun t63 => 
    pur Try.prog (Instr.fieldAt 27 t63 1) fun t64 => 
    act Try.prog (thenU (Instr.storeAt 3 t64 t61)) (fun _ w_54 => 
    J_1  w_54) (World.drew w_53)) (World.drew w_53)) (World.drew w_53))
    (jn 0 (fun J_2 => 
     pur Try.prog (nilV v_m) fun t67 => 
     pur Try.prog (Instr.fieldAt 65 t67 0) fun t68 => 
     rd Try.prog (Instr.loadAt 46 t5) (fun t70 => 
     (rd Try.prog (Instr.loadAt 43 t68) (fun t69 => 
     act Try.prog (Instr.buildSlice 43 1 #[(0, t70)]) (fun t71 w_55 => 
     act Try.prog (Builtin.append_ #[43, 43] 43 #[t69, t71]) (fun t72 w_56 => 
     pur Try.prog (nilV v_m) fun t73 => 
     pur Try.prog (Instr.fieldAt 65 t73 0) fun t74 => 
     act Try.prog (thenU (Instr.storeAt 43 t74 t72)) (fun _ w_57 => 
     J_2  w_57) w_56) w_55) (World.drew w_53)) (World.drew w_53)
     ) ∧ (act Try.prog (Instr.buildSlice 43 1 #[(0, t70)]) (fun t71_1 w_58 => 
     rd Try.prog (Instr.loadAt 43 t68) (fun t69_1 => 
     act Try.prog (Builtin.append_ #[43, 43] 43 #[t69_1, t71_1]) (fun t72_1 w_59 => 
     pur Try.prog (nilV v_m) fun t73_1 => 
     pur Try.prog (Instr.fieldAt 65 t73_1 0) fun t74_1 => 
     act Try.prog (thenU (Instr.storeAt 43 t74_1 t72_1)) (fun _ w_60 => 
     J_2  w_60) w_59) w_58) w_58) (World.drew w_53))) (World.drew w_53))
    (fun  w_61 => ∀ _j : Fr, 
     J_1  w_61))) w_51) w_49) w_47) w_45) w_43) w_41) w_39) w_37) w_35) w_33) w_31) w_29) w_27) w_25) w_23) w_21) w_19) w_17) w_15) w_13) w_11) w_9) w_7) (World.drew w_5)) w_5) w_4) w_3) w_3)
  (fun  w_62 => ∀ _j : Fr, 
   pur Try.prog (binS .add 3 false true t14 (.int .i64 1)) fun t75 => 
   J t75 w_62))
   (Q (.tuple #[]) w_3)) [(.int .i64 0)] w_2) w_1) w
theorem eq32 (v_m v_l : Value) (Q : Value → World → Prop) (w : World) : semF Try.prog 32 [v_m, v_l] Q w = S32 v_m v_l Q w := by kernel_rfl
theorem ref32 {v_m v_l : Value} {Q : Value → World → Prop} {w : World} (h : S32 v_m v_l Q w) : callS Try.prog 32 #[v_m, v_l] Q w :=
  callS_of mix (fun a w => Try.call32 a w) (by kernel_rfl) (by rw [eq32]; exact h)
-- (*commons/imap.Map[int]).without
def S33 (v_m v_s : Value) (Q : Value → World → Prop) (w : World) : Prop :=
 act Try.prog (Instr.box 27 v_s) (fun t3 w_1 => 
 pur Try.prog (nilV v_m) fun t11 => 
 pur Try.prog (Instr.fieldAt 65 t11 0) fun t12 => 
 rd Try.prog (Instr.loadAt 43 t12) (fun t13 => 
 pur Try.prog (Builtin.len_ #[43] 3 #[t13]) fun t14 => 
 lp 2 (fun J => fun v_out t15 w_2 => ∀ _j : Fr, 
  pur Try.prog (binS .lss 3 false false t15 t14) fun t16 => 
  condS t16
   (pur Try.prog (Instr.indexAt 43 t13 t15) fun t17 => 
  rd Try.prog (Instr.loadAt 46 t17) (fun t18 => 
  act Try.prog (Instr.alloc 46 true (.tuple #[])) (fun t7 w_3 => 
  act Try.prog (thenU (Instr.storeAt 46 t7 t18)) (fun _ w_4 => 
  pur Try.prog (Instr.fieldAt 46 t7 0) fun t19 => 
  rd Try.prog (Instr.loadAt 27 t19) (fun t20 => 
  act Try.prog (Instr.buildSlice 49 1 #[(0, t20)]) (fun t21 w_5 => 
  rd Try.prog (Instr.loadAt 27 t3) (fun t22 => 
  act Try.prog (Instr.buildSlice 49 1 #[(0, t22)]) (fun t23 w_6 => 
  callS Try.prog 36 #[t21, t23] (fun t24 w_7 => 
  pur Try.prog (Builtin.len_ #[49] 3 #[t24]) fun t25 => 
  lp 2 (fun J_1 => fun v_out_1 t26 w_8 => ∀ _j : Fr, 
   pur Try.prog (binS .lss 3 false false t26 t25) fun t27 => 
   condS t27
    (pur Try.prog (Instr.indexAt 49 t24 t26) fun t28 => 
   rd Try.prog (Instr.loadAt 27 t28) (fun t29 => 
   act Try.prog (Instr.alloc 27 true (.tuple #[])) (fun t9 w_9 => 
   act Try.prog (thenU (Instr.storeAt 27 t9 t29)) (fun _ w_10 => 
   rd Try.prog (Instr.loadAt 27 t9) (fun t31 => 
   pur Try.prog (Instr.fieldAt 46 t7 1) fun t32 => 
   rd Try.prog (Instr.loadAt 3 t32) (fun t33 => 
   pur Try.prog (Instr.build 46 #[(0, t31), (1, t33)]) fun t34 => 
   act Try.prog (Instr.buildSlice 43 1 #[(0, t34)]) (fun t35 w_11 => 
   act Try.prog (Builtin.append_ #[43, 43] 43 #[v_out_1, t35]) (fun t36 w_12 => 
   pur Try.prog (binS .add 3 false true t26 (.int .i64 1)) fun t37 => 
   J_1 t36 t37 w_12) w_11) w_10) w_10) w_10) w_9) w_8) w_8)
    (pur Try.prog (binS .add 3 false true t15 (.int .i64 1)) fun t38 => 
  J v_out_1 t38 w_8)) [v_out, (.int .i64 0)] w_7) w_6) w_5) w_5) w_4) w_4) w_3) w_2) w_2)
   (Q v_out w_2)) [(.slice none 0 0), (.int .i64 0)] w_1) w_1) w
theorem eq33 (v_m v_s : Value) (Q : Value → World → Prop) (w : World) : semF Try.prog 33 [v_m, v_s] Q w = S33 v_m v_s Q w := by kernel_rfl
theorem ref33 {v_m v_s : Value} {Q : Value → World → Prop} {w : World} (h : S33 v_m v_s Q w) : callS Try.prog 33 #[v_m, v_s] Q w :=
  callS_of mix (fun a w => Try.call33 a w) (by kernel_rfl) (by rw [eq33]; exact h)
-- commons/span.Meet
def S34 (v_a v_b : Value) (Q : Value → World → Prop) (w : World) : Prop :=
 act Try.prog (Instr.box 27 v_a) (fun t2 w_1 => 
 act Try.prog (Instr.box 27 v_b) (fun t3 w_2 => 
 act Try.prog (Instr.alloc 27 true (.tuple #[])) (fun t4 w_3 => 
 pur Try.prog (Instr.fieldAt 27 t2 0) fun t7 => 
 rd Try.prog (Instr.loadAt 3 t7) (fun t8 => 
 pur Try.prog (Instr.fieldAt 27 t3 0) fun t9 => 
 rd Try.prog (Instr.loadAt 3 t9) (fun t10 => 
 pur Try.prog (Builtin.max_ #[3, 3] 3 #[t8, t10]) fun t11 => 
 pur Try.prog (Instr.fieldAt 27 t2 1) fun t12 => 
 rd Try.prog (Instr.loadAt 3 t12) (fun t13 => 
 pur Try.prog (Instr.fieldAt 27 t3 1) fun t14 => 
 rd Try.prog (Instr.loadAt 3 t14) (fun t15 => 
 pur Try.prog (Builtin.min_ #[3, 3] 3 #[t13, t15]) fun t16 => 
 pur Try.prog (Instr.build 27 #[(0, t11), (1, t16)]) fun t17 => 
 act Try.prog (Instr.alloc 27 true (.tuple #[])) (fun t6 w_4 => 
 act Try.prog (thenU (Instr.storeAt 27 t6 t17)) (fun _ w_5 => 
 rd Try.prog (Instr.loadAt 27 t2) (fun t18 => 
 callS Try.prog 28 #[t18] (fun t19 w_6 => 
 pur Try.prog (Op.unary .not t19) fun t20 => 
 gd t20 false (fun k w_7 => rd Try.prog (Instr.loadAt 27 t3) (fun t22 => k t22 w_7) w_7) (fun t22_1 w_8 => 
 gd t20 false (fun k_1 w_9 => callS Try.prog 28 #[t22_1] (fun t23 w_10 => k_1 t23 w_10) w_9) (fun t23_1 w_11 => 
 gd t20 false (fun k_2 w_12 => pur Try.prog (Op.unary .not t23_1) fun t24 => k_2 t24 w_12) (fun t24_1 w_13 => 
 pur Try.prog (pickS t20 (.bool true) t24_1) fun t25 => 
 gd t25 false (fun k_3 w_14 => rd Try.prog (Instr.loadAt 27 t6) (fun t27 => k_3 t27 w_14) w_14) (fun t27_1 w_15 => 
 gd t25 false (fun k_4 w_16 => callS Try.prog 28 #[t27_1] (fun t28 w_17 => k_4 t28 w_17) w_16) (fun t28_1 w_18 => 
 gd t25 false (fun k_5 w_19 => pur Try.prog (Op.unary .not t28_1) fun t29 => k_5 t29 w_19) (fun t29_1 w_20 => 
 pur Try.prog (pickS t25 (.bool true) t29_1) fun t30 => 
 condS t30
  (pur Try.prog (Instr.build 27 #[]) fun t31 => 
  act Try.prog (thenU (Instr.storeAt 27 t4 t31)) (fun _ w_21 => 
  rd Try.prog (resL 27 t4) (fun r => Q (.tuple #[r, (.bool false)]) w_21) w_21) w_20)
  (rd Try.prog (Instr.loadAt 27 t6) (fun t32 => 
 act Try.prog (thenU (Instr.storeAt 27 t4 t32)) (fun _ w_22 => 
 rd Try.prog (resL 27 t4) (fun r_1 => Q (.tuple #[r_1, (.bool true)]) w_22) w_22) w_20) w_20)) w_18) w_15) w_13) w_11) w_8) w_6) w_5) w_5) w_4) w_3) w_3) w_3) w_3) w_3) w_2) w_1) w
theorem eq34 (v_a v_b : Value) (Q : Value → World → Prop) (w : World) : semF Try.prog 34 [v_a, v_b] Q w = S34 v_a v_b Q w := by kernel_rfl
theorem ref34 {v_a v_b : Value} {Q : Value → World → Prop} {w : World} (h : S34 v_a v_b Q w) : callS Try.prog 34 #[v_a, v_b] Q w :=
  callS_of mix (fun a w => Try.call34 a w) (by kernel_rfl) (by rw [eq34]; exact h)
-- slices.Clone[[]commons/imap.Part[int],commons/imap.Part[int]]
def S35 (v_s : Value) (Q : Value → World → Prop) (w : World) : Prop :=
 rd Try.prog (binS .eql 43 false true v_s (.slice none 0 0)) (fun t4 => 
 condS t4
  (Q (.slice none 0 0) w)
  (act Try.prog (Instr.buildSlice 43 0 #[]) (fun t5 w_1 => 
 act Try.prog (Builtin.append_ #[43, 43] 43 #[t5, v_s]) (fun t7 w_2 => 
 Q t7 w_2) w_1) w)) w
theorem eq35 (v_s : Value) (Q : Value → World → Prop) (w : World) : semF Try.prog 35 [v_s] Q w = S35 v_s Q w := by kernel_rfl
theorem ref35 {v_s : Value} {Q : Value → World → Prop} {w : World} (h : S35 v_s Q w) : callS Try.prog 35 #[v_s] Q w :=
  callS_of mix (fun a w => Try.call35 a w) (by kernel_rfl) (by rw [eq35]; exact h)
-- commons/span.Minus
def S36 (v_a v_b : Value) (Q : Value → World → Prop) (w : World) : Prop :=
 callS Try.prog 42 #[v_a] (fun t12 w_1 => 
 callS Try.prog 42 #[v_b] (fun t14 w_2 => 
 pur Try.prog (Builtin.len_ #[49] 3 #[t14]) fun t15 => 
 lp 2 (fun J => fun v_out t16 w_3 => ∀ _j : Fr, 
  pur Try.prog (binS .lss 3 false false t16 t15) fun t17 => 
  condS t17
   (pur Try.prog (Instr.indexAt 49 t14 t16) fun t18 => 
  rd Try.prog (Instr.loadAt 27 t18) (fun t19 => 
  act Try.prog (Instr.alloc 27 true (.tuple #[])) (fun t7 w_4 => 
  act Try.prog (thenU (Instr.storeAt 27 t7 t19)) (fun _ w_5 => 
  pur Try.prog (Builtin.len_ #[49] 3 #[v_out]) fun t21 => 
  lp 2 (fun J_1 => fun v_left t22 w_6 => ∀ _j : Fr, 
   pur Try.prog (binS .lss 3 false false t22 t21) fun t23 => 
   condS t23
    (jn 1 (fun J_2 => 
    pur Try.prog (Instr.indexAt 49 v_out t22) fun t24 => 
    rd Try.prog (Instr.loadAt 27 t24) (fun t25 => 
    act Try.prog (Instr.alloc 27 true (.tuple #[])) (fun t10 w_7 => 
    act Try.prog (thenU (Instr.storeAt 27 t10 t25)) (fun _ w_8 => 
    rd Try.prog (Instr.loadAt 27 t10) (fun t26 => 
    rd Try.prog (Instr.loadAt 27 t7) (fun t27 => 
    callS Try.prog 43 #[t26, t27] (fun t28 w_9 => 
    pur Try.prog (Op.unary .not t28) fun t29 => 
    condS t29
     (rd Try.prog (Instr.loadAt 27 t10) (fun t31 => 
     act Try.prog (Instr.buildSlice 49 1 #[(0, t31)]) (fun t32 w_10 => 
     act Try.prog (Builtin.append_ #[49, 49] 49 #[v_left, t32]) (fun t33 w_11 => 
     J_2 t33 w_11) w_10) w_9) w_9)
     (pur Try.prog (Instr.fieldAt 27 t10 0) fun t35 => 
    rd Try.prog (Instr.loadAt 3 t35) (fun t36 => 
    pur Try.prog (Instr.fieldAt 27 t7 0) fun t37 => 
    rd Try.prog (Instr.loadAt 3 t37) (fun t38 => 
    pur Try.prog (Instr.build 27 #[(0, t36), (1, t38)]) fun t39 => 
    pur Try.prog (Instr.fieldAt 27 t7 1) fun t40 => 
    rd Try.prog (Instr.loadAt 3 t40) (fun t41 => 
    pur Try.prog (Instr.fieldAt 27 t10 1) fun t42 => 
    rd Try.prog (Instr.loadAt 3 t42) (fun t43 => 
    pur Try.prog (Instr.build 27 #[(0, t41), (1, t43)]) fun t44 => 
    act Try.prog (Instr.buildSlice 49 2 #[(0, t39), (1, t44)]) (fun t45 w_12 => 
    act Try.prog (Builtin.append_ #[49, 49] 49 #[v_left, t45]) (fun t46 w_13 => 
    J_2 t46 w_13) w_12) w_9) w_9) w_9) w_9) w_9)) w_8) w_8) w_8) w_7) w_6) w_6)
   (fun v_left_1 w_14 => ∀ _j : Fr, 
    pur Try.prog (binS .add 3 false true t22 (.int .i64 1)) fun t47 => 
    J_1 v_left_1 t47 w_14))
    (callS Try.prog 42 #[v_left] (fun t49 w_15 => 
  pur Try.prog (binS .add 3 false true t16 (.int .i64 1)) fun t50 => 
  J t49 t50 w_15) w_6)) [(.slice none 0 0), (.int .i64 0)] w_5) w_4) w_3) w_3)
   (Q v_out w_3)) [t12, (.int .i64 0)] w_2) w_1) w
theorem eq36 (v_a v_b : Value) (Q : Value → World → Prop) (w : World) : semF Try.prog 36 [v_a, v_b] Q w = S36 v_a v_b Q w := by kernel_rfl
theorem ref36 {v_a v_b : Value} {Q : Value → World → Prop} {w : World} (h : S36 v_a v_b Q w) : callS Try.prog 36 #[v_a, v_b] Q w :=
  callS_of mix (fun a w => Try.call36 a w) (by kernel_rfl) (by rw [eq36]; exact h)
-- slices.SortFunc[[]commons/imap.Part[string],commons/imap.Part[string]]
def S37 (v_x v_cmp : Value) (Q : Value → World → Prop) (w : World) : Prop :=
 pur Try.prog (Builtin.len_ #[35] 3 #[v_x]) fun t6 => 
 pur Try.prog (convert 3 80 t6) fun t10 => 
 callS Try.prog 45 #[t10] (fun t11 w_1 => 
 callS Try.prog 44 #[v_x, (.int .i64 0), t6, t11, v_cmp] (fun _ w_2 => 
 Q (.tuple #[]) w_2) w_1) w
theorem eq37 (v_x v_cmp : Value) (Q : Value → World → Prop) (w : World) : semF Try.prog 37 [v_x, v_cmp] Q w = S37 v_x v_cmp Q w := by kernel_rfl
theorem ref37 {v_x v_cmp : Value} {Q : Value → World → Prop} {w : World} (h : S37 v_x v_cmp Q w) : callS Try.prog 37 #[v_x, v_cmp] Q w :=
  callS_of mix (fun a w => Try.call37 a w) (by kernel_rfl) (by rw [eq37]; exact h)
-- (*commons/imap.Map[string]).lay$1
def S38 (v_a v_b : Value) (Q : Value → World → Prop) (w : World) : Prop :=
 act Try.prog (Instr.box 38 v_a) (fun t2 w_1 => 
 act Try.prog (Instr.box 38 v_b) (fun t3 w_2 => 
 pur Try.prog (Instr.fieldAt 38 t2 0) fun t5 => 
 pur Try.prog (Instr.fieldAt 27 t5 0) fun t6 => 
 rd Try.prog (Instr.loadAt 3 t6) (fun t7 => 
 pur Try.prog (Instr.fieldAt 38 t3 0) fun t8 => 
 pur Try.prog (Instr.fieldAt 27 t8 0) fun t9 => 
 rd Try.prog (Instr.loadAt 3 t9) (fun t10 => 
 callS Try.prog 39 #[t7, t10] (fun t11 w_3 => 
 Q t11 w_3) w_2) w_2) w_2) w_1) w
theorem eq38 (v_a v_b : Value) (Q : Value → World → Prop) (w : World) : semF Try.prog 38 [v_a, v_b] Q w = S38 v_a v_b Q w := by kernel_rfl
theorem ref38 {v_a v_b : Value} {Q : Value → World → Prop} {w : World} (h : S38 v_a v_b Q w) : callS Try.prog 38 #[v_a, v_b] Q w :=
  callS_of mix (fun a w => Try.call38 a w) (by kernel_rfl) (by rw [eq38]; exact h)
-- cmp.Compare[int]
def S39 (v_x v_y : Value) (Q : Value → World → Prop) (w : World) : Prop :=
 callS Try.prog 46 #[v_x] (fun t8 w_1 => 
 callS Try.prog 46 #[v_y] (fun t10 w_2 => 
 condS t8
  (condS t10
   (Q (.int .i64 0) w_2)
   (Q (.int .i64 (-1)) w_2))
  (condS t10
  (Q (.int .i64 1) w_2)
  (pur Try.prog (binS .lss 3 false false v_x v_y) fun t16 => 
 condS t16
  (Q (.int .i64 (-1)) w_2)
  (pur Try.prog (binS .gtr 3 false false v_x v_y) fun t19 => 
 condS t19
  (Q (.int .i64 1) w_2)
  (Q (.int .i64 0) w_2))))) w_1) w
theorem eq39 (v_x v_y : Value) (Q : Value → World → Prop) (w : World) : semF Try.prog 39 [v_x, v_y] Q w = S39 v_x v_y Q w := by kernel_rfl
theorem ref39 {v_x v_y : Value} {Q : Value → World → Prop} {w : World} (h : S39 v_x v_y Q w) : callS Try.prog 39 #[v_x, v_y] Q w :=
  callS_of mix (fun a w => Try.call39 a w) (by kernel_rfl) (by rw [eq39]; exact h)
-- slices.SortFunc[[]commons/imap.Part[int],commons/imap.Part[int]]
def S40 (v_x v_cmp : Value) (Q : Value → World → Prop) (w : World) : Prop :=
 pur Try.prog (Builtin.len_ #[43] 3 #[v_x]) fun t6 => 
 pur Try.prog (convert 3 80 t6) fun t10 => 
 callS Try.prog 45 #[t10] (fun t11 w_1 => 
 callS Try.prog 47 #[v_x, (.int .i64 0), t6, t11, v_cmp] (fun _ w_2 => 
 Q (.tuple #[]) w_2) w_1) w
theorem eq40 (v_x v_cmp : Value) (Q : Value → World → Prop) (w : World) : semF Try.prog 40 [v_x, v_cmp] Q w = S40 v_x v_cmp Q w := by kernel_rfl
theorem ref40 {v_x v_cmp : Value} {Q : Value → World → Prop} {w : World} (h : S40 v_x v_cmp Q w) : callS Try.prog 40 #[v_x, v_cmp] Q w :=
  callS_of mix (fun a w => Try.call40 a w) (by kernel_rfl) (by rw [eq40]; exact h)
-- (*commons/imap.Map[int]).lay$1
def S41 (v_a v_b : Value) (Q : Value → World → Prop) (w : World) : Prop :=
 act Try.prog (Instr.box 46 v_a) (fun t2 w_1 => 
 act Try.prog (Instr.box 46 v_b) (fun t3 w_2 => 
 pur Try.prog (Instr.fieldAt 46 t2 0) fun t5 => 
 pur Try.prog (Instr.fieldAt 27 t5 0) fun t6 => 
 rd Try.prog (Instr.loadAt 3 t6) (fun t7 => 
 pur Try.prog (Instr.fieldAt 46 t3 0) fun t8 => 
 pur Try.prog (Instr.fieldAt 27 t8 0) fun t9 => 
 rd Try.prog (Instr.loadAt 3 t9) (fun t10 => 
 callS Try.prog 39 #[t7, t10] (fun t11 w_3 => 
 Q t11 w_3) w_2) w_2) w_2) w_1) w
theorem eq41 (v_a v_b : Value) (Q : Value → World → Prop) (w : World) : semF Try.prog 41 [v_a, v_b] Q w = S41 v_a v_b Q w := by kernel_rfl
theorem ref41 {v_a v_b : Value} {Q : Value → World → Prop} {w : World} (h : S41 v_a v_b Q w) : callS Try.prog 41 #[v_a, v_b] Q w :=
  callS_of mix (fun a w => Try.call41 a w) (by kernel_rfl) (by rw [eq41]; exact h)
-- commons/span.Norm
def S42 (v_l : Value) (Q : Value → World → Prop) (w : World) : Prop :=
 callS Try.prog 49 #[v_l] (fun t8 w_1 => 
 callS Try.prog 48 #[t8, (.func (.func 50) #[] #[])] (fun t9 w_2 => 
 callS Try.prog 51 #[t9, (.func (.func 52) #[] #[])] (fun _ w_3 => 
 pur Try.prog (Builtin.len_ #[49] 3 #[t9]) fun t13 => 
 lp 2 (fun J => fun v_out t14 w_4 => ∀ _j : Fr, 
  pur Try.prog (binS .lss 3 false false t14 t13) fun t15 => 
  condS t15
   (jn 1 (fun J_1 => 
   pur Try.prog (Instr.indexAt 49 t9 t14) fun t16 => 
   rd Try.prog (Instr.loadAt 27 t16) (fun t17 => 
   act Try.prog (Instr.alloc 27 true (.tuple #[])) (fun t5 w_5 => 
   act Try.prog (thenU (Instr.storeAt 27 t5 t17)) (fun _ w_6 => 
   pur Try.prog (Builtin.len_ #[49] 3 #[v_out]) fun t19 => 
   pur Try.prog (binS .sub 3 false true t19 (.int .i64 1)) fun t20 => 
   pur Try.prog (binS .geq 3 false true t20 (.int .i64 0)) fun t22 => 
   gd t22 true (fun k w_7 => pur Try.prog (Instr.fieldAt 27 t5 0) fun t24 => k t24 w_7) (fun t24_1 w_8 => 
   gd t22 true (fun k_1 w_9 => rd Try.prog (Instr.loadAt 3 t24_1) (fun t25 => k_1 t25 w_9) w_9) (fun t25_1 w_10 => 
   gd t22 true (fun k_2 w_11 => k_2 v_out w_11) (fun t26_1 w_12 => 
   gd t22 true (fun k_3 w_13 => k_3 t20 w_13) (fun t27_1 w_14 => 
   gd t22 true (fun k_4 w_15 => pur Try.prog (Instr.indexAt 49 t26_1 t27_1) fun t28 => k_4 t28 w_15) (fun t28_1 w_16 => 
   gd t22 true (fun k_5 w_17 => pur Try.prog (Instr.fieldAt 27 t28_1 1) fun t29 => k_5 t29 w_17) (fun t29_1 w_18 => 
   gd t22 true (fun k_6 w_19 => rd Try.prog (Instr.loadAt 3 t29_1) (fun t30 => k_6 t30 w_19) w_19) (fun t30_1 w_20 => 
   gd t22 true (fun k_7 w_21 => pur Try.prog (binS .leq 3 false false t25_1 t30_1) fun t31 => k_7 t31 w_21) (fun t31_1 w_22 => 
   pur Try.prog (pickS t22 t31_1 (.bool false)) fun t32 => 
   condS t32
    (pur Try.prog (Instr.indexAt 49 v_out t20) fun t37 => 
    pur Try.prog (Instr.fieldAt 27 t37 1) fun t38 => 
    rd Try.prog (Instr.loadAt 3 t38) (fun t39 => 
    pur Try.prog (Instr.fieldAt 27 t5 1) fun t40 => 
    rd Try.prog (Instr.loadAt 3 t40) (fun t41 => 
    pur Try.prog (Builtin.max_ #[3, 3] 3 #[t39, t41]) fun t42 => 
    pur Try.prog (Instr.indexAt 49 v_out t20) fun t43 => 
    pur Try.prog (Instr.fieldAt 27 t43 1) fun t44 => 
    act Try.prog (thenU (Instr.storeAt 3 t44 t42)) (fun _ w_23 => 
    J_1 v_out w_23) (World.drew w_22)) (World.drew w_22)) (World.drew w_22))
    (rd Try.prog (Instr.loadAt 27 t5) (fun t46 => 
    act Try.prog (Instr.buildSlice 49 1 #[(0, t46)]) (fun t47 w_24 => 
    act Try.prog (Builtin.append_ #[49, 49] 49 #[v_out, t47]) (fun t48 w_25 => 
    J_1 t48 w_25) w_24) w_22) w_22)) w_20) w_18) w_16) w_14) w_12) w_10) w_8) (World.drew w_6)) w_5) w_4) w_4)
  (fun v_out_1 w_26 => ∀ _j : Fr, 
   pur Try.prog (binS .add 3 false true t14 (.int .i64 1)) fun t49 => 
   J v_out_1 t49 w_26))
   (Q v_out w_4)) [(.slice none 0 0), (.int .i64 0)] w_3) w_2) w_1) w
theorem eq42 (v_l : Value) (Q : Value → World → Prop) (w : World) : semF Try.prog 42 [v_l] Q w = S42 v_l Q w := by kernel_rfl
theorem ref42 {v_l : Value} {Q : Value → World → Prop} {w : World} (h : S42 v_l Q w) : callS Try.prog 42 #[v_l] Q w :=
  callS_of mix (fun a w => Try.call42 a w) (by kernel_rfl) (by rw [eq42]; exact h)
-- commons/span.Meets
def S43 (v_a v_b : Value) (Q : Value → World → Prop) (w : World) : Prop :=
 act Try.prog (Instr.box 27 v_a) (fun t2 w_1 => 
 act Try.prog (Instr.box 27 v_b) (fun t3 w_2 => 
 rd Try.prog (Instr.loadAt 27 t2) (fun t8 => 
 rd Try.prog (Instr.loadAt 27 t3) (fun t9 => 
 callS Try.prog 34 #[t8, t9] (fun t10 w_3 => 
 pur Try.prog (Instr.extract t10 0) fun t11 => 
 pur Try.prog (Instr.extract t10 1) fun t12 => 
 act Try.prog (Instr.alloc 27 true (.tuple #[])) (fun t5 w_4 => 
 act Try.prog (thenU (Instr.storeAt 27 t5 t11)) (fun _ w_5 => 
 Q t12 w_5) w_4) w_3) w_2) w_2) w_2) w_1) w
theorem eq43 (v_a v_b : Value) (Q : Value → World → Prop) (w : World) : semF Try.prog 43 [v_a, v_b] Q w = S43 v_a v_b Q w := by kernel_rfl
theorem ref43 {v_a v_b : Value} {Q : Value → World → Prop} {w : World} (h : S43 v_a v_b Q w) : callS Try.prog 43 #[v_a, v_b] Q w :=
  callS_of mix (fun a w => Try.call43 a w) (by kernel_rfl) (by rw [eq43]; exact h)
-- slices.pdqsortCmpFunc[commons/imap.Part[string]]
def S44 (v_data v_a v_b v_limit v_cmp : Value) (Q : Value → World → Prop) (w : World) : Prop :=
 lp 5 (fun J => fun v_a_1 v_b_1 v_limit_1 v_wasBalanced v_wasPartitioned w_1 => ∀ _j : Fr, 
  pur Try.prog (binS .sub 3 false false v_b_1 v_a_1) fun t23 => 
  pur Try.prog (binS .leq 3 false true t23 (.int .i64 12)) fun t25 => 
  condS t25
   (callS Try.prog 54 #[v_data, v_a_1, v_b_1, v_cmp] (fun _ w_2 => 
   Q (.tuple #[]) w_2) w_1)
   (pur Try.prog (binS .eql 3 false true v_limit_1 (.int .i64 0)) fun t32 => 
  condS t32
   (callS Try.prog 55 #[v_data, v_a_1, v_b_1, v_cmp] (fun _ w_3 => 
   Q (.tuple #[]) w_3) w_1)
   (jn 1 (fun J_1 => 
   pur Try.prog (Op.unary .not v_wasBalanced) fun t39 => 
   condS t39
    (callS Try.prog 56 #[v_data, v_a_1, v_b_1, v_cmp] (fun _ w_4 => 
    pur Try.prog (binS .sub 3 false true v_limit_1 (.int .i64 1)) fun t46 => 
    J_1 t46 w_4) w_1)
    (J_1 v_limit_1 w_1))
  (fun v_limit_2 w_5 => ∀ _j : Fr, 
   callS Try.prog 57 #[v_data, v_a_1, v_b_1, v_cmp] (fun t52 w_6 => 
   pur Try.prog (Instr.extract t52 0) fun t53 => 
   pur Try.prog (Instr.extract t52 1) fun t54 => 
   jn 2 (fun J_2 => 
    pur Try.prog (binS .eql 89 false true t54 (.int .i64 2)) fun t56 => 
    condS t56
     (callS Try.prog 58 #[v_data, v_a_1, v_b_1, v_cmp] (fun _ w_7 => 
     pur Try.prog (binS .sub 3 false true v_b_1 (.int .i64 1)) fun t63 => 
     pur Try.prog (binS .sub 3 false false t53 v_a_1) fun t66 => 
     pur Try.prog (binS .sub 3 false false t63 t66) fun t67 => 
     J_2 t67 (.int .i64 1) w_7) w_6)
     (J_2 t53 t54 w_6))
   (fun v_pivot v_hint w_8 => ∀ _j : Fr, 
    jn 0 (fun J_3 => 
     gd v_wasBalanced true (fun k w_9 => k v_wasPartitioned w_9) (fun t70_1 w_10 => 
     pur Try.prog (pickS v_wasBalanced t70_1 (.bool false)) fun t71 => 
     gd t71 true (fun k_1 w_11 => k_1 v_hint w_11) (fun t73_1 w_12 => 
     gd t71 true (fun k_2 w_13 => pur Try.prog (binS .eql 89 false true t73_1 (.int .i64 1)) fun t74 => k_2 t74 w_13) (fun t74_1 w_14 => 
     pur Try.prog (pickS t71 t74_1 (.bool false)) fun t75 => 
     condS t75
      (callS Try.prog 59 #[v_data, v_a_1, v_b_1, v_cmp] (fun t80 w_15 => 
      condS t80
       (Q (.tuple #[]) w_15)
       (J_3  w_15)) w_14)
      (J_3  w_14)) w_12) w_10) w_8)
    (fun  w_16 => ∀ _j : Fr, 
     pur Try.prog (binS .gtr 3 false true v_a_1 (.int .i64 0)) fun t82 => 
     gd t82 true (fun k_3 w_17 => k_3 v_cmp w_17) (fun t84_1 w_18 => 
     gd t82 true (fun k_4 w_19 => k_4 v_data w_19) (fun t85_1 w_20 => 
     gd t82 true (fun k_5 w_21 => k_5 v_a_1 w_21) (fun t86_1 w_22 => 
     gd t82 true (fun k_6 w_23 => pur Try.prog (binS .sub 3 false true t86_1 (.int .i64 1)) fun t87 => k_6 t87 w_23) (fun t87_1 w_24 => 
     gd t82 true (fun k_7 w_25 => pur Try.prog (Instr.indexAt 35 t85_1 t87_1) fun t88 => k_7 t88 w_25) (fun t88_1 w_26 => 
     gd t82 true (fun k_8 w_27 => rd Try.prog (Instr.loadAt 38 t88_1) (fun t89 => k_8 t89 w_27) w_27) (fun t89_1 w_28 => 
     gd t82 true (fun k_9 w_29 => k_9 v_data w_29) (fun t90_1 w_30 => 
     gd t82 true (fun k_10 w_31 => k_10 v_pivot w_31) (fun t91_1 w_32 => 
     gd t82 true (fun k_11 w_33 => pur Try.prog (Instr.indexAt 35 t90_1 t91_1) fun t92 => k_11 t92 w_33) (fun t92_1 w_34 => 
     gd t82 true (fun k_12 w_35 => rd Try.prog (Instr.loadAt 38 t92_1) (fun t93 => k_12 t93 w_35) w_35) (fun t93_1 w_36 => 
     gd t82 true (fun k_13 w_37 => callF Try.prog t84_1 #[t89_1, t93_1] (fun t94 w_38 => k_13 t94 w_38) w_37) (fun t94_1 w_39 => 
     gd t82 true (fun k_14 w_40 => pur Try.prog (binS .lss 3 false true t94_1 (.int .i64 0)) fun t95 => k_14 t95 w_40) (fun t95_1 w_41 => 
     gd t82 true (fun k_15 w_42 => pur Try.prog (Op.unary .not t95_1) fun t96 => k_15 t96 w_42) (fun t96_1 w_43 => 
     pur Try.prog (pickS t82 t96_1 (.bool false)) fun t97 => 
     condS t97
      (callS Try.prog 60 #[v_data, v_a_1, v_b_1, v_pivot, v_cmp] (fun t103 w_44 => 
      J t103 v_b_1 v_limit_2 v_wasBalanced v_wasPartitioned w_44) w_43)
      (callS Try.prog 61 #[v_data, v_a_1, v_b_1, v_pivot, v_cmp] (fun t111 w_45 => 
     pur Try.prog (Instr.extract t111 0) fun t112 => 
     pur Try.prog (Instr.extract t111 1) fun t113 => 
     pur Try.prog (binS .sub 3 false false t112 v_a_1) fun t117 => 
     pur Try.prog (binS .sub 3 false false v_b_1 t112) fun t120 => 
     pur Try.prog (binS .quo 3 false true t23 (.int .i64 8)) fun t122 => 
     pur Try.prog (binS .lss 3 false false t117 t120) fun t125 => 
     condS t125
      (pur Try.prog (binS .geq 3 false false t117 t122) fun t128 => 
      callS Try.prog 44 #[v_data, v_a_1, t112, v_limit_2, v_cmp] (fun _ w_46 => 
      pur Try.prog (binS .add 3 false true t112 (.int .i64 1)) fun t136 => 
      J t136 v_b_1 v_limit_2 t128 t113 w_46) w_45)
      (pur Try.prog (binS .geq 3 false false t120 t122) fun t139 => 
      pur Try.prog (binS .add 3 false true t112 (.int .i64 1)) fun t142 => 
      callS Try.prog 44 #[v_data, t142, v_b_1, v_limit_2, v_cmp] (fun _ w_47 => 
      J v_a_1 t112 v_limit_2 t139 t113 w_47) w_45)) w_43)) w_41) w_39) w_36) w_34) w_32) w_30) w_28) w_26) w_24) w_22) w_20) w_18) (World.drew w_16)))) w_5)))) [v_a, v_b, v_limit, (.bool true), (.bool true)] w
theorem eq44 (v_data v_a v_b v_limit v_cmp : Value) (Q : Value → World → Prop) (w : World) : semF Try.prog 44 [v_data, v_a, v_b, v_limit, v_cmp] Q w = S44 v_data v_a v_b v_limit v_cmp Q w := by kernel_rfl
theorem ref44 {v_data v_a v_b v_limit v_cmp : Value} {Q : Value → World → Prop} {w : World} (h : S44 v_data v_a v_b v_limit v_cmp Q w) : callS Try.prog 44 #[v_data, v_a, v_b, v_limit, v_cmp] Q w :=
  callS_of mix (fun a w => Try.call44 a w) (by kernel_rfl) (by rw [eq44]; exact h)
-- math/bits.Len
def S45 (v_x : Value) (Q : Value → World → Prop) (w : World) : Prop :=
 condS (.bool false)
  (pur Try.prog (convert 80 96 v_x) fun t4 => 
  callS Try.prog 62 #[t4] (fun t5 w_1 => 
  Q t5 w_1) w)
  (callS Try.prog 63 #[v_x] (fun t7 w_2 => 
 Q t7 w_2) w)
theorem eq45 (v_x : Value) (Q : Value → World → Prop) (w : World) : semF Try.prog 45 [v_x] Q w = S45 v_x Q w := by kernel_rfl
theorem ref45 {v_x : Value} {Q : Value → World → Prop} {w : World} (h : S45 v_x Q w) : callS Try.prog 45 #[v_x] Q w :=
  callS_of mix (fun a w => Try.call45 a w) (by kernel_rfl) (by rw [eq45]; exact h)
-- cmp.isNaN[int]
def S46 (v_x : Value) (Q : Value → World → Prop) (w : World) : Prop :=
 pur Try.prog (binS .neq 3 false false v_x v_x) fun t5 => 
 Q t5 w
theorem eq46 (v_x : Value) (Q : Value → World → Prop) (w : World) : semF Try.prog 46 [v_x] Q w = S46 v_x Q w := by kernel_rfl
theorem ref46 {v_x : Value} {Q : Value → World → Prop} {w : World} (h : S46 v_x Q w) : callS Try.prog 46 #[v_x] Q w :=
  callS_of mix (fun a w => Try.call46 a w) (by kernel_rfl) (by rw [eq46]; exact h)
-- slices.pdqsortCmpFunc[commons/imap.Part[int]]
def S47 (v_data v_a v_b v_limit v_cmp : Value) (Q : Value → World → Prop) (w : World) : Prop :=
 lp 5 (fun J => fun v_a_1 v_b_1 v_limit_1 v_wasBalanced v_wasPartitioned w_1 => ∀ _j : Fr, 
  pur Try.prog (binS .sub 3 false false v_b_1 v_a_1) fun t23 => 
  pur Try.prog (binS .leq 3 false true t23 (.int .i64 12)) fun t25 => 
  condS t25
   (callS Try.prog 64 #[v_data, v_a_1, v_b_1, v_cmp] (fun _ w_2 => 
   Q (.tuple #[]) w_2) w_1)
   (pur Try.prog (binS .eql 3 false true v_limit_1 (.int .i64 0)) fun t32 => 
  condS t32
   (callS Try.prog 65 #[v_data, v_a_1, v_b_1, v_cmp] (fun _ w_3 => 
   Q (.tuple #[]) w_3) w_1)
   (jn 1 (fun J_1 => 
   pur Try.prog (Op.unary .not v_wasBalanced) fun t39 => 
   condS t39
    (callS Try.prog 66 #[v_data, v_a_1, v_b_1, v_cmp] (fun _ w_4 => 
    pur Try.prog (binS .sub 3 false true v_limit_1 (.int .i64 1)) fun t46 => 
    J_1 t46 w_4) w_1)
    (J_1 v_limit_1 w_1))
  (fun v_limit_2 w_5 => ∀ _j : Fr, 
   callS Try.prog 67 #[v_data, v_a_1, v_b_1, v_cmp] (fun t52 w_6 => 
   pur Try.prog (Instr.extract t52 0) fun t53 => 
   pur Try.prog (Instr.extract t52 1) fun t54 => 
   jn 2 (fun J_2 => 
    pur Try.prog (binS .eql 89 false true t54 (.int .i64 2)) fun t56 => 
    condS t56
     (callS Try.prog 68 #[v_data, v_a_1, v_b_1, v_cmp] (fun _ w_7 => 
     pur Try.prog (binS .sub 3 false true v_b_1 (.int .i64 1)) fun t63 => 
     pur Try.prog (binS .sub 3 false false t53 v_a_1) fun t66 => 
     pur Try.prog (binS .sub 3 false false t63 t66) fun t67 => 
     J_2 t67 (.int .i64 1) w_7) w_6)
     (J_2 t53 t54 w_6))
   (fun v_pivot v_hint w_8 => ∀ _j : Fr, 
    jn 0 (fun J_3 => 
     gd v_wasBalanced true (fun k w_9 => k v_wasPartitioned w_9) (fun t70_1 w_10 => 
     pur Try.prog (pickS v_wasBalanced t70_1 (.bool false)) fun t71 => 
     gd t71 true (fun k_1 w_11 => k_1 v_hint w_11) (fun t73_1 w_12 => 
     gd t71 true (fun k_2 w_13 => pur Try.prog (binS .eql 89 false true t73_1 (.int .i64 1)) fun t74 => k_2 t74 w_13) (fun t74_1 w_14 => 
     pur Try.prog (pickS t71 t74_1 (.bool false)) fun t75 => 
     condS t75
      (callS Try.prog 69 #[v_data, v_a_1, v_b_1, v_cmp] (fun t80 w_15 => 
      condS t80
       (Q (.tuple #[]) w_15)
       (J_3  w_15)) w_14)
      (J_3  w_14)) w_12) w_10) w_8)
    (fun  w_16 => ∀ _j : Fr, 
     pur Try.prog (binS .gtr 3 false true v_a_1 (.int .i64 0)) fun t82 => 
     gd t82 true (fun k_3 w_17 => k_3 v_cmp w_17) (fun t84_1 w_18 => 
     gd t82 true (fun k_4 w_19 => k_4 v_data w_19) (fun t85_1 w_20 => 
     gd t82 true (fun k_5 w_21 => k_5 v_a_1 w_21) (fun t86_1 w_22 => 
     gd t82 true (fun k_6 w_23 => pur Try.prog (binS .sub 3 false true t86_1 (.int .i64 1)) fun t87 => k_6 t87 w_23) (fun t87_1 w_24 => 
     gd t82 true (fun k_7 w_25 => pur Try.prog (Instr.indexAt 43 t85_1 t87_1) fun t88 => k_7 t88 w_25) (fun t88_1 w_26 => 
     gd t82 true (fun k_8 w_27 => rd Try.prog (Instr.loadAt 46 t88_1) (fun t89 => k_8 t89 w_27) w_27) (fun t89_1 w_28 => 
     gd t82 true (fun k_9 w_29 => k_9 v_data w_29) (fun t90_1 w_30 => 
     gd t82 true (fun k_10 w_31 => k_10 v_pivot w_31) (fun t91_1 w_32 => 
     gd t82 true (fun k_11 w_33 => pur Try.prog (Instr.indexAt 43 t90_1 t91_1) fun t92 => k_11 t92 w_33) (fun t92_1 w_34 => 
     gd t82 true (fun k_12 w_35 => rd Try.prog (Instr.loadAt 46 t92_1) (fun t93 => k_12 t93 w_35) w_35) (fun t93_1 w_36 => 
     gd t82 true (fun k_13 w_37 => callF Try.prog t84_1 #[t89_1, t93_1] (fun t94 w_38 => k_13 t94 w_38) w_37) (fun t94_1 w_39 => 
     gd t82 true (fun k_14 w_40 => pur Try.prog (binS .lss 3 false true t94_1 (.int .i64 0)) fun t95 => k_14 t95 w_40) (fun t95_1 w_41 => 
     gd t82 true (fun k_15 w_42 => pur Try.prog (Op.unary .not t95_1) fun t96 => k_15 t96 w_42) (fun t96_1 w_43 => 
     pur Try.prog (pickS t82 t96_1 (.bool false)) fun t97 => 
     condS t97
      (callS Try.prog 70 #[v_data, v_a_1, v_b_1, v_pivot, v_cmp] (fun t103 w_44 => 
      J t103 v_b_1 v_limit_2 v_wasBalanced v_wasPartitioned w_44) w_43)
      (callS Try.prog 71 #[v_data, v_a_1, v_b_1, v_pivot, v_cmp] (fun t111 w_45 => 
     pur Try.prog (Instr.extract t111 0) fun t112 => 
     pur Try.prog (Instr.extract t111 1) fun t113 => 
     pur Try.prog (binS .sub 3 false false t112 v_a_1) fun t117 => 
     pur Try.prog (binS .sub 3 false false v_b_1 t112) fun t120 => 
     pur Try.prog (binS .quo 3 false true t23 (.int .i64 8)) fun t122 => 
     pur Try.prog (binS .lss 3 false false t117 t120) fun t125 => 
     condS t125
      (pur Try.prog (binS .geq 3 false false t117 t122) fun t128 => 
      callS Try.prog 47 #[v_data, v_a_1, t112, v_limit_2, v_cmp] (fun _ w_46 => 
      pur Try.prog (binS .add 3 false true t112 (.int .i64 1)) fun t136 => 
      J t136 v_b_1 v_limit_2 t128 t113 w_46) w_45)
      (pur Try.prog (binS .geq 3 false false t120 t122) fun t139 => 
      pur Try.prog (binS .add 3 false true t112 (.int .i64 1)) fun t142 => 
      callS Try.prog 47 #[v_data, t142, v_b_1, v_limit_2, v_cmp] (fun _ w_47 => 
      J v_a_1 t112 v_limit_2 t139 t113 w_47) w_45)) w_43)) w_41) w_39) w_36) w_34) w_32) w_30) w_28) w_26) w_24) w_22) w_20) w_18) (World.drew w_16)))) w_5)))) [v_a, v_b, v_limit, (.bool true), (.bool true)] w
theorem eq47 (v_data v_a v_b v_limit v_cmp : Value) (Q : Value → World → Prop) (w : World) : semF Try.prog 47 [v_data, v_a, v_b, v_limit, v_cmp] Q w = S47 v_data v_a v_b v_limit v_cmp Q w := by kernel_rfl
theorem ref47 {v_data v_a v_b v_limit v_cmp : Value} {Q : Value → World → Prop} {w : World} (h : S47 v_data v_a v_b v_limit v_cmp Q w) : callS Try.prog 47 #[v_data, v_a, v_b, v_limit, v_cmp] Q w :=
  callS_of mix (fun a w => Try.call47 a w) (by kernel_rfl) (by rw [eq47]; exact h)
-- slices.DeleteFunc[[]commons/api.Span,commons/api.Span]
def S48 (v_s v_del : Value) (Q : Value → World → Prop) (w : World) : Prop :=
 callS Try.prog 72 #[v_s, v_del] (fun t10 w_1 => 
 pur Try.prog (binS .eql 3 false true t10 (.int .i64 (-1))) fun t12 => 
 condS t12
  (Q v_s w_1)
  (pur Try.prog (binS .add 3 false true t10 (.int .i64 1)) fun t15 => 
 lp 2 (fun J => fun v_i v_j w_2 => ∀ _j : Fr, 
  pur Try.prog (Builtin.len_ #[49] 3 #[v_s]) fun t18 => 
  pur Try.prog (binS .lss 3 false false v_j t18) fun t19 => 
  condS t19
   (jn 1 (fun J_1 => 
   pur Try.prog (Instr.indexAt 49 v_s v_j) fun t24 => 
   rd Try.prog (Instr.loadAt 27 t24) (fun t25 => 
   act Try.prog (Instr.alloc 27 true (.tuple #[])) (fun t7 w_3 => 
   act Try.prog (thenU (Instr.storeAt 27 t7 t25)) (fun _ w_4 => 
   rd Try.prog (Instr.loadAt 27 t7) (fun t27 => 
   callF Try.prog v_del #[t27] (fun t28 w_5 => 
   pur Try.prog (Op.unary .not t28) fun t29 => 
   condS t29
    (rd Try.prog (Instr.loadAt 27 t7) (fun t32 => 
    pur Try.prog (Instr.indexAt 49 v_s v_i) fun t33 => 
    act Try.prog (thenU (Instr.storeAt 27 t33 t32)) (fun _ w_6 => 
    pur Try.prog (binS .add 3 false true v_i (.int .i64 1)) fun t35 => 
    J_1 t35 w_6) w_5) w_5)
    (J_1 v_i w_5)) w_4) w_4) w_3) w_2) w_2)
  (fun v_i_1 w_7 => ∀ _j : Fr, 
   pur Try.prog (binS .add 3 false true v_j (.int .i64 1)) fun t21 => 
   J v_i_1 t21 w_7))
   (pur Try.prog (Instr.sliceAt 49 v_s (some v_i) none none) fun t38 => 
 act Try.prog (Builtin.clear_ #[49] 0 #[t38]) (fun _ w_8 => 
 pur Try.prog (Instr.sliceAt 49 v_s none (some v_i) none) fun t41 => 
 Q t41 w_8) w_2)) [t10, t15] w_1)) w
theorem eq48 (v_s v_del : Value) (Q : Value → World → Prop) (w : World) : semF Try.prog 48 [v_s, v_del] Q w = S48 v_s v_del Q w := by kernel_rfl
theorem ref48 {v_s v_del : Value} {Q : Value → World → Prop} {w : World} (h : S48 v_s v_del Q w) : callS Try.prog 48 #[v_s, v_del] Q w :=
  callS_of mix (fun a w => Try.call48 a w) (by kernel_rfl) (by rw [eq48]; exact h)
-- slices.Clone[[]commons/api.Span,commons/api.Span]
def S49 (v_s : Value) (Q : Value → World → Prop) (w : World) : Prop :=
 rd Try.prog (binS .eql 49 false true v_s (.slice none 0 0)) (fun t4 => 
 condS t4
  (Q (.slice none 0 0) w)
  (act Try.prog (Instr.buildSlice 49 0 #[]) (fun t5 w_1 => 
 act Try.prog (Builtin.append_ #[49, 49] 49 #[t5, v_s]) (fun t7 w_2 => 
 Q t7 w_2) w_1) w)) w
theorem eq49 (v_s : Value) (Q : Value → World → Prop) (w : World) : semF Try.prog 49 [v_s] Q w = S49 v_s Q w := by kernel_rfl
theorem ref49 {v_s : Value} {Q : Value → World → Prop} {w : World} (h : S49 v_s Q w) : callS Try.prog 49 #[v_s] Q w :=
  callS_of mix (fun a w => Try.call49 a w) (by kernel_rfl) (by rw [eq49]; exact h)
-- commons/span.Norm$1
def S50 (v_s : Value) (Q : Value → World → Prop) (w : World) : Prop :=
 act Try.prog (Instr.box 27 v_s) (fun t1 w_1 => 
 rd Try.prog (Instr.loadAt 27 t1) (fun t3 => 
 callS Try.prog 28 #[t3] (fun t4 w_2 => 
 pur Try.prog (Op.unary .not t4) fun t5 => 
 Q t5 w_2) w_1) w_1) w
theorem eq50 (v_s : Value) (Q : Value → World → Prop) (w : World) : semF Try.prog 50 [v_s] Q w = S50 v_s Q w := by kernel_rfl
theorem ref50 {v_s : Value} {Q : Value → World → Prop} {w : World} (h : S50 v_s Q w) : callS Try.prog 50 #[v_s] Q w :=
  callS_of mix (fun a w => Try.call50 a w) (by kernel_rfl) (by rw [eq50]; exact h)
-- slices.SortFunc[[]commons/api.Span,commons/api.Span]
def S51 (v_x v_cmp : Value) (Q : Value → World → Prop) (w : World) : Prop :=
 pur Try.prog (Builtin.len_ #[49] 3 #[v_x]) fun t6 => 
 pur Try.prog (convert 3 80 t6) fun t10 => 
 callS Try.prog 45 #[t10] (fun t11 w_1 => 
 callS Try.prog 73 #[v_x, (.int .i64 0), t6, t11, v_cmp] (fun _ w_2 => 
 Q (.tuple #[]) w_2) w_1) w
theorem eq51 (v_x v_cmp : Value) (Q : Value → World → Prop) (w : World) : semF Try.prog 51 [v_x, v_cmp] Q w = S51 v_x v_cmp Q w := by kernel_rfl
theorem ref51 {v_x v_cmp : Value} {Q : Value → World → Prop} {w : World} (h : S51 v_x v_cmp Q w) : callS Try.prog 51 #[v_x, v_cmp] Q w :=
  callS_of mix (fun a w => Try.call51 a w) (by kernel_rfl) (by rw [eq51]; exact h)
-- commons/span.Norm$2
def S52 (v_a v_b : Value) (Q : Value → World → Prop) (w : World) : Prop :=
 act Try.prog (Instr.box 27 v_a) (fun t2 w_1 => 
 act Try.prog (Instr.box 27 v_b) (fun t3 w_2 => 
 ∃ S : World → Prop, S (World.drew w_2) ∧ 
 pur Try.prog (Instr.fieldAt 27 t2 0) fun t5 => 
 hld Try.prog S (Instr.loadAt 3 t5) fun t6 => 
 pur Try.prog (Instr.fieldAt 27 t3 0) fun t7 => 
 hld Try.prog S (Instr.loadAt 3 t7) fun t8 => 
 callS Try.prog 39 #[t6, t8] (fun t9 w_3 => S w_3 ∧ 
 pur Try.prog (Instr.fieldAt 27 t2 1) fun t10 => 
 hld Try.prog S (Instr.loadAt 3 t10) fun t11 => 
 pur Try.prog (Instr.fieldAt 27 t3 1) fun t12 => 
 hld Try.prog S (Instr.loadAt 3 t12) fun t13 => 
 callS Try.prog 39 #[t11, t13] (fun t14 w_4 => S w_4 ∧ 
 act Try.prog (Instr.buildSlice 106 2 #[(0, t9), (1, t14)]) (fun t15 w_5 => S w_5 ∧ 
 callS Try.prog 53 #[t15] (fun t16 w_6 => S w_6 ∧ 
 Q t16 w_6) w_5) w_4) w_3) (World.drew w_2)) w_1) w
theorem eq52 (v_a v_b : Value) (Q : Value → World → Prop) (w : World) : semF Try.prog 52 [v_a, v_b] Q w = S52 v_a v_b Q w := by kernel_rfl
theorem ref52 {v_a v_b : Value} {Q : Value → World → Prop} {w : World} (h : S52 v_a v_b Q w) : callS Try.prog 52 #[v_a, v_b] Q w :=
  callS_of mix (fun a w => Try.call52 a w) (by kernel_rfl) (by rw [eq52]; exact h)
-- cmp.Or[int]
def S53 (v_vals : Value) (Q : Value → World → Prop) (w : World) : Prop :=
 pur Try.prog (Builtin.len_ #[106] 3 #[v_vals]) fun t7 => 
 lp 1 (fun J => fun t8 w_1 => ∀ _j : Fr, 
  pur Try.prog (binS .lss 3 false false t8 t7) fun t9 => 
  condS t9
   (pur Try.prog (Instr.indexAt 106 v_vals t8) fun t10 => 
  rd Try.prog (Instr.loadAt 3 t10) (fun t11 => 
  pur Try.prog (binS .neq 3 false false t11 (.int .i64 0)) fun t14 => 
  condS t14
   (Q t11 w_1)
   (pur Try.prog (binS .add 3 false true t8 (.int .i64 1)) fun t16 => 
  J t16 w_1)) w_1)
   (Q (.int .i64 0) w_1)) [(.int .i64 0)] w
theorem eq53 (v_vals : Value) (Q : Value → World → Prop) (w : World) : semF Try.prog 53 [v_vals] Q w = S53 v_vals Q w := by kernel_rfl
theorem ref53 {v_vals : Value} {Q : Value → World → Prop} {w : World} (h : S53 v_vals Q w) : callS Try.prog 53 #[v_vals] Q w :=
  callS_of mix (fun a w => Try.call53 a w) (by kernel_rfl) (by rw [eq53]; exact h)
-- slices.insertionSortCmpFunc[commons/imap.Part[string]]
def S54 (v_data v_a v_b v_cmp : Value) (Q : Value → World → Prop) (w : World) : Prop :=
 pur Try.prog (binS .add 3 false true v_a (.int .i64 1)) fun t11 => 
 lp 1 (fun J => fun v_i w_1 => ∀ _j : Fr, 
  pur Try.prog (binS .lss 3 false false v_i v_b) fun t14 => 
  condS t14
   (lp 1 (fun J_1 => fun v_j w_2 => ∀ _j : Fr, 
   pur Try.prog (binS .gtr 3 false false v_j v_a) fun t20 => 
   gd t20 true (fun k w_3 => k v_cmp w_3) (fun t22_1 w_4 => 
   gd t20 true (fun k_1 w_5 => k_1 v_data w_5) (fun t23_1 w_6 => 
   gd t20 true (fun k_2 w_7 => k_2 v_j w_7) (fun t24_1 w_8 => 
   gd t20 true (fun k_3 w_9 => pur Try.prog (Instr.indexAt 35 t23_1 t24_1) fun t25 => k_3 t25 w_9) (fun t25_1 w_10 => 
   gd t20 true (fun k_4 w_11 => rd Try.prog (Instr.loadAt 38 t25_1) (fun t26 => k_4 t26 w_11) w_11) (fun t26_1 w_12 => 
   gd t20 true (fun k_5 w_13 => k_5 v_data w_13) (fun t27_1 w_14 => 
   gd t20 true (fun k_6 w_15 => k_6 v_j w_15) (fun t28_1 w_16 => 
   gd t20 true (fun k_7 w_17 => pur Try.prog (binS .sub 3 false true t28_1 (.int .i64 1)) fun t29 => k_7 t29 w_17) (fun t29_1 w_18 => 
   gd t20 true (fun k_8 w_19 => pur Try.prog (Instr.indexAt 35 t27_1 t29_1) fun t30 => k_8 t30 w_19) (fun t30_1 w_20 => 
   gd t20 true (fun k_9 w_21 => rd Try.prog (Instr.loadAt 38 t30_1) (fun t31 => k_9 t31 w_21) w_21) (fun t31_1 w_22 => 
   gd t20 true (fun k_10 w_23 => callF Try.prog t22_1 #[t26_1, t31_1] (fun t32 w_24 => k_10 t32 w_24) w_23) (fun t32_1 w_25 => 
   gd t20 true (fun k_11 w_26 => pur Try.prog (binS .lss 3 false true t32_1 (.int .i64 0)) fun t33 => k_11 t33 w_26) (fun t33_1 w_27 => 
   pur Try.prog (pickS t20 t33_1 (.bool false)) fun t34 => 
   condS t34
    (pur Try.prog (binS .sub 3 false true v_j (.int .i64 1)) fun t41 => 
   pur Try.prog (binS .sub 3 false true v_j (.int .i64 1)) fun t44 => 
   pur Try.prog (Instr.indexAt 35 v_data t44) fun t45 => 
   rd Try.prog (Instr.loadAt 38 t45) (fun t46 => 
   pur Try.prog (Instr.indexAt 35 v_data v_j) fun t49 => 
   rd Try.prog (Instr.loadAt 38 t49) (fun t50 => 
   pur Try.prog (Instr.indexAt 35 v_data v_j) fun t51 => 
   act Try.prog (thenU (Instr.storeAt 38 t51 t46)) (fun _ w_28 => 
   pur Try.prog (Instr.indexAt 35 v_data t41) fun t52 => 
   act Try.prog (thenU (Instr.storeAt 38 t52 t50)) (fun _ w_29 => 
   pur Try.prog (binS .sub 3 false true v_j (.int .i64 1)) fun t36 => 
   J_1 t36 w_29) w_28) (World.drew w_27)) (World.drew w_27)) (World.drew w_27))
    (pur Try.prog (binS .add 3 false true v_i (.int .i64 1)) fun t16 => 
  J t16 w_27)) w_25) w_22) w_20) w_18) w_16) w_14) w_12) w_10) w_8) w_6) w_4) (World.drew w_2)) [v_i] w_1)
   (Q (.tuple #[]) w_1)) [t11] w
theorem eq54 (v_data v_a v_b v_cmp : Value) (Q : Value → World → Prop) (w : World) : semF Try.prog 54 [v_data, v_a, v_b, v_cmp] Q w = S54 v_data v_a v_b v_cmp Q w := by kernel_rfl
theorem ref54 {v_data v_a v_b v_cmp : Value} {Q : Value → World → Prop} {w : World} (h : S54 v_data v_a v_b v_cmp Q w) : callS Try.prog 54 #[v_data, v_a, v_b, v_cmp] Q w :=
  callS_of mix (fun a w => Try.call54 a w) (by kernel_rfl) (by rw [eq54]; exact h)
-- slices.heapSortCmpFunc[commons/imap.Part[string]]
def S55 (v_data v_a v_b v_cmp : Value) (Q : Value → World → Prop) (w : World) : Prop :=
 pur Try.prog (binS .sub 3 false false v_b v_a) fun t16 => 
 pur Try.prog (binS .sub 3 false true t16 (.int .i64 1)) fun t18 => 
 pur Try.prog (binS .quo 3 false true t18 (.int .i64 2)) fun t19 => 
 lp 1 (fun J => fun v_i w_1 => ∀ _j : Fr, 
  pur Try.prog (binS .geq 3 false true v_i (.int .i64 0)) fun t21 => 
  condS t21
   (callS Try.prog 74 #[v_data, v_i, t16, v_a, v_cmp] (fun _ w_2 => 
  pur Try.prog (binS .sub 3 false true v_i (.int .i64 1)) fun t23 => 
  J t23 w_2) w_1)
   (pur Try.prog (binS .sub 3 false true t16 (.int .i64 1)) fun t31 => 
 lp 1 (fun J_1 => fun v_i_1 w_3 => ∀ _j : Fr, 
  pur Try.prog (binS .geq 3 false true v_i_1 (.int .i64 0)) fun t33 => 
  condS t33
   (pur Try.prog (binS .add 3 false false v_a v_i_1) fun t41 => 
  pur Try.prog (binS .add 3 false false v_a v_i_1) fun t45 => 
  pur Try.prog (Instr.indexAt 35 v_data t45) fun t46 => 
  rd Try.prog (Instr.loadAt 38 t46) (fun t47 => 
  pur Try.prog (Instr.indexAt 35 v_data v_a) fun t50 => 
  rd Try.prog (Instr.loadAt 38 t50) (fun t51 => 
  pur Try.prog (Instr.indexAt 35 v_data v_a) fun t52 => 
  act Try.prog (thenU (Instr.storeAt 38 t52 t47)) (fun _ w_4 => 
  pur Try.prog (Instr.indexAt 35 v_data t41) fun t53 => 
  act Try.prog (thenU (Instr.storeAt 38 t53 t51)) (fun _ w_5 => 
  callS Try.prog 74 #[v_data, (.int .i64 0), v_i_1, v_a, v_cmp] (fun _ w_6 => 
  pur Try.prog (binS .sub 3 false true v_i_1 (.int .i64 1)) fun t35 => 
  J_1 t35 w_6) w_5) w_4) (World.drew w_3)) (World.drew w_3)) (World.drew w_3))
   (Q (.tuple #[]) w_3)) [t31] w_1)) [t19] w
theorem eq55 (v_data v_a v_b v_cmp : Value) (Q : Value → World → Prop) (w : World) : semF Try.prog 55 [v_data, v_a, v_b, v_cmp] Q w = S55 v_data v_a v_b v_cmp Q w := by kernel_rfl
theorem ref55 {v_data v_a v_b v_cmp : Value} {Q : Value → World → Prop} {w : World} (h : S55 v_data v_a v_b v_cmp Q w) : callS Try.prog 55 #[v_data, v_a, v_b, v_cmp] Q w :=
  callS_of mix (fun a w => Try.call55 a w) (by kernel_rfl) (by rw [eq55]; exact h)
-- slices.breakPatternsCmpFunc[commons/imap.Part[string]]
def S56 (v_data v_a v_b _ : Value) (Q : Value → World → Prop) (w : World) : Prop :=
 pur Try.prog (binS .sub 3 false false v_b v_a) fun t15 => 
 pur Try.prog (binS .geq 3 false true t15 (.int .i64 8)) fun t17 => 
 condS t17
  (pur Try.prog (convert 3 107 t15) fun t19 => 
  act Try.prog (Instr.alloc 107 true (.tuple #[])) (fun t9 w_1 => 
  act Try.prog (thenU (Instr.storeAt 107 t9 t19)) (fun _ w_2 => 
  callS Try.prog 75 #[t15] (fun t21 w_3 => 
  pur Try.prog (binS .quo 3 false true t15 (.int .i64 4)) fun t24 => 
  pur Try.prog (binS .mul 3 false true t24 (.int .i64 2)) fun t25 => 
  pur Try.prog (binS .add 3 false false v_a t25) fun t26 => 
  pur Try.prog (binS .sub 3 false true t26 (.int .i64 1)) fun t27 => 
  lp 1 (fun J => fun v_idx w_4 => ∀ _j : Fr, 
   pur Try.prog (binS .quo 3 false true t15 (.int .i64 4)) fun t31 => 
   pur Try.prog (binS .mul 3 false true t31 (.int .i64 2)) fun t32 => 
   pur Try.prog (binS .add 3 false false v_a t32) fun t33 => 
   pur Try.prog (binS .add 3 false true t33 (.int .i64 1)) fun t34 => 
   pur Try.prog (binS .leq 3 false false v_idx t34) fun t35 => 
   condS t35
    (callS Try.prog 76 #[t9] (fun t38 w_5 => 
   pur Try.prog (binS .sub 80 false true t21 (.int .u64 1)) fun t40 => 
   pur Try.prog (binS .and 80 false false t38 t40) fun t41 => 
   pur Try.prog (convert 80 3 t41) fun t42 => 
   jn 1 (fun J_1 => 
    pur Try.prog (binS .geq 3 false false t42 t15) fun t45 => 
    condS t45
     (pur Try.prog (binS .sub 3 false false t42 t15) fun t48 => 
     J_1 t48 w_5)
     (J_1 t42 w_5))
   (fun v_other w_6 => ∀ _j : Fr, 
    pur Try.prog (binS .add 3 false false v_a v_other) fun t54 => 
    pur Try.prog (binS .add 3 false false v_a v_other) fun t58 => 
    pur Try.prog (Instr.indexAt 35 v_data t58) fun t59 => 
    rd Try.prog (Instr.loadAt 38 t59) (fun t60 => 
    pur Try.prog (Instr.indexAt 35 v_data v_idx) fun t63 => 
    rd Try.prog (Instr.loadAt 38 t63) (fun t64 => 
    pur Try.prog (Instr.indexAt 35 v_data v_idx) fun t65 => 
    act Try.prog (thenU (Instr.storeAt 38 t65 t60)) (fun _ w_7 => 
    pur Try.prog (Instr.indexAt 35 v_data t54) fun t66 => 
    act Try.prog (thenU (Instr.storeAt 38 t66 t64)) (fun _ w_8 => 
    pur Try.prog (binS .add 3 false true v_idx (.int .i64 1)) fun t37 => 
   J t37 w_8) w_7) (World.drew w_6)) (World.drew w_6)) (World.drew w_6))) w_4)
    (Q (.tuple #[]) w_4)) [t27] w_3) w_2) w_1) w)
  (Q (.tuple #[]) w)
theorem eq56 (v_data v_a v_b v_cmp : Value) (Q : Value → World → Prop) (w : World) : semF Try.prog 56 [v_data, v_a, v_b, v_cmp] Q w = S56 v_data v_a v_b v_cmp Q w := by kernel_rfl
theorem ref56 {v_data v_a v_b v_cmp : Value} {Q : Value → World → Prop} {w : World} (h : S56 v_data v_a v_b v_cmp Q w) : callS Try.prog 56 #[v_data, v_a, v_b, v_cmp] Q w :=
  callS_of mix (fun a w => Try.call56 a w) (by kernel_rfl) (by rw [eq56]; exact h)
-- slices.choosePivotCmpFunc[commons/imap.Part[string]]
def S57 (v_data v_a v_b v_cmp : Value) (Q : Value → World → Prop) (w : World) : Prop :=
 pur Try.prog (binS .sub 3 false false v_b v_a) fun t17 => 
 act Try.prog (Instr.alloc 3 true (.tuple #[])) (fun t11 w_1 => 
 pur Try.prog (binS .quo 3 false true t17 (.int .i64 4)) fun t20 => 
 pur Try.prog (binS .mul 3 false true t20 (.int .i64 1)) fun t21 => 
 pur Try.prog (binS .add 3 false false v_a t21) fun t22 => 
 pur Try.prog (binS .quo 3 false true t17 (.int .i64 4)) fun t25 => 
 pur Try.prog (binS .mul 3 false true t25 (.int .i64 2)) fun t26 => 
 pur Try.prog (binS .add 3 false false v_a t26) fun t27 => 
 pur Try.prog (binS .quo 3 false true t17 (.int .i64 4)) fun t30 => 
 pur Try.prog (binS .mul 3 false true t30 (.int .i64 3)) fun t31 => 
 pur Try.prog (binS .add 3 false false v_a t31) fun t32 => 
 jn 1 (fun J => 
  pur Try.prog (binS .geq 3 false true t17 (.int .i64 8)) fun t34 => 
  condS t34
   (jn 3 (fun J_1 => 
    pur Try.prog (binS .geq 3 false true t17 (.int .i64 50)) fun t36 => 
    condS t36
     (callS Try.prog 77 #[v_data, t22, t11, v_cmp] (fun t40 w_2 => 
     callS Try.prog 77 #[v_data, t27, t11, v_cmp] (fun t44 w_3 => 
     callS Try.prog 77 #[v_data, t32, t11, v_cmp] (fun t48 w_4 => 
     J_1 t40 t44 t48 w_4) w_3) w_2) w_1)
     (J_1 t22 t27 t32 w_1))
   (fun v_i v_j v_k w_5 => ∀ _j : Fr, 
    callS Try.prog 78 #[v_data, v_i, v_j, v_k, t11, v_cmp] (fun t54 w_6 => 
    J t54 w_6) w_5))
   (J t27 w_1))
 (fun v_j_1 w_7 => ∀ _j : Fr, 
  rd Try.prog (Instr.loadAt 3 t11) (fun t55 => 
  pur Try.prog (binS .eql 3 false true t55 (.int .i64 0)) fun t58 => 
  condS t58
   (Q (.tuple #[v_j_1, (.int .i64 1)]) w_7)
   (pur Try.prog (binS .eql 3 false true t55 (.int .i64 12)) fun t61 => 
   condS t61
    (Q (.tuple #[v_j_1, (.int .i64 2)]) w_7)
    (Q (.tuple #[v_j_1, (.int .i64 0)]) w_7))) w_7)) w
theorem eq57 (v_data v_a v_b v_cmp : Value) (Q : Value → World → Prop) (w : World) : semF Try.prog 57 [v_data, v_a, v_b, v_cmp] Q w = S57 v_data v_a v_b v_cmp Q w := by kernel_rfl
theorem ref57 {v_data v_a v_b v_cmp : Value} {Q : Value → World → Prop} {w : World} (h : S57 v_data v_a v_b v_cmp Q w) : callS Try.prog 57 #[v_data, v_a, v_b, v_cmp] Q w :=
  callS_of mix (fun a w => Try.call57 a w) (by kernel_rfl) (by rw [eq57]; exact h)
-- slices.reverseRangeCmpFunc[commons/imap.Part[string]]
def S58 (v_data v_a v_b _ : Value) (Q : Value → World → Prop) (w : World) : Prop :=
 pur Try.prog (binS .sub 3 false true v_b (.int .i64 1)) fun t12 => 
 lp 2 (fun J => fun v_i v_j w_1 => ∀ _j : Fr, 
  pur Try.prog (binS .lss 3 false false v_i v_j) fun t15 => 
  condS t15
   (pur Try.prog (Instr.indexAt 35 v_data v_j) fun t22 => 
  rd Try.prog (Instr.loadAt 38 t22) (fun t23 => 
  pur Try.prog (Instr.indexAt 35 v_data v_i) fun t26 => 
  rd Try.prog (Instr.loadAt 38 t26) (fun t27 => 
  pur Try.prog (Instr.indexAt 35 v_data v_i) fun t28 => 
  act Try.prog (thenU (Instr.storeAt 38 t28 t23)) (fun _ w_2 => 
  pur Try.prog (Instr.indexAt 35 v_data v_j) fun t29 => 
  act Try.prog (thenU (Instr.storeAt 38 t29 t27)) (fun _ w_3 => 
  pur Try.prog (binS .add 3 false true v_i (.int .i64 1)) fun t31 => 
  pur Try.prog (binS .sub 3 false true v_j (.int .i64 1)) fun t33 => 
  J t31 t33 w_3) w_2) (World.drew w_1)) (World.drew w_1)) (World.drew w_1))
   (Q (.tuple #[]) w_1)) [v_a, t12] w
theorem eq58 (v_data v_a v_b v_cmp : Value) (Q : Value → World → Prop) (w : World) : semF Try.prog 58 [v_data, v_a, v_b, v_cmp] Q w = S58 v_data v_a v_b v_cmp Q w := by kernel_rfl
theorem ref58 {v_data v_a v_b v_cmp : Value} {Q : Value → World → Prop} {w : World} (h : S58 v_data v_a v_b v_cmp Q w) : callS Try.prog 58 #[v_data, v_a, v_b, v_cmp] Q w :=
  callS_of mix (fun a w => Try.call58 a w) (by kernel_rfl) (by rw [eq58]; exact h)
-- slices.partialInsertionSortCmpFunc[commons/imap.Part[string]]
def S59 (v_data v_a v_b v_cmp : Value) (Q : Value → World → Prop) (w : World) : Prop :=
 pur Try.prog (binS .add 3 false true v_a (.int .i64 1)) fun t14 => 
 lp 2 (fun J => fun v_i v_j w_1 => ∀ _j : Fr, 
  pur Try.prog (binS .lss 3 false true v_j (.int .i64 5)) fun t16 => 
  condS t16
   (jn 1 (fun J_1 => 
   lp 1 (fun J_2 => fun v_i_1 w_2 => ∀ _j : Fr, 
    pur Try.prog (binS .lss 3 false false v_i_1 v_b) fun t21 => 
    gd t21 true (fun k w_3 => k v_cmp w_3) (fun t23_1 w_4 => 
    gd t21 true (fun k_1 w_5 => k_1 v_data w_5) (fun t24_1 w_6 => 
    gd t21 true (fun k_2 w_7 => k_2 v_i_1 w_7) (fun t25_1 w_8 => 
    gd t21 true (fun k_3 w_9 => pur Try.prog (Instr.indexAt 35 t24_1 t25_1) fun t26 => k_3 t26 w_9) (fun t26_1 w_10 => 
    gd t21 true (fun k_4 w_11 => rd Try.prog (Instr.loadAt 38 t26_1) (fun t27 => k_4 t27 w_11) w_11) (fun t27_1 w_12 => 
    gd t21 true (fun k_5 w_13 => k_5 v_data w_13) (fun t28_1 w_14 => 
    gd t21 true (fun k_6 w_15 => k_6 v_i_1 w_15) (fun t29_1 w_16 => 
    gd t21 true (fun k_7 w_17 => pur Try.prog (binS .sub 3 false true t29_1 (.int .i64 1)) fun t30 => k_7 t30 w_17) (fun t30_1 w_18 => 
    gd t21 true (fun k_8 w_19 => pur Try.prog (Instr.indexAt 35 t28_1 t30_1) fun t31 => k_8 t31 w_19) (fun t31_1 w_20 => 
    gd t21 true (fun k_9 w_21 => rd Try.prog (Instr.loadAt 38 t31_1) (fun t32 => k_9 t32 w_21) w_21) (fun t32_1 w_22 => 
    gd t21 true (fun k_10 w_23 => callF Try.prog t23_1 #[t27_1, t32_1] (fun t33 w_24 => k_10 t33 w_24) w_23) (fun t33_1 w_25 => 
    gd t21 true (fun k_11 w_26 => pur Try.prog (binS .lss 3 false true t33_1 (.int .i64 0)) fun t34 => k_11 t34 w_26) (fun t34_1 w_27 => 
    gd t21 true (fun k_12 w_28 => pur Try.prog (Op.unary .not t34_1) fun t35 => k_12 t35 w_28) (fun t35_1 w_29 => 
    pur Try.prog (pickS t21 t35_1 (.bool false)) fun t36 => 
    condS t36
     (pur Try.prog (binS .add 3 false true v_i_1 (.int .i64 1)) fun t38 => 
    J_2 t38 w_29)
     (pur Try.prog (binS .eql 3 false false v_i_1 v_b) fun t41 => 
   condS t41
    (Q (.bool true) w_29)
    (pur Try.prog (binS .sub 3 false false v_b v_a) fun t44 => 
   pur Try.prog (binS .lss 3 false true t44 (.int .i64 50)) fun t45 => 
   condS t45
    (Q (.bool false) w_29)
    (pur Try.prog (binS .sub 3 false true v_i_1 (.int .i64 1)) fun t50 => 
   pur Try.prog (binS .sub 3 false true v_i_1 (.int .i64 1)) fun t53 => 
   pur Try.prog (Instr.indexAt 35 v_data t53) fun t54 => 
   rd Try.prog (Instr.loadAt 38 t54) (fun t55 => 
   pur Try.prog (Instr.indexAt 35 v_data v_i_1) fun t58 => 
   rd Try.prog (Instr.loadAt 38 t58) (fun t59 => 
   pur Try.prog (Instr.indexAt 35 v_data v_i_1) fun t60 => 
   act Try.prog (thenU (Instr.storeAt 38 t60 t55)) (fun _ w_30 => 
   pur Try.prog (Instr.indexAt 35 v_data t50) fun t61 => 
   act Try.prog (thenU (Instr.storeAt 38 t61 t59)) (fun _ w_31 => 
   jn 0 (fun J_3 => 
    pur Try.prog (binS .sub 3 false false v_i_1 v_a) fun t64 => 
    pur Try.prog (binS .geq 3 false true t64 (.int .i64 2)) fun t65 => 
    condS t65
     (pur Try.prog (binS .sub 3 false true v_i_1 (.int .i64 1)) fun t67 => 
     lp 1 (fun J_4 => fun v_j_1 w_32 => ∀ _j : Fr, 
      pur Try.prog (binS .geq 3 false true v_j_1 (.int .i64 1)) fun t69 => 
      condS t69
       (pur Try.prog (Instr.indexAt 35 v_data v_j_1) fun t75 => 
      rd Try.prog (Instr.loadAt 38 t75) (fun t76 => 
      pur Try.prog (binS .sub 3 false true v_j_1 (.int .i64 1)) fun t79 => 
      pur Try.prog (Instr.indexAt 35 v_data t79) fun t80 => 
      rd Try.prog (Instr.loadAt 38 t80) (fun t81 => 
      callF Try.prog v_cmp #[t76, t81] (fun t82 w_33 => 
      pur Try.prog (binS .lss 3 false true t82 (.int .i64 0)) fun t83 => 
      pur Try.prog (Op.unary .not t83) fun t84 => 
      condS t84
       (J_3  w_33)
       (pur Try.prog (binS .sub 3 false true v_j_1 (.int .i64 1)) fun t89 => 
      pur Try.prog (binS .sub 3 false true v_j_1 (.int .i64 1)) fun t92 => 
      pur Try.prog (Instr.indexAt 35 v_data t92) fun t93 => 
      rd Try.prog (Instr.loadAt 38 t93) (fun t94 => 
      pur Try.prog (Instr.indexAt 35 v_data v_j_1) fun t97 => 
      rd Try.prog (Instr.loadAt 38 t97) (fun t98 => 
      pur Try.prog (Instr.indexAt 35 v_data v_j_1) fun t99 => 
      act Try.prog (thenU (Instr.storeAt 38 t99 t94)) (fun _ w_34 => 
      pur Try.prog (Instr.indexAt 35 v_data t89) fun t100 => 
      act Try.prog (thenU (Instr.storeAt 38 t100 t98)) (fun _ w_35 => 
      pur Try.prog (binS .sub 3 false true v_j_1 (.int .i64 1)) fun t71 => 
      J_4 t71 w_35) w_34) (World.drew w_33)) (World.drew w_33)) (World.drew w_33))) (World.drew w_32)) (World.drew w_32)) (World.drew w_32))
       (J_3  w_32)) [t67] w_31)
     (J_3  w_31))
   (fun  w_36 => ∀ _j : Fr, 
    pur Try.prog (binS .sub 3 false false v_b v_i_1) fun t103 => 
    pur Try.prog (binS .geq 3 false true t103 (.int .i64 2)) fun t104 => 
    condS t104
     (pur Try.prog (binS .add 3 false true v_i_1 (.int .i64 1)) fun t106 => 
     lp 1 (fun J_5 => fun v_j_2 w_37 => ∀ _j : Fr, 
      pur Try.prog (binS .lss 3 false false v_j_2 v_b) fun t109 => 
      condS t109
       (pur Try.prog (Instr.indexAt 35 v_data v_j_2) fun t115 => 
      rd Try.prog (Instr.loadAt 38 t115) (fun t116 => 
      pur Try.prog (binS .sub 3 false true v_j_2 (.int .i64 1)) fun t119 => 
      pur Try.prog (Instr.indexAt 35 v_data t119) fun t120 => 
      rd Try.prog (Instr.loadAt 38 t120) (fun t121 => 
      callF Try.prog v_cmp #[t116, t121] (fun t122 w_38 => 
      pur Try.prog (binS .lss 3 false true t122 (.int .i64 0)) fun t123 => 
      pur Try.prog (Op.unary .not t123) fun t124 => 
      condS t124
       (J_1 v_i_1 w_38)
       (pur Try.prog (binS .sub 3 false true v_j_2 (.int .i64 1)) fun t129 => 
      pur Try.prog (binS .sub 3 false true v_j_2 (.int .i64 1)) fun t132 => 
      pur Try.prog (Instr.indexAt 35 v_data t132) fun t133 => 
      rd Try.prog (Instr.loadAt 38 t133) (fun t134 => 
      pur Try.prog (Instr.indexAt 35 v_data v_j_2) fun t137 => 
      rd Try.prog (Instr.loadAt 38 t137) (fun t138 => 
      pur Try.prog (Instr.indexAt 35 v_data v_j_2) fun t139 => 
      act Try.prog (thenU (Instr.storeAt 38 t139 t134)) (fun _ w_39 => 
      pur Try.prog (Instr.indexAt 35 v_data t129) fun t140 => 
      act Try.prog (thenU (Instr.storeAt 38 t140 t138)) (fun _ w_40 => 
      pur Try.prog (binS .add 3 false true v_j_2 (.int .i64 1)) fun t111 => 
      J_5 t111 w_40) w_39) (World.drew w_38)) (World.drew w_38)) (World.drew w_38))) (World.drew w_37)) (World.drew w_37)) (World.drew w_37))
       (J_1 v_i_1 w_37)) [t106] w_36)
     (J_1 v_i_1 w_36))) w_30) (World.drew w_29)) (World.drew w_29)) (World.drew w_29))))) w_27) w_25) w_22) w_20) w_18) w_16) w_14) w_12) w_10) w_8) w_6) w_4) (World.drew w_2)) [v_i] w_1)
  (fun v_i_2 w_41 => ∀ _j : Fr, 
   pur Try.prog (binS .add 3 false true v_j (.int .i64 1)) fun t18 => 
   J v_i_2 t18 w_41))
   (Q (.bool false) w_1)) [t14, (.int .i64 0)] w
theorem eq59 (v_data v_a v_b v_cmp : Value) (Q : Value → World → Prop) (w : World) : semF Try.prog 59 [v_data, v_a, v_b, v_cmp] Q w = S59 v_data v_a v_b v_cmp Q w := by kernel_rfl
theorem ref59 {v_data v_a v_b v_cmp : Value} {Q : Value → World → Prop} {w : World} (h : S59 v_data v_a v_b v_cmp Q w) : callS Try.prog 59 #[v_data, v_a, v_b, v_cmp] Q w :=
  callS_of mix (fun a w => Try.call59 a w) (by kernel_rfl) (by rw [eq59]; exact h)
-- slices.partitionEqualCmpFunc[commons/imap.Part[string]]
def S60 (v_data v_a v_b v_pivot v_cmp : Value) (Q : Value → World → Prop) (w : World) : Prop :=
 pur Try.prog (Instr.indexAt 35 v_data v_pivot) fun t19 => 
 rd Try.prog (Instr.loadAt 38 t19) (fun t20 => 
 pur Try.prog (Instr.indexAt 35 v_data v_a) fun t23 => 
 rd Try.prog (Instr.loadAt 38 t23) (fun t24 => 
 pur Try.prog (Instr.indexAt 35 v_data v_a) fun t25 => 
 act Try.prog (thenU (Instr.storeAt 38 t25 t20)) (fun _ w_1 => 
 pur Try.prog (Instr.indexAt 35 v_data v_pivot) fun t26 => 
 act Try.prog (thenU (Instr.storeAt 38 t26 t24)) (fun _ w_2 => 
 pur Try.prog (binS .add 3 false true v_a (.int .i64 1)) fun t28 => 
 pur Try.prog (binS .sub 3 false true v_b (.int .i64 1)) fun t30 => 
 lp 2 (fun J => fun v_i v_j w_3 => ∀ _j : Fr, 
  lp 1 (fun J_1 => fun v_i_1 w_4 => ∀ _j : Fr, 
   pur Try.prog (binS .leq 3 false false v_i_1 v_j) fun t33 => 
   gd t33 true (fun k w_5 => k v_cmp w_5) (fun t35_1 w_6 => 
   gd t33 true (fun k_1 w_7 => k_1 v_data w_7) (fun t36_1 w_8 => 
   gd t33 true (fun k_2 w_9 => k_2 v_a w_9) (fun t37_1 w_10 => 
   gd t33 true (fun k_3 w_11 => pur Try.prog (Instr.indexAt 35 t36_1 t37_1) fun t38 => k_3 t38 w_11) (fun t38_1 w_12 => 
   gd t33 true (fun k_4 w_13 => rd Try.prog (Instr.loadAt 38 t38_1) (fun t39 => k_4 t39 w_13) w_13) (fun t39_1 w_14 => 
   gd t33 true (fun k_5 w_15 => k_5 v_data w_15) (fun t40_1 w_16 => 
   gd t33 true (fun k_6 w_17 => k_6 v_i_1 w_17) (fun t41_1 w_18 => 
   gd t33 true (fun k_7 w_19 => pur Try.prog (Instr.indexAt 35 t40_1 t41_1) fun t42 => k_7 t42 w_19) (fun t42_1 w_20 => 
   gd t33 true (fun k_8 w_21 => rd Try.prog (Instr.loadAt 38 t42_1) (fun t43 => k_8 t43 w_21) w_21) (fun t43_1 w_22 => 
   gd t33 true (fun k_9 w_23 => callF Try.prog t35_1 #[t39_1, t43_1] (fun t44 w_24 => k_9 t44 w_24) w_23) (fun t44_1 w_25 => 
   gd t33 true (fun k_10 w_26 => pur Try.prog (binS .lss 3 false true t44_1 (.int .i64 0)) fun t45 => k_10 t45 w_26) (fun t45_1 w_27 => 
   gd t33 true (fun k_11 w_28 => pur Try.prog (Op.unary .not t45_1) fun t46 => k_11 t46 w_28) (fun t46_1 w_29 => 
   pur Try.prog (pickS t33 t46_1 (.bool false)) fun t47 => 
   condS t47
    (pur Try.prog (binS .add 3 false true v_i_1 (.int .i64 1)) fun t49 => 
   J_1 t49 w_29)
    (lp 1 (fun J_2 => fun v_j_1 w_30 => ∀ _j : Fr, 
   pur Try.prog (binS .leq 3 false false v_i_1 v_j_1) fun t52 => 
   gd t52 true (fun k_12 w_31 => k_12 v_cmp w_31) (fun t54_1 w_32 => 
   gd t52 true (fun k_13 w_33 => k_13 v_data w_33) (fun t55_1 w_34 => 
   gd t52 true (fun k_14 w_35 => k_14 v_a w_35) (fun t56_1 w_36 => 
   gd t52 true (fun k_15 w_37 => pur Try.prog (Instr.indexAt 35 t55_1 t56_1) fun t57 => k_15 t57 w_37) (fun t57_1 w_38 => 
   gd t52 true (fun k_16 w_39 => rd Try.prog (Instr.loadAt 38 t57_1) (fun t58 => k_16 t58 w_39) w_39) (fun t58_1 w_40 => 
   gd t52 true (fun k_17 w_41 => k_17 v_data w_41) (fun t59_1 w_42 => 
   gd t52 true (fun k_18 w_43 => k_18 v_j_1 w_43) (fun t60_1 w_44 => 
   gd t52 true (fun k_19 w_45 => pur Try.prog (Instr.indexAt 35 t59_1 t60_1) fun t61 => k_19 t61 w_45) (fun t61_1 w_46 => 
   gd t52 true (fun k_20 w_47 => rd Try.prog (Instr.loadAt 38 t61_1) (fun t62 => k_20 t62 w_47) w_47) (fun t62_1 w_48 => 
   gd t52 true (fun k_21 w_49 => callF Try.prog t54_1 #[t58_1, t62_1] (fun t63 w_50 => k_21 t63 w_50) w_49) (fun t63_1 w_51 => 
   gd t52 true (fun k_22 w_52 => pur Try.prog (binS .lss 3 false true t63_1 (.int .i64 0)) fun t64 => k_22 t64 w_52) (fun t64_1 w_53 => 
   pur Try.prog (pickS t52 t64_1 (.bool false)) fun t65 => 
   condS t65
    (pur Try.prog (binS .sub 3 false true v_j_1 (.int .i64 1)) fun t67 => 
   J_2 t67 w_53)
    (pur Try.prog (binS .gtr 3 false false v_i_1 v_j_1) fun t70 => 
  condS t70
   (Q v_i_1 w_53)
   (pur Try.prog (Instr.indexAt 35 v_data v_j_1) fun t77 => 
  rd Try.prog (Instr.loadAt 38 t77) (fun t78 => 
  pur Try.prog (Instr.indexAt 35 v_data v_i_1) fun t81 => 
  rd Try.prog (Instr.loadAt 38 t81) (fun t82 => 
  pur Try.prog (Instr.indexAt 35 v_data v_i_1) fun t83 => 
  act Try.prog (thenU (Instr.storeAt 38 t83 t78)) (fun _ w_54 => 
  pur Try.prog (Instr.indexAt 35 v_data v_j_1) fun t84 => 
  act Try.prog (thenU (Instr.storeAt 38 t84 t82)) (fun _ w_55 => 
  pur Try.prog (binS .add 3 false true v_i_1 (.int .i64 1)) fun t86 => 
  pur Try.prog (binS .sub 3 false true v_j_1 (.int .i64 1)) fun t88 => 
  J t86 t88 w_55) w_54) (World.drew w_53)) (World.drew w_53)) (World.drew w_53)))) w_51) w_48) w_46) w_44) w_42) w_40) w_38) w_36) w_34) w_32) (World.drew w_30)) [v_j] w_29)) w_27) w_25) w_22) w_20) w_18) w_16) w_14) w_12) w_10) w_8) w_6) (World.drew w_4)) [v_i] w_3) [t28, t30] w_2) w_1) (World.drew w)) (World.drew w)) (World.drew w)
theorem eq60 (v_data v_a v_b v_pivot v_cmp : Value) (Q : Value → World → Prop) (w : World) : semF Try.prog 60 [v_data, v_a, v_b, v_pivot, v_cmp] Q w = S60 v_data v_a v_b v_pivot v_cmp Q w := by kernel_rfl
theorem ref60 {v_data v_a v_b v_pivot v_cmp : Value} {Q : Value → World → Prop} {w : World} (h : S60 v_data v_a v_b v_pivot v_cmp Q w) : callS Try.prog 60 #[v_data, v_a, v_b, v_pivot, v_cmp] Q w :=
  callS_of mix (fun a w => Try.call60 a w) (by kernel_rfl) (by rw [eq60]; exact h)
-- slices.partitionCmpFunc[commons/imap.Part[string]]
def S61 (v_data v_a v_b v_pivot v_cmp : Value) (Q : Value → World → Prop) (w : World) : Prop :=
 pur Try.prog (Instr.indexAt 35 v_data v_pivot) fun t20 => 
 rd Try.prog (Instr.loadAt 38 t20) (fun t21 => 
 pur Try.prog (Instr.indexAt 35 v_data v_a) fun t24 => 
 rd Try.prog (Instr.loadAt 38 t24) (fun t25 => 
 pur Try.prog (Instr.indexAt 35 v_data v_a) fun t26 => 
 act Try.prog (thenU (Instr.storeAt 38 t26 t21)) (fun _ w_1 => 
 pur Try.prog (Instr.indexAt 35 v_data v_pivot) fun t27 => 
 act Try.prog (thenU (Instr.storeAt 38 t27 t25)) (fun _ w_2 => 
 pur Try.prog (binS .add 3 false true v_a (.int .i64 1)) fun t29 => 
 pur Try.prog (binS .sub 3 false true v_b (.int .i64 1)) fun t31 => 
 lp 1 (fun J => fun v_i w_3 => ∀ _j : Fr, 
  pur Try.prog (binS .leq 3 false false v_i t31) fun t34 => 
  gd t34 true (fun k w_4 => k v_cmp w_4) (fun t36_1 w_5 => 
  gd t34 true (fun k_1 w_6 => k_1 v_data w_6) (fun t37_1 w_7 => 
  gd t34 true (fun k_2 w_8 => k_2 v_i w_8) (fun t38_1 w_9 => 
  gd t34 true (fun k_3 w_10 => pur Try.prog (Instr.indexAt 35 t37_1 t38_1) fun t39 => k_3 t39 w_10) (fun t39_1 w_11 => 
  gd t34 true (fun k_4 w_12 => rd Try.prog (Instr.loadAt 38 t39_1) (fun t40 => k_4 t40 w_12) w_12) (fun t40_1 w_13 => 
  gd t34 true (fun k_5 w_14 => k_5 v_data w_14) (fun t41_1 w_15 => 
  gd t34 true (fun k_6 w_16 => k_6 v_a w_16) (fun t42_1 w_17 => 
  gd t34 true (fun k_7 w_18 => pur Try.prog (Instr.indexAt 35 t41_1 t42_1) fun t43 => k_7 t43 w_18) (fun t43_1 w_19 => 
  gd t34 true (fun k_8 w_20 => rd Try.prog (Instr.loadAt 38 t43_1) (fun t44 => k_8 t44 w_20) w_20) (fun t44_1 w_21 => 
  gd t34 true (fun k_9 w_22 => callF Try.prog t36_1 #[t40_1, t44_1] (fun t45 w_23 => k_9 t45 w_23) w_22) (fun t45_1 w_24 => 
  gd t34 true (fun k_10 w_25 => pur Try.prog (binS .lss 3 false true t45_1 (.int .i64 0)) fun t46 => k_10 t46 w_25) (fun t46_1 w_26 => 
  pur Try.prog (pickS t34 t46_1 (.bool false)) fun t47 => 
  condS t47
   (pur Try.prog (binS .add 3 false true v_i (.int .i64 1)) fun t49 => 
  J t49 w_26)
   (lp 1 (fun J_1 => fun v_j w_27 => ∀ _j : Fr, 
  pur Try.prog (binS .leq 3 false false v_i v_j) fun t52 => 
  gd t52 true (fun k_11 w_28 => k_11 v_cmp w_28) (fun t54_1 w_29 => 
  gd t52 true (fun k_12 w_30 => k_12 v_data w_30) (fun t55_1 w_31 => 
  gd t52 true (fun k_13 w_32 => k_13 v_j w_32) (fun t56_1 w_33 => 
  gd t52 true (fun k_14 w_34 => pur Try.prog (Instr.indexAt 35 t55_1 t56_1) fun t57 => k_14 t57 w_34) (fun t57_1 w_35 => 
  gd t52 true (fun k_15 w_36 => rd Try.prog (Instr.loadAt 38 t57_1) (fun t58 => k_15 t58 w_36) w_36) (fun t58_1 w_37 => 
  gd t52 true (fun k_16 w_38 => k_16 v_data w_38) (fun t59_1 w_39 => 
  gd t52 true (fun k_17 w_40 => k_17 v_a w_40) (fun t60_1 w_41 => 
  gd t52 true (fun k_18 w_42 => pur Try.prog (Instr.indexAt 35 t59_1 t60_1) fun t61 => k_18 t61 w_42) (fun t61_1 w_43 => 
  gd t52 true (fun k_19 w_44 => rd Try.prog (Instr.loadAt 38 t61_1) (fun t62 => k_19 t62 w_44) w_44) (fun t62_1 w_45 => 
  gd t52 true (fun k_20 w_46 => callF Try.prog t54_1 #[t58_1, t62_1] (fun t63 w_47 => k_20 t63 w_47) w_46) (fun t63_1 w_48 => 
  gd t52 true (fun k_21 w_49 => pur Try.prog (binS .lss 3 false true t63_1 (.int .i64 0)) fun t64 => k_21 t64 w_49) (fun t64_1 w_50 => 
  gd t52 true (fun k_22 w_51 => pur Try.prog (Op.unary .not t64_1) fun t65 => k_22 t65 w_51) (fun t65_1 w_52 => 
  pur Try.prog (pickS t52 t65_1 (.bool false)) fun t66 => 
  condS t66
   (pur Try.prog (binS .sub 3 false true v_j (.int .i64 1)) fun t68 => 
  J_1 t68 w_52)
   (pur Try.prog (binS .gtr 3 false false v_i v_j) fun t71 => 
 condS t71
  (pur Try.prog (Instr.indexAt 35 v_data v_a) fun t78 => 
  rd Try.prog (Instr.loadAt 38 t78) (fun t79 => 
  pur Try.prog (Instr.indexAt 35 v_data v_j) fun t82 => 
  rd Try.prog (Instr.loadAt 38 t82) (fun t83 => 
  pur Try.prog (Instr.indexAt 35 v_data v_j) fun t84 => 
  act Try.prog (thenU (Instr.storeAt 38 t84 t79)) (fun _ w_53 => 
  pur Try.prog (Instr.indexAt 35 v_data v_a) fun t85 => 
  act Try.prog (thenU (Instr.storeAt 38 t85 t83)) (fun _ w_54 => 
  Q (.tuple #[v_j, (.bool true)]) w_54) w_53) (World.drew w_52)) (World.drew w_52)) (World.drew w_52))
  (pur Try.prog (Instr.indexAt 35 v_data v_j) fun t93 => 
 rd Try.prog (Instr.loadAt 38 t93) (fun t94 => 
 pur Try.prog (Instr.indexAt 35 v_data v_i) fun t97 => 
 rd Try.prog (Instr.loadAt 38 t97) (fun t98 => 
 pur Try.prog (Instr.indexAt 35 v_data v_i) fun t99 => 
 act Try.prog (thenU (Instr.storeAt 38 t99 t94)) (fun _ w_55 => 
 pur Try.prog (Instr.indexAt 35 v_data v_j) fun t100 => 
 act Try.prog (thenU (Instr.storeAt 38 t100 t98)) (fun _ w_56 => 
 pur Try.prog (binS .add 3 false true v_i (.int .i64 1)) fun t102 => 
 pur Try.prog (binS .sub 3 false true v_j (.int .i64 1)) fun t104 => 
 lp 2 (fun J_2 => fun v_i_1 v_j_1 w_57 => ∀ _j : Fr, 
  lp 1 (fun J_3 => fun v_i_2 w_58 => ∀ _j : Fr, 
   pur Try.prog (binS .leq 3 false false v_i_2 v_j_1) fun t107 => 
   gd t107 true (fun k_23 w_59 => k_23 v_cmp w_59) (fun t109_1 w_60 => 
   gd t107 true (fun k_24 w_61 => k_24 v_data w_61) (fun t110_1 w_62 => 
   gd t107 true (fun k_25 w_63 => k_25 v_i_2 w_63) (fun t111_1 w_64 => 
   gd t107 true (fun k_26 w_65 => pur Try.prog (Instr.indexAt 35 t110_1 t111_1) fun t112 => k_26 t112 w_65) (fun t112_1 w_66 => 
   gd t107 true (fun k_27 w_67 => rd Try.prog (Instr.loadAt 38 t112_1) (fun t113 => k_27 t113 w_67) w_67) (fun t113_1 w_68 => 
   gd t107 true (fun k_28 w_69 => k_28 v_data w_69) (fun t114_1 w_70 => 
   gd t107 true (fun k_29 w_71 => k_29 v_a w_71) (fun t115_1 w_72 => 
   gd t107 true (fun k_30 w_73 => pur Try.prog (Instr.indexAt 35 t114_1 t115_1) fun t116 => k_30 t116 w_73) (fun t116_1 w_74 => 
   gd t107 true (fun k_31 w_75 => rd Try.prog (Instr.loadAt 38 t116_1) (fun t117 => k_31 t117 w_75) w_75) (fun t117_1 w_76 => 
   gd t107 true (fun k_32 w_77 => callF Try.prog t109_1 #[t113_1, t117_1] (fun t118 w_78 => k_32 t118 w_78) w_77) (fun t118_1 w_79 => 
   gd t107 true (fun k_33 w_80 => pur Try.prog (binS .lss 3 false true t118_1 (.int .i64 0)) fun t119 => k_33 t119 w_80) (fun t119_1 w_81 => 
   pur Try.prog (pickS t107 t119_1 (.bool false)) fun t120 => 
   condS t120
    (pur Try.prog (binS .add 3 false true v_i_2 (.int .i64 1)) fun t122 => 
   J_3 t122 w_81)
    (lp 1 (fun J_4 => fun v_j_2 w_82 => ∀ _j : Fr, 
   pur Try.prog (binS .leq 3 false false v_i_2 v_j_2) fun t125 => 
   gd t125 true (fun k_34 w_83 => k_34 v_cmp w_83) (fun t127_1 w_84 => 
   gd t125 true (fun k_35 w_85 => k_35 v_data w_85) (fun t128_1 w_86 => 
   gd t125 true (fun k_36 w_87 => k_36 v_j_2 w_87) (fun t129_1 w_88 => 
   gd t125 true (fun k_37 w_89 => pur Try.prog (Instr.indexAt 35 t128_1 t129_1) fun t130 => k_37 t130 w_89) (fun t130_1 w_90 => 
   gd t125 true (fun k_38 w_91 => rd Try.prog (Instr.loadAt 38 t130_1) (fun t131 => k_38 t131 w_91) w_91) (fun t131_1 w_92 => 
   gd t125 true (fun k_39 w_93 => k_39 v_data w_93) (fun t132_1 w_94 => 
   gd t125 true (fun k_40 w_95 => k_40 v_a w_95) (fun t133_1 w_96 => 
   gd t125 true (fun k_41 w_97 => pur Try.prog (Instr.indexAt 35 t132_1 t133_1) fun t134 => k_41 t134 w_97) (fun t134_1 w_98 => 
   gd t125 true (fun k_42 w_99 => rd Try.prog (Instr.loadAt 38 t134_1) (fun t135 => k_42 t135 w_99) w_99) (fun t135_1 w_100 => 
   gd t125 true (fun k_43 w_101 => callF Try.prog t127_1 #[t131_1, t135_1] (fun t136 w_102 => k_43 t136 w_102) w_101) (fun t136_1 w_103 => 
   gd t125 true (fun k_44 w_104 => pur Try.prog (binS .lss 3 false true t136_1 (.int .i64 0)) fun t137 => k_44 t137 w_104) (fun t137_1 w_105 => 
   gd t125 true (fun k_45 w_106 => pur Try.prog (Op.unary .not t137_1) fun t138 => k_45 t138 w_106) (fun t138_1 w_107 => 
   pur Try.prog (pickS t125 t138_1 (.bool false)) fun t139 => 
   condS t139
    (pur Try.prog (binS .sub 3 false true v_j_2 (.int .i64 1)) fun t141 => 
   J_4 t141 w_107)
    (pur Try.prog (binS .gtr 3 false false v_i_2 v_j_2) fun t144 => 
  condS t144
   (pur Try.prog (Instr.indexAt 35 v_data v_a) fun t169 => 
 rd Try.prog (Instr.loadAt 38 t169) (fun t170 => 
 pur Try.prog (Instr.indexAt 35 v_data v_j_2) fun t173 => 
 rd Try.prog (Instr.loadAt 38 t173) (fun t174 => 
 pur Try.prog (Instr.indexAt 35 v_data v_j_2) fun t175 => 
 act Try.prog (thenU (Instr.storeAt 38 t175 t170)) (fun _ w_108 => 
 pur Try.prog (Instr.indexAt 35 v_data v_a) fun t176 => 
 act Try.prog (thenU (Instr.storeAt 38 t176 t174)) (fun _ w_109 => 
 Q (.tuple #[v_j_2, (.bool false)]) w_109) w_108) (World.drew w_107)) (World.drew w_107)) (World.drew w_107))
   (pur Try.prog (Instr.indexAt 35 v_data v_j_2) fun t151 => 
  rd Try.prog (Instr.loadAt 38 t151) (fun t152 => 
  pur Try.prog (Instr.indexAt 35 v_data v_i_2) fun t155 => 
  rd Try.prog (Instr.loadAt 38 t155) (fun t156 => 
  pur Try.prog (Instr.indexAt 35 v_data v_i_2) fun t157 => 
  act Try.prog (thenU (Instr.storeAt 38 t157 t152)) (fun _ w_110 => 
  pur Try.prog (Instr.indexAt 35 v_data v_j_2) fun t158 => 
  act Try.prog (thenU (Instr.storeAt 38 t158 t156)) (fun _ w_111 => 
  pur Try.prog (binS .add 3 false true v_i_2 (.int .i64 1)) fun t160 => 
  pur Try.prog (binS .sub 3 false true v_j_2 (.int .i64 1)) fun t162 => 
  J_2 t160 t162 w_111) w_110) (World.drew w_107)) (World.drew w_107)) (World.drew w_107)))) w_105) w_103) w_100) w_98) w_96) w_94) w_92) w_90) w_88) w_86) w_84) (World.drew w_82)) [v_j_1] w_81)) w_79) w_76) w_74) w_72) w_70) w_68) w_66) w_64) w_62) w_60) (World.drew w_58)) [v_i_1] w_57) [t102, t104] w_56) w_55) (World.drew w_52)) (World.drew w_52)) (World.drew w_52)))) w_50) w_48) w_45) w_43) w_41) w_39) w_37) w_35) w_33) w_31) w_29) (World.drew w_27)) [t31] w_26)) w_24) w_21) w_19) w_17) w_15) w_13) w_11) w_9) w_7) w_5) (World.drew w_3)) [t29] w_2) w_1) (World.drew w)) (World.drew w)) (World.drew w)
theorem eq61 (v_data v_a v_b v_pivot v_cmp : Value) (Q : Value → World → Prop) (w : World) : semF Try.prog 61 [v_data, v_a, v_b, v_pivot, v_cmp] Q w = S61 v_data v_a v_b v_pivot v_cmp Q w := by kernel_rfl
theorem ref61 {v_data v_a v_b v_pivot v_cmp : Value} {Q : Value → World → Prop} {w : World} (h : S61 v_data v_a v_b v_pivot v_cmp Q w) : callS Try.prog 61 #[v_data, v_a, v_b, v_pivot, v_cmp] Q w :=
  callS_of mix (fun a w => Try.call61 a w) (by kernel_rfl) (by rw [eq61]; exact h)
-- math/bits.Len32
def S62 (v_x : Value) (Q : Value → World → Prop) (w : World) : Prop :=
 jn 2 (fun J => 
  pur Try.prog (binS .geq 96 false true v_x (.int .u32 65536)) fun t4 => 
  condS t4
   (pur Try.prog (binS .shr 96 false true v_x (.int .u64 16)) fun t6 => 
   J t6 (.int .i64 16) w)
   (J v_x (.int .i64 0) w))
 (fun v_x_1 v_n w_1 => ∀ _j : Fr, 
  jn 2 (fun J_1 => 
   pur Try.prog (binS .geq 96 false true v_x_1 (.int .u32 256)) fun t8 => 
   condS t8
    (pur Try.prog (binS .shr 96 false true v_x_1 (.int .u64 8)) fun t10 => 
    pur Try.prog (binS .add 3 false true v_n (.int .i64 8)) fun t12 => 
    J_1 t10 t12 w_1)
    (J_1 v_x_1 v_n w_1))
  (fun v_x_2 v_n_1 w_2 => ∀ _j : Fr, 
   pur Try.prog (convert 96 5 v_x_2) fun t15 => 
   pur Try.prog (Instr.index 9 (.string ⟨#[0, 1, 2, 2, 3, 3, 3, 3, 4, 4, 4, 4, 4, 4, 4, 4, 5, 5, 5, 5, 5, 5, 5, 5, 5, 5, 5, 5, 5, 5, 5, 5, 6, 6, 6, 6, 6, 6, 6, 6, 6, 6, 6, 6, 6, 6, 6, 6, 6, 6, 6, 6, 6, 6, 6, 6, 6, 6, 6, 6, 6, 6, 6, 6, 7, 7, 7, 7, 7, 7, 7, 7, 7, 7, 7, 7, 7, 7, 7, 7, 7, 7, 7, 7, 7, 7, 7, 7, 7, 7, 7, 7, 7, 7, 7, 7, 7, 7, 7, 7, 7, 7, 7, 7, 7, 7, 7, 7, 7, 7, 7, 7, 7, 7, 7, 7, 7, 7, 7, 7, 7, 7, 7, 7, 7, 7, 7, 7, 8, 8, 8, 8, 8, 8, 8, 8, 8, 8, 8, 8, 8, 8, 8, 8, 8, 8, 8, 8, 8, 8, 8, 8, 8, 8, 8, 8, 8, 8, 8, 8, 8, 8, 8, 8, 8, 8, 8, 8, 8, 8, 8, 8, 8, 8, 8, 8, 8, 8, 8, 8, 8, 8, 8, 8, 8, 8, 8, 8, 8, 8, 8, 8, 8, 8, 8, 8, 8, 8, 8, 8, 8, 8, 8, 8, 8, 8, 8, 8, 8, 8, 8, 8, 8, 8, 8, 8, 8, 8, 8, 8, 8, 8, 8, 8, 8, 8, 8, 8, 8, 8, 8, 8, 8, 8, 8, 8, 8, 8, 8, 8, 8, 8, 8, 8, 8, 8, 8, 8, 8, 8, 8, 8, 8, 8, 8, 8]⟩) t15) fun t16 => 
   pur Try.prog (convert 5 3 t16) fun t17 => 
   pur Try.prog (binS .add 3 false false v_n_1 t17) fun t18 => 
   Q t18 w_2))
theorem eq62 (v_x : Value) (Q : Value → World → Prop) (w : World) : semF Try.prog 62 [v_x] Q w = S62 v_x Q w := by kernel_rfl
theorem ref62 {v_x : Value} {Q : Value → World → Prop} {w : World} (h : S62 v_x Q w) : callS Try.prog 62 #[v_x] Q w :=
  callS_of mix (fun a w => Try.call62 a w) (by kernel_rfl) (by rw [eq62]; exact h)
-- math/bits.Len64
def S63 (v_x : Value) (Q : Value → World → Prop) (w : World) : Prop :=
 jn 2 (fun J => 
  pur Try.prog (binS .geq 98 false true v_x (.int .u64 4294967296)) fun t4 => 
  condS t4
   (pur Try.prog (binS .shr 98 false true v_x (.int .u64 32)) fun t6 => 
   J t6 (.int .i64 32) w)
   (J v_x (.int .i64 0) w))
 (fun v_x_1 v_n w_1 => ∀ _j : Fr, 
  jn 2 (fun J_1 => 
   pur Try.prog (binS .geq 98 false true v_x_1 (.int .u64 65536)) fun t8 => 
   condS t8
    (pur Try.prog (binS .shr 98 false true v_x_1 (.int .u64 16)) fun t10 => 
    pur Try.prog (binS .add 3 false true v_n (.int .i64 16)) fun t12 => 
    J_1 t10 t12 w_1)
    (J_1 v_x_1 v_n w_1))
  (fun v_x_2 v_n_1 w_2 => ∀ _j : Fr, 
   jn 2 (fun J_2 => 
    pur Try.prog (binS .geq 98 false true v_x_2 (.int .u64 256)) fun t14 => 
    condS t14
     (pur Try.prog (binS .shr 98 false true v_x_2 (.int .u64 8)) fun t16 => 
     pur Try.prog (binS .add 3 false true v_n_1 (.int .i64 8)) fun t18 => 
     J_2 t16 t18 w_2)
     (J_2 v_x_2 v_n_1 w_2))
   (fun v_x_3 v_n_2 w_3 => ∀ _j : Fr, 
    pur Try.prog (convert 98 5 v_x_3) fun t21 => 
    pur Try.prog (Instr.index 9 (.string ⟨#[0, 1, 2, 2, 3, 3, 3, 3, 4, 4, 4, 4, 4, 4, 4, 4, 5, 5, 5, 5, 5, 5, 5, 5, 5, 5, 5, 5, 5, 5, 5, 5, 6, 6, 6, 6, 6, 6, 6, 6, 6, 6, 6, 6, 6, 6, 6, 6, 6, 6, 6, 6, 6, 6, 6, 6, 6, 6, 6, 6, 6, 6, 6, 6, 7, 7, 7, 7, 7, 7, 7, 7, 7, 7, 7, 7, 7, 7, 7, 7, 7, 7, 7, 7, 7, 7, 7, 7, 7, 7, 7, 7, 7, 7, 7, 7, 7, 7, 7, 7, 7, 7, 7, 7, 7, 7, 7, 7, 7, 7, 7, 7, 7, 7, 7, 7, 7, 7, 7, 7, 7, 7, 7, 7, 7, 7, 7, 7, 8, 8, 8, 8, 8, 8, 8, 8, 8, 8, 8, 8, 8, 8, 8, 8, 8, 8, 8, 8, 8, 8, 8, 8, 8, 8, 8, 8, 8, 8, 8, 8, 8, 8, 8, 8, 8, 8, 8, 8, 8, 8, 8, 8, 8, 8, 8, 8, 8, 8, 8, 8, 8, 8, 8, 8, 8, 8, 8, 8, 8, 8, 8, 8, 8, 8, 8, 8, 8, 8, 8, 8, 8, 8, 8, 8, 8, 8, 8, 8, 8, 8, 8, 8, 8, 8, 8, 8, 8, 8, 8, 8, 8, 8, 8, 8, 8, 8, 8, 8, 8, 8, 8, 8, 8, 8, 8, 8, 8, 8, 8, 8, 8, 8, 8, 8, 8, 8, 8, 8, 8, 8, 8, 8, 8, 8, 8, 8]⟩) t21) fun t22 => 
    pur Try.prog (convert 5 3 t22) fun t23 => 
    pur Try.prog (binS .add 3 false false v_n_2 t23) fun t24 => 
    Q t24 w_3)))
theorem eq63 (v_x : Value) (Q : Value → World → Prop) (w : World) : semF Try.prog 63 [v_x] Q w = S63 v_x Q w := by kernel_rfl
theorem ref63 {v_x : Value} {Q : Value → World → Prop} {w : World} (h : S63 v_x Q w) : callS Try.prog 63 #[v_x] Q w :=
  callS_of mix (fun a w => Try.call63 a w) (by kernel_rfl) (by rw [eq63]; exact h)
-- slices.insertionSortCmpFunc[commons/imap.Part[int]]
def S64 (v_data v_a v_b v_cmp : Value) (Q : Value → World → Prop) (w : World) : Prop :=
 pur Try.prog (binS .add 3 false true v_a (.int .i64 1)) fun t11 => 
 lp 1 (fun J => fun v_i w_1 => ∀ _j : Fr, 
  pur Try.prog (binS .lss 3 false false v_i v_b) fun t14 => 
  condS t14
   (lp 1 (fun J_1 => fun v_j w_2 => ∀ _j : Fr, 
   pur Try.prog (binS .gtr 3 false false v_j v_a) fun t20 => 
   gd t20 true (fun k w_3 => k v_cmp w_3) (fun t22_1 w_4 => 
   gd t20 true (fun k_1 w_5 => k_1 v_data w_5) (fun t23_1 w_6 => 
   gd t20 true (fun k_2 w_7 => k_2 v_j w_7) (fun t24_1 w_8 => 
   gd t20 true (fun k_3 w_9 => pur Try.prog (Instr.indexAt 43 t23_1 t24_1) fun t25 => k_3 t25 w_9) (fun t25_1 w_10 => 
   gd t20 true (fun k_4 w_11 => rd Try.prog (Instr.loadAt 46 t25_1) (fun t26 => k_4 t26 w_11) w_11) (fun t26_1 w_12 => 
   gd t20 true (fun k_5 w_13 => k_5 v_data w_13) (fun t27_1 w_14 => 
   gd t20 true (fun k_6 w_15 => k_6 v_j w_15) (fun t28_1 w_16 => 
   gd t20 true (fun k_7 w_17 => pur Try.prog (binS .sub 3 false true t28_1 (.int .i64 1)) fun t29 => k_7 t29 w_17) (fun t29_1 w_18 => 
   gd t20 true (fun k_8 w_19 => pur Try.prog (Instr.indexAt 43 t27_1 t29_1) fun t30 => k_8 t30 w_19) (fun t30_1 w_20 => 
   gd t20 true (fun k_9 w_21 => rd Try.prog (Instr.loadAt 46 t30_1) (fun t31 => k_9 t31 w_21) w_21) (fun t31_1 w_22 => 
   gd t20 true (fun k_10 w_23 => callF Try.prog t22_1 #[t26_1, t31_1] (fun t32 w_24 => k_10 t32 w_24) w_23) (fun t32_1 w_25 => 
   gd t20 true (fun k_11 w_26 => pur Try.prog (binS .lss 3 false true t32_1 (.int .i64 0)) fun t33 => k_11 t33 w_26) (fun t33_1 w_27 => 
   pur Try.prog (pickS t20 t33_1 (.bool false)) fun t34 => 
   condS t34
    (pur Try.prog (binS .sub 3 false true v_j (.int .i64 1)) fun t41 => 
   pur Try.prog (binS .sub 3 false true v_j (.int .i64 1)) fun t44 => 
   pur Try.prog (Instr.indexAt 43 v_data t44) fun t45 => 
   rd Try.prog (Instr.loadAt 46 t45) (fun t46 => 
   pur Try.prog (Instr.indexAt 43 v_data v_j) fun t49 => 
   rd Try.prog (Instr.loadAt 46 t49) (fun t50 => 
   pur Try.prog (Instr.indexAt 43 v_data v_j) fun t51 => 
   act Try.prog (thenU (Instr.storeAt 46 t51 t46)) (fun _ w_28 => 
   pur Try.prog (Instr.indexAt 43 v_data t41) fun t52 => 
   act Try.prog (thenU (Instr.storeAt 46 t52 t50)) (fun _ w_29 => 
   pur Try.prog (binS .sub 3 false true v_j (.int .i64 1)) fun t36 => 
   J_1 t36 w_29) w_28) (World.drew w_27)) (World.drew w_27)) (World.drew w_27))
    (pur Try.prog (binS .add 3 false true v_i (.int .i64 1)) fun t16 => 
  J t16 w_27)) w_25) w_22) w_20) w_18) w_16) w_14) w_12) w_10) w_8) w_6) w_4) (World.drew w_2)) [v_i] w_1)
   (Q (.tuple #[]) w_1)) [t11] w
theorem eq64 (v_data v_a v_b v_cmp : Value) (Q : Value → World → Prop) (w : World) : semF Try.prog 64 [v_data, v_a, v_b, v_cmp] Q w = S64 v_data v_a v_b v_cmp Q w := by kernel_rfl
theorem ref64 {v_data v_a v_b v_cmp : Value} {Q : Value → World → Prop} {w : World} (h : S64 v_data v_a v_b v_cmp Q w) : callS Try.prog 64 #[v_data, v_a, v_b, v_cmp] Q w :=
  callS_of mix (fun a w => Try.call64 a w) (by kernel_rfl) (by rw [eq64]; exact h)
-- slices.heapSortCmpFunc[commons/imap.Part[int]]
def S65 (v_data v_a v_b v_cmp : Value) (Q : Value → World → Prop) (w : World) : Prop :=
 pur Try.prog (binS .sub 3 false false v_b v_a) fun t16 => 
 pur Try.prog (binS .sub 3 false true t16 (.int .i64 1)) fun t18 => 
 pur Try.prog (binS .quo 3 false true t18 (.int .i64 2)) fun t19 => 
 lp 1 (fun J => fun v_i w_1 => ∀ _j : Fr, 
  pur Try.prog (binS .geq 3 false true v_i (.int .i64 0)) fun t21 => 
  condS t21
   (callS Try.prog 79 #[v_data, v_i, t16, v_a, v_cmp] (fun _ w_2 => 
  pur Try.prog (binS .sub 3 false true v_i (.int .i64 1)) fun t23 => 
  J t23 w_2) w_1)
   (pur Try.prog (binS .sub 3 false true t16 (.int .i64 1)) fun t31 => 
 lp 1 (fun J_1 => fun v_i_1 w_3 => ∀ _j : Fr, 
  pur Try.prog (binS .geq 3 false true v_i_1 (.int .i64 0)) fun t33 => 
  condS t33
   (pur Try.prog (binS .add 3 false false v_a v_i_1) fun t41 => 
  pur Try.prog (binS .add 3 false false v_a v_i_1) fun t45 => 
  pur Try.prog (Instr.indexAt 43 v_data t45) fun t46 => 
  rd Try.prog (Instr.loadAt 46 t46) (fun t47 => 
  pur Try.prog (Instr.indexAt 43 v_data v_a) fun t50 => 
  rd Try.prog (Instr.loadAt 46 t50) (fun t51 => 
  pur Try.prog (Instr.indexAt 43 v_data v_a) fun t52 => 
  act Try.prog (thenU (Instr.storeAt 46 t52 t47)) (fun _ w_4 => 
  pur Try.prog (Instr.indexAt 43 v_data t41) fun t53 => 
  act Try.prog (thenU (Instr.storeAt 46 t53 t51)) (fun _ w_5 => 
  callS Try.prog 79 #[v_data, (.int .i64 0), v_i_1, v_a, v_cmp] (fun _ w_6 => 
  pur Try.prog (binS .sub 3 false true v_i_1 (.int .i64 1)) fun t35 => 
  J_1 t35 w_6) w_5) w_4) (World.drew w_3)) (World.drew w_3)) (World.drew w_3))
   (Q (.tuple #[]) w_3)) [t31] w_1)) [t19] w
theorem eq65 (v_data v_a v_b v_cmp : Value) (Q : Value → World → Prop) (w : World) : semF Try.prog 65 [v_data, v_a, v_b, v_cmp] Q w = S65 v_data v_a v_b v_cmp Q w := by kernel_rfl
theorem ref65 {v_data v_a v_b v_cmp : Value} {Q : Value → World → Prop} {w : World} (h : S65 v_data v_a v_b v_cmp Q w) : callS Try.prog 65 #[v_data, v_a, v_b, v_cmp] Q w :=
  callS_of mix (fun a w => Try.call65 a w) (by kernel_rfl) (by rw [eq65]; exact h)
-- slices.breakPatternsCmpFunc[commons/imap.Part[int]]
def S66 (v_data v_a v_b _ : Value) (Q : Value → World → Prop) (w : World) : Prop :=
 pur Try.prog (binS .sub 3 false false v_b v_a) fun t15 => 
 pur Try.prog (binS .geq 3 false true t15 (.int .i64 8)) fun t17 => 
 condS t17
  (pur Try.prog (convert 3 107 t15) fun t19 => 
  act Try.prog (Instr.alloc 107 true (.tuple #[])) (fun t9 w_1 => 
  act Try.prog (thenU (Instr.storeAt 107 t9 t19)) (fun _ w_2 => 
  callS Try.prog 75 #[t15] (fun t21 w_3 => 
  pur Try.prog (binS .quo 3 false true t15 (.int .i64 4)) fun t24 => 
  pur Try.prog (binS .mul 3 false true t24 (.int .i64 2)) fun t25 => 
  pur Try.prog (binS .add 3 false false v_a t25) fun t26 => 
  pur Try.prog (binS .sub 3 false true t26 (.int .i64 1)) fun t27 => 
  lp 1 (fun J => fun v_idx w_4 => ∀ _j : Fr, 
   pur Try.prog (binS .quo 3 false true t15 (.int .i64 4)) fun t31 => 
   pur Try.prog (binS .mul 3 false true t31 (.int .i64 2)) fun t32 => 
   pur Try.prog (binS .add 3 false false v_a t32) fun t33 => 
   pur Try.prog (binS .add 3 false true t33 (.int .i64 1)) fun t34 => 
   pur Try.prog (binS .leq 3 false false v_idx t34) fun t35 => 
   condS t35
    (callS Try.prog 76 #[t9] (fun t38 w_5 => 
   pur Try.prog (binS .sub 80 false true t21 (.int .u64 1)) fun t40 => 
   pur Try.prog (binS .and 80 false false t38 t40) fun t41 => 
   pur Try.prog (convert 80 3 t41) fun t42 => 
   jn 1 (fun J_1 => 
    pur Try.prog (binS .geq 3 false false t42 t15) fun t45 => 
    condS t45
     (pur Try.prog (binS .sub 3 false false t42 t15) fun t48 => 
     J_1 t48 w_5)
     (J_1 t42 w_5))
   (fun v_other w_6 => ∀ _j : Fr, 
    pur Try.prog (binS .add 3 false false v_a v_other) fun t54 => 
    pur Try.prog (binS .add 3 false false v_a v_other) fun t58 => 
    pur Try.prog (Instr.indexAt 43 v_data t58) fun t59 => 
    rd Try.prog (Instr.loadAt 46 t59) (fun t60 => 
    pur Try.prog (Instr.indexAt 43 v_data v_idx) fun t63 => 
    rd Try.prog (Instr.loadAt 46 t63) (fun t64 => 
    pur Try.prog (Instr.indexAt 43 v_data v_idx) fun t65 => 
    act Try.prog (thenU (Instr.storeAt 46 t65 t60)) (fun _ w_7 => 
    pur Try.prog (Instr.indexAt 43 v_data t54) fun t66 => 
    act Try.prog (thenU (Instr.storeAt 46 t66 t64)) (fun _ w_8 => 
    pur Try.prog (binS .add 3 false true v_idx (.int .i64 1)) fun t37 => 
   J t37 w_8) w_7) (World.drew w_6)) (World.drew w_6)) (World.drew w_6))) w_4)
    (Q (.tuple #[]) w_4)) [t27] w_3) w_2) w_1) w)
  (Q (.tuple #[]) w)
theorem eq66 (v_data v_a v_b v_cmp : Value) (Q : Value → World → Prop) (w : World) : semF Try.prog 66 [v_data, v_a, v_b, v_cmp] Q w = S66 v_data v_a v_b v_cmp Q w := by kernel_rfl
theorem ref66 {v_data v_a v_b v_cmp : Value} {Q : Value → World → Prop} {w : World} (h : S66 v_data v_a v_b v_cmp Q w) : callS Try.prog 66 #[v_data, v_a, v_b, v_cmp] Q w :=
  callS_of mix (fun a w => Try.call66 a w) (by kernel_rfl) (by rw [eq66]; exact h)
-- slices.choosePivotCmpFunc[commons/imap.Part[int]]
def S67 (v_data v_a v_b v_cmp : Value) (Q : Value → World → Prop) (w : World) : Prop :=
 pur Try.prog (binS .sub 3 false false v_b v_a) fun t17 => 
 act Try.prog (Instr.alloc 3 true (.tuple #[])) (fun t11 w_1 => 
 pur Try.prog (binS .quo 3 false true t17 (.int .i64 4)) fun t20 => 
 pur Try.prog (binS .mul 3 false true t20 (.int .i64 1)) fun t21 => 
 pur Try.prog (binS .add 3 false false v_a t21) fun t22 => 
 pur Try.prog (binS .quo 3 false true t17 (.int .i64 4)) fun t25 => 
 pur Try.prog (binS .mul 3 false true t25 (.int .i64 2)) fun t26 => 
 pur Try.prog (binS .add 3 false false v_a t26) fun t27 => 
 pur Try.prog (binS .quo 3 false true t17 (.int .i64 4)) fun t30 => 
 pur Try.prog (binS .mul 3 false true t30 (.int .i64 3)) fun t31 => 
 pur Try.prog (binS .add 3 false false v_a t31) fun t32 => 
 jn 1 (fun J => 
  pur Try.prog (binS .geq 3 false true t17 (.int .i64 8)) fun t34 => 
  condS t34
   (jn 3 (fun J_1 => 
    pur Try.prog (binS .geq 3 false true t17 (.int .i64 50)) fun t36 => 
    condS t36
     (callS Try.prog 80 #[v_data, t22, t11, v_cmp] (fun t40 w_2 => 
     callS Try.prog 80 #[v_data, t27, t11, v_cmp] (fun t44 w_3 => 
     callS Try.prog 80 #[v_data, t32, t11, v_cmp] (fun t48 w_4 => 
     J_1 t40 t44 t48 w_4) w_3) w_2) w_1)
     (J_1 t22 t27 t32 w_1))
   (fun v_i v_j v_k w_5 => ∀ _j : Fr, 
    callS Try.prog 81 #[v_data, v_i, v_j, v_k, t11, v_cmp] (fun t54 w_6 => 
    J t54 w_6) w_5))
   (J t27 w_1))
 (fun v_j_1 w_7 => ∀ _j : Fr, 
  rd Try.prog (Instr.loadAt 3 t11) (fun t55 => 
  pur Try.prog (binS .eql 3 false true t55 (.int .i64 0)) fun t58 => 
  condS t58
   (Q (.tuple #[v_j_1, (.int .i64 1)]) w_7)
   (pur Try.prog (binS .eql 3 false true t55 (.int .i64 12)) fun t61 => 
   condS t61
    (Q (.tuple #[v_j_1, (.int .i64 2)]) w_7)
    (Q (.tuple #[v_j_1, (.int .i64 0)]) w_7))) w_7)) w
theorem eq67 (v_data v_a v_b v_cmp : Value) (Q : Value → World → Prop) (w : World) : semF Try.prog 67 [v_data, v_a, v_b, v_cmp] Q w = S67 v_data v_a v_b v_cmp Q w := by kernel_rfl
theorem ref67 {v_data v_a v_b v_cmp : Value} {Q : Value → World → Prop} {w : World} (h : S67 v_data v_a v_b v_cmp Q w) : callS Try.prog 67 #[v_data, v_a, v_b, v_cmp] Q w :=
  callS_of mix (fun a w => Try.call67 a w) (by kernel_rfl) (by rw [eq67]; exact h)
-- slices.reverseRangeCmpFunc[commons/imap.Part[int]]
def S68 (v_data v_a v_b _ : Value) (Q : Value → World → Prop) (w : World) : Prop :=
 pur Try.prog (binS .sub 3 false true v_b (.int .i64 1)) fun t12 => 
 lp 2 (fun J => fun v_i v_j w_1 => ∀ _j : Fr, 
  pur Try.prog (binS .lss 3 false false v_i v_j) fun t15 => 
  condS t15
   (pur Try.prog (Instr.indexAt 43 v_data v_j) fun t22 => 
  rd Try.prog (Instr.loadAt 46 t22) (fun t23 => 
  pur Try.prog (Instr.indexAt 43 v_data v_i) fun t26 => 
  rd Try.prog (Instr.loadAt 46 t26) (fun t27 => 
  pur Try.prog (Instr.indexAt 43 v_data v_i) fun t28 => 
  act Try.prog (thenU (Instr.storeAt 46 t28 t23)) (fun _ w_2 => 
  pur Try.prog (Instr.indexAt 43 v_data v_j) fun t29 => 
  act Try.prog (thenU (Instr.storeAt 46 t29 t27)) (fun _ w_3 => 
  pur Try.prog (binS .add 3 false true v_i (.int .i64 1)) fun t31 => 
  pur Try.prog (binS .sub 3 false true v_j (.int .i64 1)) fun t33 => 
  J t31 t33 w_3) w_2) (World.drew w_1)) (World.drew w_1)) (World.drew w_1))
   (Q (.tuple #[]) w_1)) [v_a, t12] w
theorem eq68 (v_data v_a v_b v_cmp : Value) (Q : Value → World → Prop) (w : World) : semF Try.prog 68 [v_data, v_a, v_b, v_cmp] Q w = S68 v_data v_a v_b v_cmp Q w := by kernel_rfl
theorem ref68 {v_data v_a v_b v_cmp : Value} {Q : Value → World → Prop} {w : World} (h : S68 v_data v_a v_b v_cmp Q w) : callS Try.prog 68 #[v_data, v_a, v_b, v_cmp] Q w :=
  callS_of mix (fun a w => Try.call68 a w) (by kernel_rfl) (by rw [eq68]; exact h)
-- slices.partialInsertionSortCmpFunc[commons/imap.Part[int]]
def S69 (v_data v_a v_b v_cmp : Value) (Q : Value → World → Prop) (w : World) : Prop :=
 pur Try.prog (binS .add 3 false true v_a (.int .i64 1)) fun t14 => 
 lp 2 (fun J => fun v_i v_j w_1 => ∀ _j : Fr, 
  pur Try.prog (binS .lss 3 false true v_j (.int .i64 5)) fun t16 => 
  condS t16
   (jn 1 (fun J_1 => 
   lp 1 (fun J_2 => fun v_i_1 w_2 => ∀ _j : Fr, 
    pur Try.prog (binS .lss 3 false false v_i_1 v_b) fun t21 => 
    gd t21 true (fun k w_3 => k v_cmp w_3) (fun t23_1 w_4 => 
    gd t21 true (fun k_1 w_5 => k_1 v_data w_5) (fun t24_1 w_6 => 
    gd t21 true (fun k_2 w_7 => k_2 v_i_1 w_7) (fun t25_1 w_8 => 
    gd t21 true (fun k_3 w_9 => pur Try.prog (Instr.indexAt 43 t24_1 t25_1) fun t26 => k_3 t26 w_9) (fun t26_1 w_10 => 
    gd t21 true (fun k_4 w_11 => rd Try.prog (Instr.loadAt 46 t26_1) (fun t27 => k_4 t27 w_11) w_11) (fun t27_1 w_12 => 
    gd t21 true (fun k_5 w_13 => k_5 v_data w_13) (fun t28_1 w_14 => 
    gd t21 true (fun k_6 w_15 => k_6 v_i_1 w_15) (fun t29_1 w_16 => 
    gd t21 true (fun k_7 w_17 => pur Try.prog (binS .sub 3 false true t29_1 (.int .i64 1)) fun t30 => k_7 t30 w_17) (fun t30_1 w_18 => 
    gd t21 true (fun k_8 w_19 => pur Try.prog (Instr.indexAt 43 t28_1 t30_1) fun t31 => k_8 t31 w_19) (fun t31_1 w_20 => 
    gd t21 true (fun k_9 w_21 => rd Try.prog (Instr.loadAt 46 t31_1) (fun t32 => k_9 t32 w_21) w_21) (fun t32_1 w_22 => 
    gd t21 true (fun k_10 w_23 => callF Try.prog t23_1 #[t27_1, t32_1] (fun t33 w_24 => k_10 t33 w_24) w_23) (fun t33_1 w_25 => 
    gd t21 true (fun k_11 w_26 => pur Try.prog (binS .lss 3 false true t33_1 (.int .i64 0)) fun t34 => k_11 t34 w_26) (fun t34_1 w_27 => 
    gd t21 true (fun k_12 w_28 => pur Try.prog (Op.unary .not t34_1) fun t35 => k_12 t35 w_28) (fun t35_1 w_29 => 
    pur Try.prog (pickS t21 t35_1 (.bool false)) fun t36 => 
    condS t36
     (pur Try.prog (binS .add 3 false true v_i_1 (.int .i64 1)) fun t38 => 
    J_2 t38 w_29)
     (pur Try.prog (binS .eql 3 false false v_i_1 v_b) fun t41 => 
   condS t41
    (Q (.bool true) w_29)
    (pur Try.prog (binS .sub 3 false false v_b v_a) fun t44 => 
   pur Try.prog (binS .lss 3 false true t44 (.int .i64 50)) fun t45 => 
   condS t45
    (Q (.bool false) w_29)
    (pur Try.prog (binS .sub 3 false true v_i_1 (.int .i64 1)) fun t50 => 
   pur Try.prog (binS .sub 3 false true v_i_1 (.int .i64 1)) fun t53 => 
   pur Try.prog (Instr.indexAt 43 v_data t53) fun t54 => 
   rd Try.prog (Instr.loadAt 46 t54) (fun t55 => 
   pur Try.prog (Instr.indexAt 43 v_data v_i_1) fun t58 => 
   rd Try.prog (Instr.loadAt 46 t58) (fun t59 => 
   pur Try.prog (Instr.indexAt 43 v_data v_i_1) fun t60 => 
   act Try.prog (thenU (Instr.storeAt 46 t60 t55)) (fun _ w_30 => 
   pur Try.prog (Instr.indexAt 43 v_data t50) fun t61 => 
   act Try.prog (thenU (Instr.storeAt 46 t61 t59)) (fun _ w_31 => 
   jn 0 (fun J_3 => 
    pur Try.prog (binS .sub 3 false false v_i_1 v_a) fun t64 => 
    pur Try.prog (binS .geq 3 false true t64 (.int .i64 2)) fun t65 => 
    condS t65
     (pur Try.prog (binS .sub 3 false true v_i_1 (.int .i64 1)) fun t67 => 
     lp 1 (fun J_4 => fun v_j_1 w_32 => ∀ _j : Fr, 
      pur Try.prog (binS .geq 3 false true v_j_1 (.int .i64 1)) fun t69 => 
      condS t69
       (pur Try.prog (Instr.indexAt 43 v_data v_j_1) fun t75 => 
      rd Try.prog (Instr.loadAt 46 t75) (fun t76 => 
      pur Try.prog (binS .sub 3 false true v_j_1 (.int .i64 1)) fun t79 => 
      pur Try.prog (Instr.indexAt 43 v_data t79) fun t80 => 
      rd Try.prog (Instr.loadAt 46 t80) (fun t81 => 
      callF Try.prog v_cmp #[t76, t81] (fun t82 w_33 => 
      pur Try.prog (binS .lss 3 false true t82 (.int .i64 0)) fun t83 => 
      pur Try.prog (Op.unary .not t83) fun t84 => 
      condS t84
       (J_3  w_33)
       (pur Try.prog (binS .sub 3 false true v_j_1 (.int .i64 1)) fun t89 => 
      pur Try.prog (binS .sub 3 false true v_j_1 (.int .i64 1)) fun t92 => 
      pur Try.prog (Instr.indexAt 43 v_data t92) fun t93 => 
      rd Try.prog (Instr.loadAt 46 t93) (fun t94 => 
      pur Try.prog (Instr.indexAt 43 v_data v_j_1) fun t97 => 
      rd Try.prog (Instr.loadAt 46 t97) (fun t98 => 
      pur Try.prog (Instr.indexAt 43 v_data v_j_1) fun t99 => 
      act Try.prog (thenU (Instr.storeAt 46 t99 t94)) (fun _ w_34 => 
      pur Try.prog (Instr.indexAt 43 v_data t89) fun t100 => 
      act Try.prog (thenU (Instr.storeAt 46 t100 t98)) (fun _ w_35 => 
      pur Try.prog (binS .sub 3 false true v_j_1 (.int .i64 1)) fun t71 => 
      J_4 t71 w_35) w_34) (World.drew w_33)) (World.drew w_33)) (World.drew w_33))) (World.drew w_32)) (World.drew w_32)) (World.drew w_32))
       (J_3  w_32)) [t67] w_31)
     (J_3  w_31))
   (fun  w_36 => ∀ _j : Fr, 
    pur Try.prog (binS .sub 3 false false v_b v_i_1) fun t103 => 
    pur Try.prog (binS .geq 3 false true t103 (.int .i64 2)) fun t104 => 
    condS t104
     (pur Try.prog (binS .add 3 false true v_i_1 (.int .i64 1)) fun t106 => 
     lp 1 (fun J_5 => fun v_j_2 w_37 => ∀ _j : Fr, 
      pur Try.prog (binS .lss 3 false false v_j_2 v_b) fun t109 => 
      condS t109
       (pur Try.prog (Instr.indexAt 43 v_data v_j_2) fun t115 => 
      rd Try.prog (Instr.loadAt 46 t115) (fun t116 => 
      pur Try.prog (binS .sub 3 false true v_j_2 (.int .i64 1)) fun t119 => 
      pur Try.prog (Instr.indexAt 43 v_data t119) fun t120 => 
      rd Try.prog (Instr.loadAt 46 t120) (fun t121 => 
      callF Try.prog v_cmp #[t116, t121] (fun t122 w_38 => 
      pur Try.prog (binS .lss 3 false true t122 (.int .i64 0)) fun t123 => 
      pur Try.prog (Op.unary .not t123) fun t124 => 
      condS t124
       (J_1 v_i_1 w_38)
       (pur Try.prog (binS .sub 3 false true v_j_2 (.int .i64 1)) fun t129 => 
      pur Try.prog (binS .sub 3 false true v_j_2 (.int .i64 1)) fun t132 => 
      pur Try.prog (Instr.indexAt 43 v_data t132) fun t133 => 
      rd Try.prog (Instr.loadAt 46 t133) (fun t134 => 
      pur Try.prog (Instr.indexAt 43 v_data v_j_2) fun t137 => 
      rd Try.prog (Instr.loadAt 46 t137) (fun t138 => 
      pur Try.prog (Instr.indexAt 43 v_data v_j_2) fun t139 => 
      act Try.prog (thenU (Instr.storeAt 46 t139 t134)) (fun _ w_39 => 
      pur Try.prog (Instr.indexAt 43 v_data t129) fun t140 => 
      act Try.prog (thenU (Instr.storeAt 46 t140 t138)) (fun _ w_40 => 
      pur Try.prog (binS .add 3 false true v_j_2 (.int .i64 1)) fun t111 => 
      J_5 t111 w_40) w_39) (World.drew w_38)) (World.drew w_38)) (World.drew w_38))) (World.drew w_37)) (World.drew w_37)) (World.drew w_37))
       (J_1 v_i_1 w_37)) [t106] w_36)
     (J_1 v_i_1 w_36))) w_30) (World.drew w_29)) (World.drew w_29)) (World.drew w_29))))) w_27) w_25) w_22) w_20) w_18) w_16) w_14) w_12) w_10) w_8) w_6) w_4) (World.drew w_2)) [v_i] w_1)
  (fun v_i_2 w_41 => ∀ _j : Fr, 
   pur Try.prog (binS .add 3 false true v_j (.int .i64 1)) fun t18 => 
   J v_i_2 t18 w_41))
   (Q (.bool false) w_1)) [t14, (.int .i64 0)] w
theorem eq69 (v_data v_a v_b v_cmp : Value) (Q : Value → World → Prop) (w : World) : semF Try.prog 69 [v_data, v_a, v_b, v_cmp] Q w = S69 v_data v_a v_b v_cmp Q w := by kernel_rfl
theorem ref69 {v_data v_a v_b v_cmp : Value} {Q : Value → World → Prop} {w : World} (h : S69 v_data v_a v_b v_cmp Q w) : callS Try.prog 69 #[v_data, v_a, v_b, v_cmp] Q w :=
  callS_of mix (fun a w => Try.call69 a w) (by kernel_rfl) (by rw [eq69]; exact h)
-- slices.partitionEqualCmpFunc[commons/imap.Part[int]]
def S70 (v_data v_a v_b v_pivot v_cmp : Value) (Q : Value → World → Prop) (w : World) : Prop :=
 pur Try.prog (Instr.indexAt 43 v_data v_pivot) fun t19 => 
 rd Try.prog (Instr.loadAt 46 t19) (fun t20 => 
 pur Try.prog (Instr.indexAt 43 v_data v_a) fun t23 => 
 rd Try.prog (Instr.loadAt 46 t23) (fun t24 => 
 pur Try.prog (Instr.indexAt 43 v_data v_a) fun t25 => 
 act Try.prog (thenU (Instr.storeAt 46 t25 t20)) (fun _ w_1 => 
 pur Try.prog (Instr.indexAt 43 v_data v_pivot) fun t26 => 
 act Try.prog (thenU (Instr.storeAt 46 t26 t24)) (fun _ w_2 => 
 pur Try.prog (binS .add 3 false true v_a (.int .i64 1)) fun t28 => 
 pur Try.prog (binS .sub 3 false true v_b (.int .i64 1)) fun t30 => 
 lp 2 (fun J => fun v_i v_j w_3 => ∀ _j : Fr, 
  lp 1 (fun J_1 => fun v_i_1 w_4 => ∀ _j : Fr, 
   pur Try.prog (binS .leq 3 false false v_i_1 v_j) fun t33 => 
   gd t33 true (fun k w_5 => k v_cmp w_5) (fun t35_1 w_6 => 
   gd t33 true (fun k_1 w_7 => k_1 v_data w_7) (fun t36_1 w_8 => 
   gd t33 true (fun k_2 w_9 => k_2 v_a w_9) (fun t37_1 w_10 => 
   gd t33 true (fun k_3 w_11 => pur Try.prog (Instr.indexAt 43 t36_1 t37_1) fun t38 => k_3 t38 w_11) (fun t38_1 w_12 => 
   gd t33 true (fun k_4 w_13 => rd Try.prog (Instr.loadAt 46 t38_1) (fun t39 => k_4 t39 w_13) w_13) (fun t39_1 w_14 => 
   gd t33 true (fun k_5 w_15 => k_5 v_data w_15) (fun t40_1 w_16 => 
   gd t33 true (fun k_6 w_17 => k_6 v_i_1 w_17) (fun t41_1 w_18 => 
   gd t33 true (fun k_7 w_19 => pur Try.prog (Instr.indexAt 43 t40_1 t41_1) fun t42 => k_7 t42 w_19) (fun t42_1 w_20 => 
   gd t33 true (fun k_8 w_21 => rd Try.prog (Instr.loadAt 46 t42_1) (fun t43 => k_8 t43 w_21) w_21) (fun t43_1 w_22 => 
   gd t33 true (fun k_9 w_23 => callF Try.prog t35_1 #[t39_1, t43_1] (fun t44 w_24 => k_9 t44 w_24) w_23) (fun t44_1 w_25 => 
   gd t33 true (fun k_10 w_26 => pur Try.prog (binS .lss 3 false true t44_1 (.int .i64 0)) fun t45 => k_10 t45 w_26) (fun t45_1 w_27 => 
   gd t33 true (fun k_11 w_28 => pur Try.prog (Op.unary .not t45_1) fun t46 => k_11 t46 w_28) (fun t46_1 w_29 => 
   pur Try.prog (pickS t33 t46_1 (.bool false)) fun t47 => 
   condS t47
    (pur Try.prog (binS .add 3 false true v_i_1 (.int .i64 1)) fun t49 => 
   J_1 t49 w_29)
    (lp 1 (fun J_2 => fun v_j_1 w_30 => ∀ _j : Fr, 
   pur Try.prog (binS .leq 3 false false v_i_1 v_j_1) fun t52 => 
   gd t52 true (fun k_12 w_31 => k_12 v_cmp w_31) (fun t54_1 w_32 => 
   gd t52 true (fun k_13 w_33 => k_13 v_data w_33) (fun t55_1 w_34 => 
   gd t52 true (fun k_14 w_35 => k_14 v_a w_35) (fun t56_1 w_36 => 
   gd t52 true (fun k_15 w_37 => pur Try.prog (Instr.indexAt 43 t55_1 t56_1) fun t57 => k_15 t57 w_37) (fun t57_1 w_38 => 
   gd t52 true (fun k_16 w_39 => rd Try.prog (Instr.loadAt 46 t57_1) (fun t58 => k_16 t58 w_39) w_39) (fun t58_1 w_40 => 
   gd t52 true (fun k_17 w_41 => k_17 v_data w_41) (fun t59_1 w_42 => 
   gd t52 true (fun k_18 w_43 => k_18 v_j_1 w_43) (fun t60_1 w_44 => 
   gd t52 true (fun k_19 w_45 => pur Try.prog (Instr.indexAt 43 t59_1 t60_1) fun t61 => k_19 t61 w_45) (fun t61_1 w_46 => 
   gd t52 true (fun k_20 w_47 => rd Try.prog (Instr.loadAt 46 t61_1) (fun t62 => k_20 t62 w_47) w_47) (fun t62_1 w_48 => 
   gd t52 true (fun k_21 w_49 => callF Try.prog t54_1 #[t58_1, t62_1] (fun t63 w_50 => k_21 t63 w_50) w_49) (fun t63_1 w_51 => 
   gd t52 true (fun k_22 w_52 => pur Try.prog (binS .lss 3 false true t63_1 (.int .i64 0)) fun t64 => k_22 t64 w_52) (fun t64_1 w_53 => 
   pur Try.prog (pickS t52 t64_1 (.bool false)) fun t65 => 
   condS t65
    (pur Try.prog (binS .sub 3 false true v_j_1 (.int .i64 1)) fun t67 => 
   J_2 t67 w_53)
    (pur Try.prog (binS .gtr 3 false false v_i_1 v_j_1) fun t70 => 
  condS t70
   (Q v_i_1 w_53)
   (pur Try.prog (Instr.indexAt 43 v_data v_j_1) fun t77 => 
  rd Try.prog (Instr.loadAt 46 t77) (fun t78 => 
  pur Try.prog (Instr.indexAt 43 v_data v_i_1) fun t81 => 
  rd Try.prog (Instr.loadAt 46 t81) (fun t82 => 
  pur Try.prog (Instr.indexAt 43 v_data v_i_1) fun t83 => 
  act Try.prog (thenU (Instr.storeAt 46 t83 t78)) (fun _ w_54 => 
  pur Try.prog (Instr.indexAt 43 v_data v_j_1) fun t84 => 
  act Try.prog (thenU (Instr.storeAt 46 t84 t82)) (fun _ w_55 => 
  pur Try.prog (binS .add 3 false true v_i_1 (.int .i64 1)) fun t86 => 
  pur Try.prog (binS .sub 3 false true v_j_1 (.int .i64 1)) fun t88 => 
  J t86 t88 w_55) w_54) (World.drew w_53)) (World.drew w_53)) (World.drew w_53)))) w_51) w_48) w_46) w_44) w_42) w_40) w_38) w_36) w_34) w_32) (World.drew w_30)) [v_j] w_29)) w_27) w_25) w_22) w_20) w_18) w_16) w_14) w_12) w_10) w_8) w_6) (World.drew w_4)) [v_i] w_3) [t28, t30] w_2) w_1) (World.drew w)) (World.drew w)) (World.drew w)
theorem eq70 (v_data v_a v_b v_pivot v_cmp : Value) (Q : Value → World → Prop) (w : World) : semF Try.prog 70 [v_data, v_a, v_b, v_pivot, v_cmp] Q w = S70 v_data v_a v_b v_pivot v_cmp Q w := by kernel_rfl
theorem ref70 {v_data v_a v_b v_pivot v_cmp : Value} {Q : Value → World → Prop} {w : World} (h : S70 v_data v_a v_b v_pivot v_cmp Q w) : callS Try.prog 70 #[v_data, v_a, v_b, v_pivot, v_cmp] Q w :=
  callS_of mix (fun a w => Try.call70 a w) (by kernel_rfl) (by rw [eq70]; exact h)
-- slices.partitionCmpFunc[commons/imap.Part[int]]
def S71 (v_data v_a v_b v_pivot v_cmp : Value) (Q : Value → World → Prop) (w : World) : Prop :=
 pur Try.prog (Instr.indexAt 43 v_data v_pivot) fun t20 => 
 rd Try.prog (Instr.loadAt 46 t20) (fun t21 => 
 pur Try.prog (Instr.indexAt 43 v_data v_a) fun t24 => 
 rd Try.prog (Instr.loadAt 46 t24) (fun t25 => 
 pur Try.prog (Instr.indexAt 43 v_data v_a) fun t26 => 
 act Try.prog (thenU (Instr.storeAt 46 t26 t21)) (fun _ w_1 => 
 pur Try.prog (Instr.indexAt 43 v_data v_pivot) fun t27 => 
 act Try.prog (thenU (Instr.storeAt 46 t27 t25)) (fun _ w_2 => 
 pur Try.prog (binS .add 3 false true v_a (.int .i64 1)) fun t29 => 
 pur Try.prog (binS .sub 3 false true v_b (.int .i64 1)) fun t31 => 
 lp 1 (fun J => fun v_i w_3 => ∀ _j : Fr, 
  pur Try.prog (binS .leq 3 false false v_i t31) fun t34 => 
  gd t34 true (fun k w_4 => k v_cmp w_4) (fun t36_1 w_5 => 
  gd t34 true (fun k_1 w_6 => k_1 v_data w_6) (fun t37_1 w_7 => 
  gd t34 true (fun k_2 w_8 => k_2 v_i w_8) (fun t38_1 w_9 => 
  gd t34 true (fun k_3 w_10 => pur Try.prog (Instr.indexAt 43 t37_1 t38_1) fun t39 => k_3 t39 w_10) (fun t39_1 w_11 => 
  gd t34 true (fun k_4 w_12 => rd Try.prog (Instr.loadAt 46 t39_1) (fun t40 => k_4 t40 w_12) w_12) (fun t40_1 w_13 => 
  gd t34 true (fun k_5 w_14 => k_5 v_data w_14) (fun t41_1 w_15 => 
  gd t34 true (fun k_6 w_16 => k_6 v_a w_16) (fun t42_1 w_17 => 
  gd t34 true (fun k_7 w_18 => pur Try.prog (Instr.indexAt 43 t41_1 t42_1) fun t43 => k_7 t43 w_18) (fun t43_1 w_19 => 
  gd t34 true (fun k_8 w_20 => rd Try.prog (Instr.loadAt 46 t43_1) (fun t44 => k_8 t44 w_20) w_20) (fun t44_1 w_21 => 
  gd t34 true (fun k_9 w_22 => callF Try.prog t36_1 #[t40_1, t44_1] (fun t45 w_23 => k_9 t45 w_23) w_22) (fun t45_1 w_24 => 
  gd t34 true (fun k_10 w_25 => pur Try.prog (binS .lss 3 false true t45_1 (.int .i64 0)) fun t46 => k_10 t46 w_25) (fun t46_1 w_26 => 
  pur Try.prog (pickS t34 t46_1 (.bool false)) fun t47 => 
  condS t47
   (pur Try.prog (binS .add 3 false true v_i (.int .i64 1)) fun t49 => 
  J t49 w_26)
   (lp 1 (fun J_1 => fun v_j w_27 => ∀ _j : Fr, 
  pur Try.prog (binS .leq 3 false false v_i v_j) fun t52 => 
  gd t52 true (fun k_11 w_28 => k_11 v_cmp w_28) (fun t54_1 w_29 => 
  gd t52 true (fun k_12 w_30 => k_12 v_data w_30) (fun t55_1 w_31 => 
  gd t52 true (fun k_13 w_32 => k_13 v_j w_32) (fun t56_1 w_33 => 
  gd t52 true (fun k_14 w_34 => pur Try.prog (Instr.indexAt 43 t55_1 t56_1) fun t57 => k_14 t57 w_34) (fun t57_1 w_35 => 
  gd t52 true (fun k_15 w_36 => rd Try.prog (Instr.loadAt 46 t57_1) (fun t58 => k_15 t58 w_36) w_36) (fun t58_1 w_37 => 
  gd t52 true (fun k_16 w_38 => k_16 v_data w_38) (fun t59_1 w_39 => 
  gd t52 true (fun k_17 w_40 => k_17 v_a w_40) (fun t60_1 w_41 => 
  gd t52 true (fun k_18 w_42 => pur Try.prog (Instr.indexAt 43 t59_1 t60_1) fun t61 => k_18 t61 w_42) (fun t61_1 w_43 => 
  gd t52 true (fun k_19 w_44 => rd Try.prog (Instr.loadAt 46 t61_1) (fun t62 => k_19 t62 w_44) w_44) (fun t62_1 w_45 => 
  gd t52 true (fun k_20 w_46 => callF Try.prog t54_1 #[t58_1, t62_1] (fun t63 w_47 => k_20 t63 w_47) w_46) (fun t63_1 w_48 => 
  gd t52 true (fun k_21 w_49 => pur Try.prog (binS .lss 3 false true t63_1 (.int .i64 0)) fun t64 => k_21 t64 w_49) (fun t64_1 w_50 => 
  gd t52 true (fun k_22 w_51 => pur Try.prog (Op.unary .not t64_1) fun t65 => k_22 t65 w_51) (fun t65_1 w_52 => 
  pur Try.prog (pickS t52 t65_1 (.bool false)) fun t66 => 
  condS t66
   (pur Try.prog (binS .sub 3 false true v_j (.int .i64 1)) fun t68 => 
  J_1 t68 w_52)
   (pur Try.prog (binS .gtr 3 false false v_i v_j) fun t71 => 
 condS t71
  (pur Try.prog (Instr.indexAt 43 v_data v_a) fun t78 => 
  rd Try.prog (Instr.loadAt 46 t78) (fun t79 => 
  pur Try.prog (Instr.indexAt 43 v_data v_j) fun t82 => 
  rd Try.prog (Instr.loadAt 46 t82) (fun t83 => 
  pur Try.prog (Instr.indexAt 43 v_data v_j) fun t84 => 
  act Try.prog (thenU (Instr.storeAt 46 t84 t79)) (fun _ w_53 => 
  pur Try.prog (Instr.indexAt 43 v_data v_a) fun t85 => 
  act Try.prog (thenU (Instr.storeAt 46 t85 t83)) (fun _ w_54 => 
  Q (.tuple #[v_j, (.bool true)]) w_54) w_53) (World.drew w_52)) (World.drew w_52)) (World.drew w_52))
  (pur Try.prog (Instr.indexAt 43 v_data v_j) fun t93 => 
 rd Try.prog (Instr.loadAt 46 t93) (fun t94 => 
 pur Try.prog (Instr.indexAt 43 v_data v_i) fun t97 => 
 rd Try.prog (Instr.loadAt 46 t97) (fun t98 => 
 pur Try.prog (Instr.indexAt 43 v_data v_i) fun t99 => 
 act Try.prog (thenU (Instr.storeAt 46 t99 t94)) (fun _ w_55 => 
 pur Try.prog (Instr.indexAt 43 v_data v_j) fun t100 => 
 act Try.prog (thenU (Instr.storeAt 46 t100 t98)) (fun _ w_56 => 
 pur Try.prog (binS .add 3 false true v_i (.int .i64 1)) fun t102 => 
 pur Try.prog (binS .sub 3 false true v_j (.int .i64 1)) fun t104 => 
 lp 2 (fun J_2 => fun v_i_1 v_j_1 w_57 => ∀ _j : Fr, 
  lp 1 (fun J_3 => fun v_i_2 w_58 => ∀ _j : Fr, 
   pur Try.prog (binS .leq 3 false false v_i_2 v_j_1) fun t107 => 
   gd t107 true (fun k_23 w_59 => k_23 v_cmp w_59) (fun t109_1 w_60 => 
   gd t107 true (fun k_24 w_61 => k_24 v_data w_61) (fun t110_1 w_62 => 
   gd t107 true (fun k_25 w_63 => k_25 v_i_2 w_63) (fun t111_1 w_64 => 
   gd t107 true (fun k_26 w_65 => pur Try.prog (Instr.indexAt 43 t110_1 t111_1) fun t112 => k_26 t112 w_65) (fun t112_1 w_66 => 
   gd t107 true (fun k_27 w_67 => rd Try.prog (Instr.loadAt 46 t112_1) (fun t113 => k_27 t113 w_67) w_67) (fun t113_1 w_68 => 
   gd t107 true (fun k_28 w_69 => k_28 v_data w_69) (fun t114_1 w_70 => 
   gd t107 true (fun k_29 w_71 => k_29 v_a w_71) (fun t115_1 w_72 => 
   gd t107 true (fun k_30 w_73 => pur Try.prog (Instr.indexAt 43 t114_1 t115_1) fun t116 => k_30 t116 w_73) (fun t116_1 w_74 => 
   gd t107 true (fun k_31 w_75 => rd Try.prog (Instr.loadAt 46 t116_1) (fun t117 => k_31 t117 w_75) w_75) (fun t117_1 w_76 => 
   gd t107 true (fun k_32 w_77 => callF Try.prog t109_1 #[t113_1, t117_1] (fun t118 w_78 => k_32 t118 w_78) w_77) (fun t118_1 w_79 => 
   gd t107 true (fun k_33 w_80 => pur Try.prog (binS .lss 3 false true t118_1 (.int .i64 0)) fun t119 => k_33 t119 w_80) (fun t119_1 w_81 => 
   pur Try.prog (pickS t107 t119_1 (.bool false)) fun t120 => 
   condS t120
    (pur Try.prog (binS .add 3 false true v_i_2 (.int .i64 1)) fun t122 => 
   J_3 t122 w_81)
    (lp 1 (fun J_4 => fun v_j_2 w_82 => ∀ _j : Fr, 
   pur Try.prog (binS .leq 3 false false v_i_2 v_j_2) fun t125 => 
   gd t125 true (fun k_34 w_83 => k_34 v_cmp w_83) (fun t127_1 w_84 => 
   gd t125 true (fun k_35 w_85 => k_35 v_data w_85) (fun t128_1 w_86 => 
   gd t125 true (fun k_36 w_87 => k_36 v_j_2 w_87) (fun t129_1 w_88 => 
   gd t125 true (fun k_37 w_89 => pur Try.prog (Instr.indexAt 43 t128_1 t129_1) fun t130 => k_37 t130 w_89) (fun t130_1 w_90 => 
   gd t125 true (fun k_38 w_91 => rd Try.prog (Instr.loadAt 46 t130_1) (fun t131 => k_38 t131 w_91) w_91) (fun t131_1 w_92 => 
   gd t125 true (fun k_39 w_93 => k_39 v_data w_93) (fun t132_1 w_94 => 
   gd t125 true (fun k_40 w_95 => k_40 v_a w_95) (fun t133_1 w_96 => 
   gd t125 true (fun k_41 w_97 => pur Try.prog (Instr.indexAt 43 t132_1 t133_1) fun t134 => k_41 t134 w_97) (fun t134_1 w_98 => 
   gd t125 true (fun k_42 w_99 => rd Try.prog (Instr.loadAt 46 t134_1) (fun t135 => k_42 t135 w_99) w_99) (fun t135_1 w_100 => 
   gd t125 true (fun k_43 w_101 => callF Try.prog t127_1 #[t131_1, t135_1] (fun t136 w_102 => k_43 t136 w_102) w_101) (fun t136_1 w_103 => 
   gd t125 true (fun k_44 w_104 => pur Try.prog (binS .lss 3 false true t136_1 (.int .i64 0)) fun t137 => k_44 t137 w_104) (fun t137_1 w_105 => 
   gd t125 true (fun k_45 w_106 => pur Try.prog (Op.unary .not t137_1) fun t138 => k_45 t138 w_106) (fun t138_1 w_107 => 
   pur Try.prog (pickS t125 t138_1 (.bool false)) fun t139 => 
   condS t139
    (pur Try.prog (binS .sub 3 false true v_j_2 (.int .i64 1)) fun t141 => 
   J_4 t141 w_107)
    (pur Try.prog (binS .gtr 3 false false v_i_2 v_j_2) fun t144 => 
  condS t144
   (pur Try.prog (Instr.indexAt 43 v_data v_a) fun t169 => 
 rd Try.prog (Instr.loadAt 46 t169) (fun t170 => 
 pur Try.prog (Instr.indexAt 43 v_data v_j_2) fun t173 => 
 rd Try.prog (Instr.loadAt 46 t173) (fun t174 => 
 pur Try.prog (Instr.indexAt 43 v_data v_j_2) fun t175 => 
 act Try.prog (thenU (Instr.storeAt 46 t175 t170)) (fun _ w_108 => 
 pur Try.prog (Instr.indexAt 43 v_data v_a) fun t176 => 
 act Try.prog (thenU (Instr.storeAt 46 t176 t174)) (fun _ w_109 => 
 Q (.tuple #[v_j_2, (.bool false)]) w_109) w_108) (World.drew w_107)) (World.drew w_107)) (World.drew w_107))
   (pur Try.prog (Instr.indexAt 43 v_data v_j_2) fun t151 => 
  rd Try.prog (Instr.loadAt 46 t151) (fun t152 => 
  pur Try.prog (Instr.indexAt 43 v_data v_i_2) fun t155 => 
  rd Try.prog (Instr.loadAt 46 t155) (fun t156 => 
  pur Try.prog (Instr.indexAt 43 v_data v_i_2) fun t157 => 
  act Try.prog (thenU (Instr.storeAt 46 t157 t152)) (fun _ w_110 => 
  pur Try.prog (Instr.indexAt 43 v_data v_j_2) fun t158 => 
  act Try.prog (thenU (Instr.storeAt 46 t158 t156)) (fun _ w_111 => 
  pur Try.prog (binS .add 3 false true v_i_2 (.int .i64 1)) fun t160 => 
  pur Try.prog (binS .sub 3 false true v_j_2 (.int .i64 1)) fun t162 => 
  J_2 t160 t162 w_111) w_110) (World.drew w_107)) (World.drew w_107)) (World.drew w_107)))) w_105) w_103) w_100) w_98) w_96) w_94) w_92) w_90) w_88) w_86) w_84) (World.drew w_82)) [v_j_1] w_81)) w_79) w_76) w_74) w_72) w_70) w_68) w_66) w_64) w_62) w_60) (World.drew w_58)) [v_i_1] w_57) [t102, t104] w_56) w_55) (World.drew w_52)) (World.drew w_52)) (World.drew w_52)))) w_50) w_48) w_45) w_43) w_41) w_39) w_37) w_35) w_33) w_31) w_29) (World.drew w_27)) [t31] w_26)) w_24) w_21) w_19) w_17) w_15) w_13) w_11) w_9) w_7) w_5) (World.drew w_3)) [t29] w_2) w_1) (World.drew w)) (World.drew w)) (World.drew w)
theorem eq71 (v_data v_a v_b v_pivot v_cmp : Value) (Q : Value → World → Prop) (w : World) : semF Try.prog 71 [v_data, v_a, v_b, v_pivot, v_cmp] Q w = S71 v_data v_a v_b v_pivot v_cmp Q w := by kernel_rfl
theorem ref71 {v_data v_a v_b v_pivot v_cmp : Value} {Q : Value → World → Prop} {w : World} (h : S71 v_data v_a v_b v_pivot v_cmp Q w) : callS Try.prog 71 #[v_data, v_a, v_b, v_pivot, v_cmp] Q w :=
  callS_of mix (fun a w => Try.call71 a w) (by kernel_rfl) (by rw [eq71]; exact h)
-- slices.IndexFunc[[]commons/api.Span,commons/api.Span]
def S72 (v_s v_f : Value) (Q : Value → World → Prop) (w : World) : Prop :=
 pur Try.prog (Builtin.len_ #[49] 3 #[v_s]) fun t7 => 
 lp 1 (fun J => fun t8 w_1 => ∀ _j : Fr, 
  pur Try.prog (binS .lss 3 false false t8 t7) fun t9 => 
  condS t9
   (pur Try.prog (Instr.indexAt 49 v_s t8) fun t14 => 
  rd Try.prog (Instr.loadAt 27 t14) (fun t15 => 
  callF Try.prog v_f #[t15] (fun t16 w_2 => 
  condS t16
   (Q t8 w_2)
   (pur Try.prog (binS .add 3 false true t8 (.int .i64 1)) fun t18 => 
  J t18 w_2)) w_1) w_1)
   (Q (.int .i64 (-1)) w_1)) [(.int .i64 0)] w
theorem eq72 (v_s v_f : Value) (Q : Value → World → Prop) (w : World) : semF Try.prog 72 [v_s, v_f] Q w = S72 v_s v_f Q w := by kernel_rfl
theorem ref72 {v_s v_f : Value} {Q : Value → World → Prop} {w : World} (h : S72 v_s v_f Q w) : callS Try.prog 72 #[v_s, v_f] Q w :=
  callS_of mix (fun a w => Try.call72 a w) (by kernel_rfl) (by rw [eq72]; exact h)
-- slices.pdqsortCmpFunc[commons/api.Span]
def S73 (v_data v_a v_b v_limit v_cmp : Value) (Q : Value → World → Prop) (w : World) : Prop :=
 lp 5 (fun J => fun v_a_1 v_b_1 v_limit_1 v_wasBalanced v_wasPartitioned w_1 => ∀ _j : Fr, 
  pur Try.prog (binS .sub 3 false false v_b_1 v_a_1) fun t23 => 
  pur Try.prog (binS .leq 3 false true t23 (.int .i64 12)) fun t25 => 
  condS t25
   (callS Try.prog 82 #[v_data, v_a_1, v_b_1, v_cmp] (fun _ w_2 => 
   Q (.tuple #[]) w_2) w_1)
   (pur Try.prog (binS .eql 3 false true v_limit_1 (.int .i64 0)) fun t32 => 
  condS t32
   (callS Try.prog 83 #[v_data, v_a_1, v_b_1, v_cmp] (fun _ w_3 => 
   Q (.tuple #[]) w_3) w_1)
   (jn 1 (fun J_1 => 
   pur Try.prog (Op.unary .not v_wasBalanced) fun t39 => 
   condS t39
    (callS Try.prog 84 #[v_data, v_a_1, v_b_1, v_cmp] (fun _ w_4 => 
    pur Try.prog (binS .sub 3 false true v_limit_1 (.int .i64 1)) fun t46 => 
    J_1 t46 w_4) w_1)
    (J_1 v_limit_1 w_1))
  (fun v_limit_2 w_5 => ∀ _j : Fr, 
   callS Try.prog 85 #[v_data, v_a_1, v_b_1, v_cmp] (fun t52 w_6 => 
   pur Try.prog (Instr.extract t52 0) fun t53 => 
   pur Try.prog (Instr.extract t52 1) fun t54 => 
   jn 2 (fun J_2 => 
    pur Try.prog (binS .eql 89 false true t54 (.int .i64 2)) fun t56 => 
    condS t56
     (callS Try.prog 86 #[v_data, v_a_1, v_b_1, v_cmp] (fun _ w_7 => 
     pur Try.prog (binS .sub 3 false true v_b_1 (.int .i64 1)) fun t63 => 
     pur Try.prog (binS .sub 3 false false t53 v_a_1) fun t66 => 
     pur Try.prog (binS .sub 3 false false t63 t66) fun t67 => 
     J_2 t67 (.int .i64 1) w_7) w_6)
     (J_2 t53 t54 w_6))
   (fun v_pivot v_hint w_8 => ∀ _j : Fr, 
    jn 0 (fun J_3 => 
     gd v_wasBalanced true (fun k w_9 => k v_wasPartitioned w_9) (fun t70_1 w_10 => 
     pur Try.prog (pickS v_wasBalanced t70_1 (.bool false)) fun t71 => 
     gd t71 true (fun k_1 w_11 => k_1 v_hint w_11) (fun t73_1 w_12 => 
     gd t71 true (fun k_2 w_13 => pur Try.prog (binS .eql 89 false true t73_1 (.int .i64 1)) fun t74 => k_2 t74 w_13) (fun t74_1 w_14 => 
     pur Try.prog (pickS t71 t74_1 (.bool false)) fun t75 => 
     condS t75
      (callS Try.prog 87 #[v_data, v_a_1, v_b_1, v_cmp] (fun t80 w_15 => 
      condS t80
       (Q (.tuple #[]) w_15)
       (J_3  w_15)) w_14)
      (J_3  w_14)) w_12) w_10) w_8)
    (fun  w_16 => ∀ _j : Fr, 
     pur Try.prog (binS .gtr 3 false true v_a_1 (.int .i64 0)) fun t82 => 
     gd t82 true (fun k_3 w_17 => k_3 v_cmp w_17) (fun t84_1 w_18 => 
     gd t82 true (fun k_4 w_19 => k_4 v_data w_19) (fun t85_1 w_20 => 
     gd t82 true (fun k_5 w_21 => k_5 v_a_1 w_21) (fun t86_1 w_22 => 
     gd t82 true (fun k_6 w_23 => pur Try.prog (binS .sub 3 false true t86_1 (.int .i64 1)) fun t87 => k_6 t87 w_23) (fun t87_1 w_24 => 
     gd t82 true (fun k_7 w_25 => pur Try.prog (Instr.indexAt 49 t85_1 t87_1) fun t88 => k_7 t88 w_25) (fun t88_1 w_26 => 
     gd t82 true (fun k_8 w_27 => rd Try.prog (Instr.loadAt 27 t88_1) (fun t89 => k_8 t89 w_27) w_27) (fun t89_1 w_28 => 
     gd t82 true (fun k_9 w_29 => k_9 v_data w_29) (fun t90_1 w_30 => 
     gd t82 true (fun k_10 w_31 => k_10 v_pivot w_31) (fun t91_1 w_32 => 
     gd t82 true (fun k_11 w_33 => pur Try.prog (Instr.indexAt 49 t90_1 t91_1) fun t92 => k_11 t92 w_33) (fun t92_1 w_34 => 
     gd t82 true (fun k_12 w_35 => rd Try.prog (Instr.loadAt 27 t92_1) (fun t93 => k_12 t93 w_35) w_35) (fun t93_1 w_36 => 
     gd t82 true (fun k_13 w_37 => callF Try.prog t84_1 #[t89_1, t93_1] (fun t94 w_38 => k_13 t94 w_38) w_37) (fun t94_1 w_39 => 
     gd t82 true (fun k_14 w_40 => pur Try.prog (binS .lss 3 false true t94_1 (.int .i64 0)) fun t95 => k_14 t95 w_40) (fun t95_1 w_41 => 
     gd t82 true (fun k_15 w_42 => pur Try.prog (Op.unary .not t95_1) fun t96 => k_15 t96 w_42) (fun t96_1 w_43 => 
     pur Try.prog (pickS t82 t96_1 (.bool false)) fun t97 => 
     condS t97
      (callS Try.prog 88 #[v_data, v_a_1, v_b_1, v_pivot, v_cmp] (fun t103 w_44 => 
      J t103 v_b_1 v_limit_2 v_wasBalanced v_wasPartitioned w_44) w_43)
      (callS Try.prog 89 #[v_data, v_a_1, v_b_1, v_pivot, v_cmp] (fun t111 w_45 => 
     pur Try.prog (Instr.extract t111 0) fun t112 => 
     pur Try.prog (Instr.extract t111 1) fun t113 => 
     pur Try.prog (binS .sub 3 false false t112 v_a_1) fun t117 => 
     pur Try.prog (binS .sub 3 false false v_b_1 t112) fun t120 => 
     pur Try.prog (binS .quo 3 false true t23 (.int .i64 8)) fun t122 => 
     pur Try.prog (binS .lss 3 false false t117 t120) fun t125 => 
     condS t125
      (pur Try.prog (binS .geq 3 false false t117 t122) fun t128 => 
      callS Try.prog 73 #[v_data, v_a_1, t112, v_limit_2, v_cmp] (fun _ w_46 => 
      pur Try.prog (binS .add 3 false true t112 (.int .i64 1)) fun t136 => 
      J t136 v_b_1 v_limit_2 t128 t113 w_46) w_45)
      (pur Try.prog (binS .geq 3 false false t120 t122) fun t139 => 
      pur Try.prog (binS .add 3 false true t112 (.int .i64 1)) fun t142 => 
      callS Try.prog 73 #[v_data, t142, v_b_1, v_limit_2, v_cmp] (fun _ w_47 => 
      J v_a_1 t112 v_limit_2 t139 t113 w_47) w_45)) w_43)) w_41) w_39) w_36) w_34) w_32) w_30) w_28) w_26) w_24) w_22) w_20) w_18) (World.drew w_16)))) w_5)))) [v_a, v_b, v_limit, (.bool true), (.bool true)] w
theorem eq73 (v_data v_a v_b v_limit v_cmp : Value) (Q : Value → World → Prop) (w : World) : semF Try.prog 73 [v_data, v_a, v_b, v_limit, v_cmp] Q w = S73 v_data v_a v_b v_limit v_cmp Q w := by kernel_rfl
theorem ref73 {v_data v_a v_b v_limit v_cmp : Value} {Q : Value → World → Prop} {w : World} (h : S73 v_data v_a v_b v_limit v_cmp Q w) : callS Try.prog 73 #[v_data, v_a, v_b, v_limit, v_cmp] Q w :=
  callS_of mix (fun a w => Try.call73 a w) (by kernel_rfl) (by rw [eq73]; exact h)
-- slices.siftDownCmpFunc[commons/imap.Part[string]]
def S74 (v_data v_lo v_hi v_first v_cmp : Value) (Q : Value → World → Prop) (w : World) : Prop :=
 lp 1 (fun J => fun v_root w_1 => ∀ _j : Fr, 
  pur Try.prog (binS .mul 3 true false (.int .i64 2) v_root) fun t14 => 
  pur Try.prog (binS .add 3 false true t14 (.int .i64 1)) fun t15 => 
  pur Try.prog (binS .geq 3 false false t15 v_hi) fun t18 => 
  condS t18
   (Q (.tuple #[]) w_1)
   (jn 1 (fun J_1 => 
   pur Try.prog (binS .add 3 false true t15 (.int .i64 1)) fun t20 => 
   pur Try.prog (binS .lss 3 false false t20 v_hi) fun t22 => 
   gd t22 true (fun k w_2 => k v_cmp w_2) (fun t24_1 w_3 => 
   gd t22 true (fun k_1 w_4 => k_1 v_data w_4) (fun t25_1 w_5 => 
   gd t22 true (fun k_2 w_6 => k_2 v_first w_6) (fun t26_1 w_7 => 
   gd t22 true (fun k_3 w_8 => k_3 t15 w_8) (fun t27_1 w_9 => 
   gd t22 true (fun k_4 w_10 => pur Try.prog (binS .add 3 false false t26_1 t27_1) fun t28 => k_4 t28 w_10) (fun t28_1 w_11 => 
   gd t22 true (fun k_5 w_12 => pur Try.prog (Instr.indexAt 35 t25_1 t28_1) fun t29 => k_5 t29 w_12) (fun t29_1 w_13 => 
   gd t22 true (fun k_6 w_14 => rd Try.prog (Instr.loadAt 38 t29_1) (fun t30 => k_6 t30 w_14) w_14) (fun t30_1 w_15 => 
   gd t22 true (fun k_7 w_16 => k_7 v_data w_16) (fun t31_1 w_17 => 
   gd t22 true (fun k_8 w_18 => k_8 v_first w_18) (fun t32_1 w_19 => 
   gd t22 true (fun k_9 w_20 => k_9 t15 w_20) (fun t33_1 w_21 => 
   gd t22 true (fun k_10 w_22 => pur Try.prog (binS .add 3 false false t32_1 t33_1) fun t34 => k_10 t34 w_22) (fun t34_1 w_23 => 
   gd t22 true (fun k_11 w_24 => pur Try.prog (binS .add 3 false true t34_1 (.int .i64 1)) fun t35 => k_11 t35 w_24) (fun t35_1 w_25 => 
   gd t22 true (fun k_12 w_26 => pur Try.prog (Instr.indexAt 35 t31_1 t35_1) fun t36 => k_12 t36 w_26) (fun t36_1 w_27 => 
   gd t22 true (fun k_13 w_28 => rd Try.prog (Instr.loadAt 38 t36_1) (fun t37 => k_13 t37 w_28) w_28) (fun t37_1 w_29 => 
   gd t22 true (fun k_14 w_30 => callF Try.prog t24_1 #[t30_1, t37_1] (fun t38 w_31 => k_14 t38 w_31) w_30) (fun t38_1 w_32 => 
   gd t22 true (fun k_15 w_33 => pur Try.prog (binS .lss 3 false true t38_1 (.int .i64 0)) fun t39 => k_15 t39 w_33) (fun t39_1 w_34 => 
   pur Try.prog (pickS t22 t39_1 (.bool false)) fun t40 => 
   condS t40
    (pur Try.prog (binS .add 3 false true t15 (.int .i64 1)) fun t42 => 
    J_1 t42 w_34)
    (J_1 t15 w_34)) w_32) w_29) w_27) w_25) w_23) w_21) w_19) w_17) w_15) w_13) w_11) w_9) w_7) w_5) w_3) (World.drew w_1))
  (fun v_child w_35 => ∀ _j : Fr, 
   pur Try.prog (binS .add 3 false false v_first v_root) fun t47 => 
   pur Try.prog (Instr.indexAt 35 v_data t47) fun t48 => 
   rd Try.prog (Instr.loadAt 38 t48) (fun t49 => 
   pur Try.prog (binS .add 3 false false v_first v_child) fun t53 => 
   pur Try.prog (Instr.indexAt 35 v_data t53) fun t54 => 
   rd Try.prog (Instr.loadAt 38 t54) (fun t55 => 
   callF Try.prog v_cmp #[t49, t55] (fun t56 w_36 => 
   pur Try.prog (binS .lss 3 false true t56 (.int .i64 0)) fun t57 => 
   pur Try.prog (Op.unary .not t57) fun t58 => 
   condS t58
    (Q (.tuple #[]) w_36)
    (pur Try.prog (binS .add 3 false false v_first v_root) fun t62 => 
   pur Try.prog (binS .add 3 false false v_first v_child) fun t66 => 
   pur Try.prog (binS .add 3 false false v_first v_child) fun t70 => 
   pur Try.prog (Instr.indexAt 35 v_data t70) fun t71 => 
   rd Try.prog (Instr.loadAt 38 t71) (fun t72 => 
   pur Try.prog (binS .add 3 false false v_first v_root) fun t76 => 
   pur Try.prog (Instr.indexAt 35 v_data t76) fun t77 => 
   rd Try.prog (Instr.loadAt 38 t77) (fun t78 => 
   pur Try.prog (Instr.indexAt 35 v_data t62) fun t79 => 
   act Try.prog (thenU (Instr.storeAt 38 t79 t72)) (fun _ w_37 => 
   pur Try.prog (Instr.indexAt 35 v_data t66) fun t80 => 
   act Try.prog (thenU (Instr.storeAt 38 t80 t78)) (fun _ w_38 => 
   J v_child w_38) w_37) (World.drew w_36)) (World.drew w_36)) (World.drew w_36))) (World.drew w_35)) (World.drew w_35)) (World.drew w_35)))) [v_lo] w
theorem eq74 (v_data v_lo v_hi v_first v_cmp : Value) (Q : Value → World → Prop) (w : World) : semF Try.prog 74 [v_data, v_lo, v_hi, v_first, v_cmp] Q w = S74 v_data v_lo v_hi v_first v_cmp Q w := by kernel_rfl
theorem ref74 {v_data v_lo v_hi v_first v_cmp : Value} {Q : Value → World → Prop} {w : World} (h : S74 v_data v_lo v_hi v_first v_cmp Q w) : callS Try.prog 74 #[v_data, v_lo, v_hi, v_first, v_cmp] Q w :=
  callS_of mix (fun a w => Try.call74 a w) (by kernel_rfl) (by rw [eq74]; exact h)
-- slices.nextPowerOfTwo
def S75 (v_length : Value) (Q : Value → World → Prop) (w : World) : Prop :=
 pur Try.prog (convert 3 80 v_length) fun t4 => 
 callS Try.prog 45 #[t4] (fun t5 w_1 => 
 pur Try.prog (binS .shl 80 true false (.int .u64 1) t5) fun t6 => 
 Q t6 w_1) w
theorem eq75 (v_length : Value) (Q : Value → World → Prop) (w : World) : semF Try.prog 75 [v_length] Q w = S75 v_length Q w := by kernel_rfl
theorem ref75 {v_length : Value} {Q : Value → World → Prop} {w : World} (h : S75 v_length Q w) : callS Try.prog 75 #[v_length] Q w :=
  callS_of mix (fun a w => Try.call75 a w) (by kernel_rfl) (by rw [eq75]; exact h)
-- (*slices.xorshift).Next
def S76 (v_r : Value) (Q : Value → World → Prop) (w : World) : Prop :=
 pur Try.prog (nilV v_r) fun t4 => 
 rd Try.prog (Instr.loadAt 107 t4) (fun t5 => 
 pur Try.prog (nilV v_r) fun t7 => 
 rd Try.prog (Instr.loadAt 107 t7) (fun t8 => 
 pur Try.prog (binS .shl 107 false true t8 (.int .u64 13)) fun t9 => 
 pur Try.prog (binS .xor 107 false false t5 t9) fun t10 => 
 pur Try.prog (nilV v_r) fun t11 => 
 act Try.prog (thenU (Instr.storeAt 107 t11 t10)) (fun _ w_1 => 
 pur Try.prog (nilV v_r) fun t13 => 
 rd Try.prog (Instr.loadAt 107 t13) (fun t14 => 
 pur Try.prog (nilV v_r) fun t16 => 
 rd Try.prog (Instr.loadAt 107 t16) (fun t17 => 
 pur Try.prog (binS .shr 107 false true t17 (.int .u64 7)) fun t18 => 
 pur Try.prog (binS .xor 107 false false t14 t18) fun t19 => 
 pur Try.prog (nilV v_r) fun t20 => 
 act Try.prog (thenU (Instr.storeAt 107 t20 t19)) (fun _ w_2 => 
 pur Try.prog (nilV v_r) fun t22 => 
 rd Try.prog (Instr.loadAt 107 t22) (fun t23 => 
 pur Try.prog (nilV v_r) fun t25 => 
 rd Try.prog (Instr.loadAt 107 t25) (fun t26 => 
 pur Try.prog (binS .shl 107 false true t26 (.int .u64 17)) fun t27 => 
 pur Try.prog (binS .xor 107 false false t23 t27) fun t28 => 
 pur Try.prog (nilV v_r) fun t29 => 
 act Try.prog (thenU (Instr.storeAt 107 t29 t28)) (fun _ w_3 => 
 pur Try.prog (nilV v_r) fun t31 => 
 rd Try.prog (Instr.loadAt 107 t31) (fun t32 => 
 Q t32 w_3) w_3) (World.drew w_2)) (World.drew w_2)) (World.drew w_2)) (World.drew w_1)) (World.drew w_1)) (World.drew w_1)) (World.drew w)) (World.drew w)) (World.drew w)
theorem eq76 (v_r : Value) (Q : Value → World → Prop) (w : World) : semF Try.prog 76 [v_r] Q w = S76 v_r Q w := by kernel_rfl
theorem ref76 {v_r : Value} {Q : Value → World → Prop} {w : World} (h : S76 v_r Q w) : callS Try.prog 76 #[v_r] Q w :=
  callS_of mix (fun a w => Try.call76 a w) (by kernel_rfl) (by rw [eq76]; exact h)
-- slices.medianAdjacentCmpFunc[commons/imap.Part[string]]
def S77 (v_data v_a v_swaps v_cmp : Value) (Q : Value → World → Prop) (w : World) : Prop :=
 pur Try.prog (binS .sub 3 false true v_a (.int .i64 1)) fun t11 => 
 pur Try.prog (binS .add 3 false true v_a (.int .i64 1)) fun t14 => 
 callS Try.prog 78 #[v_data, t11, v_a, t14, v_swaps, v_cmp] (fun t17 w_1 => 
 Q t17 w_1) w
theorem eq77 (v_data v_a v_swaps v_cmp : Value) (Q : Value → World → Prop) (w : World) : semF Try.prog 77 [v_data, v_a, v_swaps, v_cmp] Q w = S77 v_data v_a v_swaps v_cmp Q w := by kernel_rfl
theorem ref77 {v_data v_a v_swaps v_cmp : Value} {Q : Value → World → Prop} {w : World} (h : S77 v_data v_a v_swaps v_cmp Q w) : callS Try.prog 77 #[v_data, v_a, v_swaps, v_cmp] Q w :=
  callS_of mix (fun a w => Try.call77 a w) (by kernel_rfl) (by rw [eq77]; exact h)
-- slices.medianCmpFunc[commons/imap.Part[string]]
def S78 (v_data v_a v_b v_c v_swaps v_cmp : Value) (Q : Value → World → Prop) (w : World) : Prop :=
 callS Try.prog 90 #[v_data, v_a, v_b, v_swaps, v_cmp] (fun t19 w_1 => 
 pur Try.prog (Instr.extract t19 0) fun t20 => 
 pur Try.prog (Instr.extract t19 1) fun t21 => 
 callS Try.prog 90 #[v_data, t21, v_c, v_swaps, v_cmp] (fun t28 w_2 => 
 pur Try.prog (Instr.extract t28 0) fun t29 => 
 pur Try.prog (Instr.extract t28 1) fun _ => 
 callS Try.prog 90 #[v_data, t20, t29, v_swaps, v_cmp] (fun t37 w_3 => 
 pur Try.prog (Instr.extract t37 0) fun _ => 
 pur Try.prog (Instr.extract t37 1) fun t39 => 
 Q t39 w_3) w_2) w_1) w
theorem eq78 (v_data v_a v_b v_c v_swaps v_cmp : Value) (Q : Value → World → Prop) (w : World) : semF Try.prog 78 [v_data, v_a, v_b, v_c, v_swaps, v_cmp] Q w = S78 v_data v_a v_b v_c v_swaps v_cmp Q w := by kernel_rfl
theorem ref78 {v_data v_a v_b v_c v_swaps v_cmp : Value} {Q : Value → World → Prop} {w : World} (h : S78 v_data v_a v_b v_c v_swaps v_cmp Q w) : callS Try.prog 78 #[v_data, v_a, v_b, v_c, v_swaps, v_cmp] Q w :=
  callS_of mix (fun a w => Try.call78 a w) (by kernel_rfl) (by rw [eq78]; exact h)
-- slices.siftDownCmpFunc[commons/imap.Part[int]]
def S79 (v_data v_lo v_hi v_first v_cmp : Value) (Q : Value → World → Prop) (w : World) : Prop :=
 lp 1 (fun J => fun v_root w_1 => ∀ _j : Fr, 
  pur Try.prog (binS .mul 3 true false (.int .i64 2) v_root) fun t14 => 
  pur Try.prog (binS .add 3 false true t14 (.int .i64 1)) fun t15 => 
  pur Try.prog (binS .geq 3 false false t15 v_hi) fun t18 => 
  condS t18
   (Q (.tuple #[]) w_1)
   (jn 1 (fun J_1 => 
   pur Try.prog (binS .add 3 false true t15 (.int .i64 1)) fun t20 => 
   pur Try.prog (binS .lss 3 false false t20 v_hi) fun t22 => 
   gd t22 true (fun k w_2 => k v_cmp w_2) (fun t24_1 w_3 => 
   gd t22 true (fun k_1 w_4 => k_1 v_data w_4) (fun t25_1 w_5 => 
   gd t22 true (fun k_2 w_6 => k_2 v_first w_6) (fun t26_1 w_7 => 
   gd t22 true (fun k_3 w_8 => k_3 t15 w_8) (fun t27_1 w_9 => 
   gd t22 true (fun k_4 w_10 => pur Try.prog (binS .add 3 false false t26_1 t27_1) fun t28 => k_4 t28 w_10) (fun t28_1 w_11 => 
   gd t22 true (fun k_5 w_12 => pur Try.prog (Instr.indexAt 43 t25_1 t28_1) fun t29 => k_5 t29 w_12) (fun t29_1 w_13 => 
   gd t22 true (fun k_6 w_14 => rd Try.prog (Instr.loadAt 46 t29_1) (fun t30 => k_6 t30 w_14) w_14) (fun t30_1 w_15 => 
   gd t22 true (fun k_7 w_16 => k_7 v_data w_16) (fun t31_1 w_17 => 
   gd t22 true (fun k_8 w_18 => k_8 v_first w_18) (fun t32_1 w_19 => 
   gd t22 true (fun k_9 w_20 => k_9 t15 w_20) (fun t33_1 w_21 => 
   gd t22 true (fun k_10 w_22 => pur Try.prog (binS .add 3 false false t32_1 t33_1) fun t34 => k_10 t34 w_22) (fun t34_1 w_23 => 
   gd t22 true (fun k_11 w_24 => pur Try.prog (binS .add 3 false true t34_1 (.int .i64 1)) fun t35 => k_11 t35 w_24) (fun t35_1 w_25 => 
   gd t22 true (fun k_12 w_26 => pur Try.prog (Instr.indexAt 43 t31_1 t35_1) fun t36 => k_12 t36 w_26) (fun t36_1 w_27 => 
   gd t22 true (fun k_13 w_28 => rd Try.prog (Instr.loadAt 46 t36_1) (fun t37 => k_13 t37 w_28) w_28) (fun t37_1 w_29 => 
   gd t22 true (fun k_14 w_30 => callF Try.prog t24_1 #[t30_1, t37_1] (fun t38 w_31 => k_14 t38 w_31) w_30) (fun t38_1 w_32 => 
   gd t22 true (fun k_15 w_33 => pur Try.prog (binS .lss 3 false true t38_1 (.int .i64 0)) fun t39 => k_15 t39 w_33) (fun t39_1 w_34 => 
   pur Try.prog (pickS t22 t39_1 (.bool false)) fun t40 => 
   condS t40
    (pur Try.prog (binS .add 3 false true t15 (.int .i64 1)) fun t42 => 
    J_1 t42 w_34)
    (J_1 t15 w_34)) w_32) w_29) w_27) w_25) w_23) w_21) w_19) w_17) w_15) w_13) w_11) w_9) w_7) w_5) w_3) (World.drew w_1))
  (fun v_child w_35 => ∀ _j : Fr, 
   pur Try.prog (binS .add 3 false false v_first v_root) fun t47 => 
   pur Try.prog (Instr.indexAt 43 v_data t47) fun t48 => 
   rd Try.prog (Instr.loadAt 46 t48) (fun t49 => 
   pur Try.prog (binS .add 3 false false v_first v_child) fun t53 => 
   pur Try.prog (Instr.indexAt 43 v_data t53) fun t54 => 
   rd Try.prog (Instr.loadAt 46 t54) (fun t55 => 
   callF Try.prog v_cmp #[t49, t55] (fun t56 w_36 => 
   pur Try.prog (binS .lss 3 false true t56 (.int .i64 0)) fun t57 => 
   pur Try.prog (Op.unary .not t57) fun t58 => 
   condS t58
    (Q (.tuple #[]) w_36)
    (pur Try.prog (binS .add 3 false false v_first v_root) fun t62 => 
   pur Try.prog (binS .add 3 false false v_first v_child) fun t66 => 
   pur Try.prog (binS .add 3 false false v_first v_child) fun t70 => 
   pur Try.prog (Instr.indexAt 43 v_data t70) fun t71 => 
   rd Try.prog (Instr.loadAt 46 t71) (fun t72 => 
   pur Try.prog (binS .add 3 false false v_first v_root) fun t76 => 
   pur Try.prog (Instr.indexAt 43 v_data t76) fun t77 => 
   rd Try.prog (Instr.loadAt 46 t77) (fun t78 => 
   pur Try.prog (Instr.indexAt 43 v_data t62) fun t79 => 
   act Try.prog (thenU (Instr.storeAt 46 t79 t72)) (fun _ w_37 => 
   pur Try.prog (Instr.indexAt 43 v_data t66) fun t80 => 
   act Try.prog (thenU (Instr.storeAt 46 t80 t78)) (fun _ w_38 => 
   J v_child w_38) w_37) (World.drew w_36)) (World.drew w_36)) (World.drew w_36))) (World.drew w_35)) (World.drew w_35)) (World.drew w_35)))) [v_lo] w
theorem eq79 (v_data v_lo v_hi v_first v_cmp : Value) (Q : Value → World → Prop) (w : World) : semF Try.prog 79 [v_data, v_lo, v_hi, v_first, v_cmp] Q w = S79 v_data v_lo v_hi v_first v_cmp Q w := by kernel_rfl
theorem ref79 {v_data v_lo v_hi v_first v_cmp : Value} {Q : Value → World → Prop} {w : World} (h : S79 v_data v_lo v_hi v_first v_cmp Q w) : callS Try.prog 79 #[v_data, v_lo, v_hi, v_first, v_cmp] Q w :=
  callS_of mix (fun a w => Try.call79 a w) (by kernel_rfl) (by rw [eq79]; exact h)
-- slices.medianAdjacentCmpFunc[commons/imap.Part[int]]
def S80 (v_data v_a v_swaps v_cmp : Value) (Q : Value → World → Prop) (w : World) : Prop :=
 pur Try.prog (binS .sub 3 false true v_a (.int .i64 1)) fun t11 => 
 pur Try.prog (binS .add 3 false true v_a (.int .i64 1)) fun t14 => 
 callS Try.prog 81 #[v_data, t11, v_a, t14, v_swaps, v_cmp] (fun t17 w_1 => 
 Q t17 w_1) w
theorem eq80 (v_data v_a v_swaps v_cmp : Value) (Q : Value → World → Prop) (w : World) : semF Try.prog 80 [v_data, v_a, v_swaps, v_cmp] Q w = S80 v_data v_a v_swaps v_cmp Q w := by kernel_rfl
theorem ref80 {v_data v_a v_swaps v_cmp : Value} {Q : Value → World → Prop} {w : World} (h : S80 v_data v_a v_swaps v_cmp Q w) : callS Try.prog 80 #[v_data, v_a, v_swaps, v_cmp] Q w :=
  callS_of mix (fun a w => Try.call80 a w) (by kernel_rfl) (by rw [eq80]; exact h)
-- slices.medianCmpFunc[commons/imap.Part[int]]
def S81 (v_data v_a v_b v_c v_swaps v_cmp : Value) (Q : Value → World → Prop) (w : World) : Prop :=
 callS Try.prog 91 #[v_data, v_a, v_b, v_swaps, v_cmp] (fun t19 w_1 => 
 pur Try.prog (Instr.extract t19 0) fun t20 => 
 pur Try.prog (Instr.extract t19 1) fun t21 => 
 callS Try.prog 91 #[v_data, t21, v_c, v_swaps, v_cmp] (fun t28 w_2 => 
 pur Try.prog (Instr.extract t28 0) fun t29 => 
 pur Try.prog (Instr.extract t28 1) fun _ => 
 callS Try.prog 91 #[v_data, t20, t29, v_swaps, v_cmp] (fun t37 w_3 => 
 pur Try.prog (Instr.extract t37 0) fun _ => 
 pur Try.prog (Instr.extract t37 1) fun t39 => 
 Q t39 w_3) w_2) w_1) w
theorem eq81 (v_data v_a v_b v_c v_swaps v_cmp : Value) (Q : Value → World → Prop) (w : World) : semF Try.prog 81 [v_data, v_a, v_b, v_c, v_swaps, v_cmp] Q w = S81 v_data v_a v_b v_c v_swaps v_cmp Q w := by kernel_rfl
theorem ref81 {v_data v_a v_b v_c v_swaps v_cmp : Value} {Q : Value → World → Prop} {w : World} (h : S81 v_data v_a v_b v_c v_swaps v_cmp Q w) : callS Try.prog 81 #[v_data, v_a, v_b, v_c, v_swaps, v_cmp] Q w :=
  callS_of mix (fun a w => Try.call81 a w) (by kernel_rfl) (by rw [eq81]; exact h)
-- slices.insertionSortCmpFunc[commons/api.Span]
def S82 (v_data v_a v_b v_cmp : Value) (Q : Value → World → Prop) (w : World) : Prop :=
 pur Try.prog (binS .add 3 false true v_a (.int .i64 1)) fun t11 => 
 lp 1 (fun J => fun v_i w_1 => ∀ _j : Fr, 
  pur Try.prog (binS .lss 3 false false v_i v_b) fun t14 => 
  condS t14
   (lp 1 (fun J_1 => fun v_j w_2 => ∀ _j : Fr, 
   pur Try.prog (binS .gtr 3 false false v_j v_a) fun t20 => 
   gd t20 true (fun k w_3 => k v_cmp w_3) (fun t22_1 w_4 => 
   gd t20 true (fun k_1 w_5 => k_1 v_data w_5) (fun t23_1 w_6 => 
   gd t20 true (fun k_2 w_7 => k_2 v_j w_7) (fun t24_1 w_8 => 
   gd t20 true (fun k_3 w_9 => pur Try.prog (Instr.indexAt 49 t23_1 t24_1) fun t25 => k_3 t25 w_9) (fun t25_1 w_10 => 
   gd t20 true (fun k_4 w_11 => rd Try.prog (Instr.loadAt 27 t25_1) (fun t26 => k_4 t26 w_11) w_11) (fun t26_1 w_12 => 
   gd t20 true (fun k_5 w_13 => k_5 v_data w_13) (fun t27_1 w_14 => 
   gd t20 true (fun k_6 w_15 => k_6 v_j w_15) (fun t28_1 w_16 => 
   gd t20 true (fun k_7 w_17 => pur Try.prog (binS .sub 3 false true t28_1 (.int .i64 1)) fun t29 => k_7 t29 w_17) (fun t29_1 w_18 => 
   gd t20 true (fun k_8 w_19 => pur Try.prog (Instr.indexAt 49 t27_1 t29_1) fun t30 => k_8 t30 w_19) (fun t30_1 w_20 => 
   gd t20 true (fun k_9 w_21 => rd Try.prog (Instr.loadAt 27 t30_1) (fun t31 => k_9 t31 w_21) w_21) (fun t31_1 w_22 => 
   gd t20 true (fun k_10 w_23 => callF Try.prog t22_1 #[t26_1, t31_1] (fun t32 w_24 => k_10 t32 w_24) w_23) (fun t32_1 w_25 => 
   gd t20 true (fun k_11 w_26 => pur Try.prog (binS .lss 3 false true t32_1 (.int .i64 0)) fun t33 => k_11 t33 w_26) (fun t33_1 w_27 => 
   pur Try.prog (pickS t20 t33_1 (.bool false)) fun t34 => 
   condS t34
    (pur Try.prog (binS .sub 3 false true v_j (.int .i64 1)) fun t41 => 
   pur Try.prog (binS .sub 3 false true v_j (.int .i64 1)) fun t44 => 
   pur Try.prog (Instr.indexAt 49 v_data t44) fun t45 => 
   rd Try.prog (Instr.loadAt 27 t45) (fun t46 => 
   pur Try.prog (Instr.indexAt 49 v_data v_j) fun t49 => 
   rd Try.prog (Instr.loadAt 27 t49) (fun t50 => 
   pur Try.prog (Instr.indexAt 49 v_data v_j) fun t51 => 
   act Try.prog (thenU (Instr.storeAt 27 t51 t46)) (fun _ w_28 => 
   pur Try.prog (Instr.indexAt 49 v_data t41) fun t52 => 
   act Try.prog (thenU (Instr.storeAt 27 t52 t50)) (fun _ w_29 => 
   pur Try.prog (binS .sub 3 false true v_j (.int .i64 1)) fun t36 => 
   J_1 t36 w_29) w_28) (World.drew w_27)) (World.drew w_27)) (World.drew w_27))
    (pur Try.prog (binS .add 3 false true v_i (.int .i64 1)) fun t16 => 
  J t16 w_27)) w_25) w_22) w_20) w_18) w_16) w_14) w_12) w_10) w_8) w_6) w_4) (World.drew w_2)) [v_i] w_1)
   (Q (.tuple #[]) w_1)) [t11] w
theorem eq82 (v_data v_a v_b v_cmp : Value) (Q : Value → World → Prop) (w : World) : semF Try.prog 82 [v_data, v_a, v_b, v_cmp] Q w = S82 v_data v_a v_b v_cmp Q w := by kernel_rfl
theorem ref82 {v_data v_a v_b v_cmp : Value} {Q : Value → World → Prop} {w : World} (h : S82 v_data v_a v_b v_cmp Q w) : callS Try.prog 82 #[v_data, v_a, v_b, v_cmp] Q w :=
  callS_of mix (fun a w => Try.call82 a w) (by kernel_rfl) (by rw [eq82]; exact h)
-- slices.heapSortCmpFunc[commons/api.Span]
def S83 (v_data v_a v_b v_cmp : Value) (Q : Value → World → Prop) (w : World) : Prop :=
 pur Try.prog (binS .sub 3 false false v_b v_a) fun t16 => 
 pur Try.prog (binS .sub 3 false true t16 (.int .i64 1)) fun t18 => 
 pur Try.prog (binS .quo 3 false true t18 (.int .i64 2)) fun t19 => 
 lp 1 (fun J => fun v_i w_1 => ∀ _j : Fr, 
  pur Try.prog (binS .geq 3 false true v_i (.int .i64 0)) fun t21 => 
  condS t21
   (callS Try.prog 92 #[v_data, v_i, t16, v_a, v_cmp] (fun _ w_2 => 
  pur Try.prog (binS .sub 3 false true v_i (.int .i64 1)) fun t23 => 
  J t23 w_2) w_1)
   (pur Try.prog (binS .sub 3 false true t16 (.int .i64 1)) fun t31 => 
 lp 1 (fun J_1 => fun v_i_1 w_3 => ∀ _j : Fr, 
  pur Try.prog (binS .geq 3 false true v_i_1 (.int .i64 0)) fun t33 => 
  condS t33
   (pur Try.prog (binS .add 3 false false v_a v_i_1) fun t41 => 
  pur Try.prog (binS .add 3 false false v_a v_i_1) fun t45 => 
  pur Try.prog (Instr.indexAt 49 v_data t45) fun t46 => 
  rd Try.prog (Instr.loadAt 27 t46) (fun t47 => 
  pur Try.prog (Instr.indexAt 49 v_data v_a) fun t50 => 
  rd Try.prog (Instr.loadAt 27 t50) (fun t51 => 
  pur Try.prog (Instr.indexAt 49 v_data v_a) fun t52 => 
  act Try.prog (thenU (Instr.storeAt 27 t52 t47)) (fun _ w_4 => 
  pur Try.prog (Instr.indexAt 49 v_data t41) fun t53 => 
  act Try.prog (thenU (Instr.storeAt 27 t53 t51)) (fun _ w_5 => 
  callS Try.prog 92 #[v_data, (.int .i64 0), v_i_1, v_a, v_cmp] (fun _ w_6 => 
  pur Try.prog (binS .sub 3 false true v_i_1 (.int .i64 1)) fun t35 => 
  J_1 t35 w_6) w_5) w_4) (World.drew w_3)) (World.drew w_3)) (World.drew w_3))
   (Q (.tuple #[]) w_3)) [t31] w_1)) [t19] w
theorem eq83 (v_data v_a v_b v_cmp : Value) (Q : Value → World → Prop) (w : World) : semF Try.prog 83 [v_data, v_a, v_b, v_cmp] Q w = S83 v_data v_a v_b v_cmp Q w := by kernel_rfl
theorem ref83 {v_data v_a v_b v_cmp : Value} {Q : Value → World → Prop} {w : World} (h : S83 v_data v_a v_b v_cmp Q w) : callS Try.prog 83 #[v_data, v_a, v_b, v_cmp] Q w :=
  callS_of mix (fun a w => Try.call83 a w) (by kernel_rfl) (by rw [eq83]; exact h)
-- slices.breakPatternsCmpFunc[commons/api.Span]
def S84 (v_data v_a v_b _ : Value) (Q : Value → World → Prop) (w : World) : Prop :=
 pur Try.prog (binS .sub 3 false false v_b v_a) fun t15 => 
 pur Try.prog (binS .geq 3 false true t15 (.int .i64 8)) fun t17 => 
 condS t17
  (pur Try.prog (convert 3 107 t15) fun t19 => 
  act Try.prog (Instr.alloc 107 true (.tuple #[])) (fun t9 w_1 => 
  act Try.prog (thenU (Instr.storeAt 107 t9 t19)) (fun _ w_2 => 
  callS Try.prog 75 #[t15] (fun t21 w_3 => 
  pur Try.prog (binS .quo 3 false true t15 (.int .i64 4)) fun t24 => 
  pur Try.prog (binS .mul 3 false true t24 (.int .i64 2)) fun t25 => 
  pur Try.prog (binS .add 3 false false v_a t25) fun t26 => 
  pur Try.prog (binS .sub 3 false true t26 (.int .i64 1)) fun t27 => 
  lp 1 (fun J => fun v_idx w_4 => ∀ _j : Fr, 
   pur Try.prog (binS .quo 3 false true t15 (.int .i64 4)) fun t31 => 
   pur Try.prog (binS .mul 3 false true t31 (.int .i64 2)) fun t32 => 
   pur Try.prog (binS .add 3 false false v_a t32) fun t33 => 
   pur Try.prog (binS .add 3 false true t33 (.int .i64 1)) fun t34 => 
   pur Try.prog (binS .leq 3 false false v_idx t34) fun t35 => 
   condS t35
    (callS Try.prog 76 #[t9] (fun t38 w_5 => 
   pur Try.prog (binS .sub 80 false true t21 (.int .u64 1)) fun t40 => 
   pur Try.prog (binS .and 80 false false t38 t40) fun t41 => 
   pur Try.prog (convert 80 3 t41) fun t42 => 
   jn 1 (fun J_1 => 
    pur Try.prog (binS .geq 3 false false t42 t15) fun t45 => 
    condS t45
     (pur Try.prog (binS .sub 3 false false t42 t15) fun t48 => 
     J_1 t48 w_5)
     (J_1 t42 w_5))
   (fun v_other w_6 => ∀ _j : Fr, 
    pur Try.prog (binS .add 3 false false v_a v_other) fun t54 => 
    pur Try.prog (binS .add 3 false false v_a v_other) fun t58 => 
    pur Try.prog (Instr.indexAt 49 v_data t58) fun t59 => 
    rd Try.prog (Instr.loadAt 27 t59) (fun t60 => 
    pur Try.prog (Instr.indexAt 49 v_data v_idx) fun t63 => 
    rd Try.prog (Instr.loadAt 27 t63) (fun t64 => 
    pur Try.prog (Instr.indexAt 49 v_data v_idx) fun t65 => 
    act Try.prog (thenU (Instr.storeAt 27 t65 t60)) (fun _ w_7 => 
    pur Try.prog (Instr.indexAt 49 v_data t54) fun t66 => 
    act Try.prog (thenU (Instr.storeAt 27 t66 t64)) (fun _ w_8 => 
    pur Try.prog (binS .add 3 false true v_idx (.int .i64 1)) fun t37 => 
   J t37 w_8) w_7) (World.drew w_6)) (World.drew w_6)) (World.drew w_6))) w_4)
    (Q (.tuple #[]) w_4)) [t27] w_3) w_2) w_1) w)
  (Q (.tuple #[]) w)
theorem eq84 (v_data v_a v_b v_cmp : Value) (Q : Value → World → Prop) (w : World) : semF Try.prog 84 [v_data, v_a, v_b, v_cmp] Q w = S84 v_data v_a v_b v_cmp Q w := by kernel_rfl
theorem ref84 {v_data v_a v_b v_cmp : Value} {Q : Value → World → Prop} {w : World} (h : S84 v_data v_a v_b v_cmp Q w) : callS Try.prog 84 #[v_data, v_a, v_b, v_cmp] Q w :=
  callS_of mix (fun a w => Try.call84 a w) (by kernel_rfl) (by rw [eq84]; exact h)
-- slices.choosePivotCmpFunc[commons/api.Span]
def S85 (v_data v_a v_b v_cmp : Value) (Q : Value → World → Prop) (w : World) : Prop :=
 pur Try.prog (binS .sub 3 false false v_b v_a) fun t17 => 
 act Try.prog (Instr.alloc 3 true (.tuple #[])) (fun t11 w_1 => 
 pur Try.prog (binS .quo 3 false true t17 (.int .i64 4)) fun t20 => 
 pur Try.prog (binS .mul 3 false true t20 (.int .i64 1)) fun t21 => 
 pur Try.prog (binS .add 3 false false v_a t21) fun t22 => 
 pur Try.prog (binS .quo 3 false true t17 (.int .i64 4)) fun t25 => 
 pur Try.prog (binS .mul 3 false true t25 (.int .i64 2)) fun t26 => 
 pur Try.prog (binS .add 3 false false v_a t26) fun t27 => 
 pur Try.prog (binS .quo 3 false true t17 (.int .i64 4)) fun t30 => 
 pur Try.prog (binS .mul 3 false true t30 (.int .i64 3)) fun t31 => 
 pur Try.prog (binS .add 3 false false v_a t31) fun t32 => 
 jn 1 (fun J => 
  pur Try.prog (binS .geq 3 false true t17 (.int .i64 8)) fun t34 => 
  condS t34
   (jn 3 (fun J_1 => 
    pur Try.prog (binS .geq 3 false true t17 (.int .i64 50)) fun t36 => 
    condS t36
     (callS Try.prog 93 #[v_data, t22, t11, v_cmp] (fun t40 w_2 => 
     callS Try.prog 93 #[v_data, t27, t11, v_cmp] (fun t44 w_3 => 
     callS Try.prog 93 #[v_data, t32, t11, v_cmp] (fun t48 w_4 => 
     J_1 t40 t44 t48 w_4) w_3) w_2) w_1)
     (J_1 t22 t27 t32 w_1))
   (fun v_i v_j v_k w_5 => ∀ _j : Fr, 
    callS Try.prog 94 #[v_data, v_i, v_j, v_k, t11, v_cmp] (fun t54 w_6 => 
    J t54 w_6) w_5))
   (J t27 w_1))
 (fun v_j_1 w_7 => ∀ _j : Fr, 
  rd Try.prog (Instr.loadAt 3 t11) (fun t55 => 
  pur Try.prog (binS .eql 3 false true t55 (.int .i64 0)) fun t58 => 
  condS t58
   (Q (.tuple #[v_j_1, (.int .i64 1)]) w_7)
   (pur Try.prog (binS .eql 3 false true t55 (.int .i64 12)) fun t61 => 
   condS t61
    (Q (.tuple #[v_j_1, (.int .i64 2)]) w_7)
    (Q (.tuple #[v_j_1, (.int .i64 0)]) w_7))) w_7)) w
theorem eq85 (v_data v_a v_b v_cmp : Value) (Q : Value → World → Prop) (w : World) : semF Try.prog 85 [v_data, v_a, v_b, v_cmp] Q w = S85 v_data v_a v_b v_cmp Q w := by kernel_rfl
theorem ref85 {v_data v_a v_b v_cmp : Value} {Q : Value → World → Prop} {w : World} (h : S85 v_data v_a v_b v_cmp Q w) : callS Try.prog 85 #[v_data, v_a, v_b, v_cmp] Q w :=
  callS_of mix (fun a w => Try.call85 a w) (by kernel_rfl) (by rw [eq85]; exact h)
-- slices.reverseRangeCmpFunc[commons/api.Span]
def S86 (v_data v_a v_b _ : Value) (Q : Value → World → Prop) (w : World) : Prop :=
 pur Try.prog (binS .sub 3 false true v_b (.int .i64 1)) fun t12 => 
 lp 2 (fun J => fun v_i v_j w_1 => ∀ _j : Fr, 
  pur Try.prog (binS .lss 3 false false v_i v_j) fun t15 => 
  condS t15
   (pur Try.prog (Instr.indexAt 49 v_data v_j) fun t22 => 
  rd Try.prog (Instr.loadAt 27 t22) (fun t23 => 
  pur Try.prog (Instr.indexAt 49 v_data v_i) fun t26 => 
  rd Try.prog (Instr.loadAt 27 t26) (fun t27 => 
  pur Try.prog (Instr.indexAt 49 v_data v_i) fun t28 => 
  act Try.prog (thenU (Instr.storeAt 27 t28 t23)) (fun _ w_2 => 
  pur Try.prog (Instr.indexAt 49 v_data v_j) fun t29 => 
  act Try.prog (thenU (Instr.storeAt 27 t29 t27)) (fun _ w_3 => 
  pur Try.prog (binS .add 3 false true v_i (.int .i64 1)) fun t31 => 
  pur Try.prog (binS .sub 3 false true v_j (.int .i64 1)) fun t33 => 
  J t31 t33 w_3) w_2) (World.drew w_1)) (World.drew w_1)) (World.drew w_1))
   (Q (.tuple #[]) w_1)) [v_a, t12] w
theorem eq86 (v_data v_a v_b v_cmp : Value) (Q : Value → World → Prop) (w : World) : semF Try.prog 86 [v_data, v_a, v_b, v_cmp] Q w = S86 v_data v_a v_b v_cmp Q w := by kernel_rfl
theorem ref86 {v_data v_a v_b v_cmp : Value} {Q : Value → World → Prop} {w : World} (h : S86 v_data v_a v_b v_cmp Q w) : callS Try.prog 86 #[v_data, v_a, v_b, v_cmp] Q w :=
  callS_of mix (fun a w => Try.call86 a w) (by kernel_rfl) (by rw [eq86]; exact h)
-- slices.partialInsertionSortCmpFunc[commons/api.Span]
def S87 (v_data v_a v_b v_cmp : Value) (Q : Value → World → Prop) (w : World) : Prop :=
 pur Try.prog (binS .add 3 false true v_a (.int .i64 1)) fun t14 => 
 lp 2 (fun J => fun v_i v_j w_1 => ∀ _j : Fr, 
  pur Try.prog (binS .lss 3 false true v_j (.int .i64 5)) fun t16 => 
  condS t16
   (jn 1 (fun J_1 => 
   lp 1 (fun J_2 => fun v_i_1 w_2 => ∀ _j : Fr, 
    pur Try.prog (binS .lss 3 false false v_i_1 v_b) fun t21 => 
    gd t21 true (fun k w_3 => k v_cmp w_3) (fun t23_1 w_4 => 
    gd t21 true (fun k_1 w_5 => k_1 v_data w_5) (fun t24_1 w_6 => 
    gd t21 true (fun k_2 w_7 => k_2 v_i_1 w_7) (fun t25_1 w_8 => 
    gd t21 true (fun k_3 w_9 => pur Try.prog (Instr.indexAt 49 t24_1 t25_1) fun t26 => k_3 t26 w_9) (fun t26_1 w_10 => 
    gd t21 true (fun k_4 w_11 => rd Try.prog (Instr.loadAt 27 t26_1) (fun t27 => k_4 t27 w_11) w_11) (fun t27_1 w_12 => 
    gd t21 true (fun k_5 w_13 => k_5 v_data w_13) (fun t28_1 w_14 => 
    gd t21 true (fun k_6 w_15 => k_6 v_i_1 w_15) (fun t29_1 w_16 => 
    gd t21 true (fun k_7 w_17 => pur Try.prog (binS .sub 3 false true t29_1 (.int .i64 1)) fun t30 => k_7 t30 w_17) (fun t30_1 w_18 => 
    gd t21 true (fun k_8 w_19 => pur Try.prog (Instr.indexAt 49 t28_1 t30_1) fun t31 => k_8 t31 w_19) (fun t31_1 w_20 => 
    gd t21 true (fun k_9 w_21 => rd Try.prog (Instr.loadAt 27 t31_1) (fun t32 => k_9 t32 w_21) w_21) (fun t32_1 w_22 => 
    gd t21 true (fun k_10 w_23 => callF Try.prog t23_1 #[t27_1, t32_1] (fun t33 w_24 => k_10 t33 w_24) w_23) (fun t33_1 w_25 => 
    gd t21 true (fun k_11 w_26 => pur Try.prog (binS .lss 3 false true t33_1 (.int .i64 0)) fun t34 => k_11 t34 w_26) (fun t34_1 w_27 => 
    gd t21 true (fun k_12 w_28 => pur Try.prog (Op.unary .not t34_1) fun t35 => k_12 t35 w_28) (fun t35_1 w_29 => 
    pur Try.prog (pickS t21 t35_1 (.bool false)) fun t36 => 
    condS t36
     (pur Try.prog (binS .add 3 false true v_i_1 (.int .i64 1)) fun t38 => 
    J_2 t38 w_29)
     (pur Try.prog (binS .eql 3 false false v_i_1 v_b) fun t41 => 
   condS t41
    (Q (.bool true) w_29)
    (pur Try.prog (binS .sub 3 false false v_b v_a) fun t44 => 
   pur Try.prog (binS .lss 3 false true t44 (.int .i64 50)) fun t45 => 
   condS t45
    (Q (.bool false) w_29)
    (pur Try.prog (binS .sub 3 false true v_i_1 (.int .i64 1)) fun t50 => 
   pur Try.prog (binS .sub 3 false true v_i_1 (.int .i64 1)) fun t53 => 
   pur Try.prog (Instr.indexAt 49 v_data t53) fun t54 => 
   rd Try.prog (Instr.loadAt 27 t54) (fun t55 => 
   pur Try.prog (Instr.indexAt 49 v_data v_i_1) fun t58 => 
   rd Try.prog (Instr.loadAt 27 t58) (fun t59 => 
   pur Try.prog (Instr.indexAt 49 v_data v_i_1) fun t60 => 
   act Try.prog (thenU (Instr.storeAt 27 t60 t55)) (fun _ w_30 => 
   pur Try.prog (Instr.indexAt 49 v_data t50) fun t61 => 
   act Try.prog (thenU (Instr.storeAt 27 t61 t59)) (fun _ w_31 => 
   jn 0 (fun J_3 => 
    pur Try.prog (binS .sub 3 false false v_i_1 v_a) fun t64 => 
    pur Try.prog (binS .geq 3 false true t64 (.int .i64 2)) fun t65 => 
    condS t65
     (pur Try.prog (binS .sub 3 false true v_i_1 (.int .i64 1)) fun t67 => 
     lp 1 (fun J_4 => fun v_j_1 w_32 => ∀ _j : Fr, 
      pur Try.prog (binS .geq 3 false true v_j_1 (.int .i64 1)) fun t69 => 
      condS t69
       (pur Try.prog (Instr.indexAt 49 v_data v_j_1) fun t75 => 
      rd Try.prog (Instr.loadAt 27 t75) (fun t76 => 
      pur Try.prog (binS .sub 3 false true v_j_1 (.int .i64 1)) fun t79 => 
      pur Try.prog (Instr.indexAt 49 v_data t79) fun t80 => 
      rd Try.prog (Instr.loadAt 27 t80) (fun t81 => 
      callF Try.prog v_cmp #[t76, t81] (fun t82 w_33 => 
      pur Try.prog (binS .lss 3 false true t82 (.int .i64 0)) fun t83 => 
      pur Try.prog (Op.unary .not t83) fun t84 => 
      condS t84
       (J_3  w_33)
       (pur Try.prog (binS .sub 3 false true v_j_1 (.int .i64 1)) fun t89 => 
      pur Try.prog (binS .sub 3 false true v_j_1 (.int .i64 1)) fun t92 => 
      pur Try.prog (Instr.indexAt 49 v_data t92) fun t93 => 
      rd Try.prog (Instr.loadAt 27 t93) (fun t94 => 
      pur Try.prog (Instr.indexAt 49 v_data v_j_1) fun t97 => 
      rd Try.prog (Instr.loadAt 27 t97) (fun t98 => 
      pur Try.prog (Instr.indexAt 49 v_data v_j_1) fun t99 => 
      act Try.prog (thenU (Instr.storeAt 27 t99 t94)) (fun _ w_34 => 
      pur Try.prog (Instr.indexAt 49 v_data t89) fun t100 => 
      act Try.prog (thenU (Instr.storeAt 27 t100 t98)) (fun _ w_35 => 
      pur Try.prog (binS .sub 3 false true v_j_1 (.int .i64 1)) fun t71 => 
      J_4 t71 w_35) w_34) (World.drew w_33)) (World.drew w_33)) (World.drew w_33))) (World.drew w_32)) (World.drew w_32)) (World.drew w_32))
       (J_3  w_32)) [t67] w_31)
     (J_3  w_31))
   (fun  w_36 => ∀ _j : Fr, 
    pur Try.prog (binS .sub 3 false false v_b v_i_1) fun t103 => 
    pur Try.prog (binS .geq 3 false true t103 (.int .i64 2)) fun t104 => 
    condS t104
     (pur Try.prog (binS .add 3 false true v_i_1 (.int .i64 1)) fun t106 => 
     lp 1 (fun J_5 => fun v_j_2 w_37 => ∀ _j : Fr, 
      pur Try.prog (binS .lss 3 false false v_j_2 v_b) fun t109 => 
      condS t109
       (pur Try.prog (Instr.indexAt 49 v_data v_j_2) fun t115 => 
      rd Try.prog (Instr.loadAt 27 t115) (fun t116 => 
      pur Try.prog (binS .sub 3 false true v_j_2 (.int .i64 1)) fun t119 => 
      pur Try.prog (Instr.indexAt 49 v_data t119) fun t120 => 
      rd Try.prog (Instr.loadAt 27 t120) (fun t121 => 
      callF Try.prog v_cmp #[t116, t121] (fun t122 w_38 => 
      pur Try.prog (binS .lss 3 false true t122 (.int .i64 0)) fun t123 => 
      pur Try.prog (Op.unary .not t123) fun t124 => 
      condS t124
       (J_1 v_i_1 w_38)
       (pur Try.prog (binS .sub 3 false true v_j_2 (.int .i64 1)) fun t129 => 
      pur Try.prog (binS .sub 3 false true v_j_2 (.int .i64 1)) fun t132 => 
      pur Try.prog (Instr.indexAt 49 v_data t132) fun t133 => 
      rd Try.prog (Instr.loadAt 27 t133) (fun t134 => 
      pur Try.prog (Instr.indexAt 49 v_data v_j_2) fun t137 => 
      rd Try.prog (Instr.loadAt 27 t137) (fun t138 => 
      pur Try.prog (Instr.indexAt 49 v_data v_j_2) fun t139 => 
      act Try.prog (thenU (Instr.storeAt 27 t139 t134)) (fun _ w_39 => 
      pur Try.prog (Instr.indexAt 49 v_data t129) fun t140 => 
      act Try.prog (thenU (Instr.storeAt 27 t140 t138)) (fun _ w_40 => 
      pur Try.prog (binS .add 3 false true v_j_2 (.int .i64 1)) fun t111 => 
      J_5 t111 w_40) w_39) (World.drew w_38)) (World.drew w_38)) (World.drew w_38))) (World.drew w_37)) (World.drew w_37)) (World.drew w_37))
       (J_1 v_i_1 w_37)) [t106] w_36)
     (J_1 v_i_1 w_36))) w_30) (World.drew w_29)) (World.drew w_29)) (World.drew w_29))))) w_27) w_25) w_22) w_20) w_18) w_16) w_14) w_12) w_10) w_8) w_6) w_4) (World.drew w_2)) [v_i] w_1)
  (fun v_i_2 w_41 => ∀ _j : Fr, 
   pur Try.prog (binS .add 3 false true v_j (.int .i64 1)) fun t18 => 
   J v_i_2 t18 w_41))
   (Q (.bool false) w_1)) [t14, (.int .i64 0)] w
theorem eq87 (v_data v_a v_b v_cmp : Value) (Q : Value → World → Prop) (w : World) : semF Try.prog 87 [v_data, v_a, v_b, v_cmp] Q w = S87 v_data v_a v_b v_cmp Q w := by kernel_rfl
theorem ref87 {v_data v_a v_b v_cmp : Value} {Q : Value → World → Prop} {w : World} (h : S87 v_data v_a v_b v_cmp Q w) : callS Try.prog 87 #[v_data, v_a, v_b, v_cmp] Q w :=
  callS_of mix (fun a w => Try.call87 a w) (by kernel_rfl) (by rw [eq87]; exact h)
-- slices.partitionEqualCmpFunc[commons/api.Span]
def S88 (v_data v_a v_b v_pivot v_cmp : Value) (Q : Value → World → Prop) (w : World) : Prop :=
 pur Try.prog (Instr.indexAt 49 v_data v_pivot) fun t19 => 
 rd Try.prog (Instr.loadAt 27 t19) (fun t20 => 
 pur Try.prog (Instr.indexAt 49 v_data v_a) fun t23 => 
 rd Try.prog (Instr.loadAt 27 t23) (fun t24 => 
 pur Try.prog (Instr.indexAt 49 v_data v_a) fun t25 => 
 act Try.prog (thenU (Instr.storeAt 27 t25 t20)) (fun _ w_1 => 
 pur Try.prog (Instr.indexAt 49 v_data v_pivot) fun t26 => 
 act Try.prog (thenU (Instr.storeAt 27 t26 t24)) (fun _ w_2 => 
 pur Try.prog (binS .add 3 false true v_a (.int .i64 1)) fun t28 => 
 pur Try.prog (binS .sub 3 false true v_b (.int .i64 1)) fun t30 => 
 lp 2 (fun J => fun v_i v_j w_3 => ∀ _j : Fr, 
  lp 1 (fun J_1 => fun v_i_1 w_4 => ∀ _j : Fr, 
   pur Try.prog (binS .leq 3 false false v_i_1 v_j) fun t33 => 
   gd t33 true (fun k w_5 => k v_cmp w_5) (fun t35_1 w_6 => 
   gd t33 true (fun k_1 w_7 => k_1 v_data w_7) (fun t36_1 w_8 => 
   gd t33 true (fun k_2 w_9 => k_2 v_a w_9) (fun t37_1 w_10 => 
   gd t33 true (fun k_3 w_11 => pur Try.prog (Instr.indexAt 49 t36_1 t37_1) fun t38 => k_3 t38 w_11) (fun t38_1 w_12 => 
   gd t33 true (fun k_4 w_13 => rd Try.prog (Instr.loadAt 27 t38_1) (fun t39 => k_4 t39 w_13) w_13) (fun t39_1 w_14 => 
   gd t33 true (fun k_5 w_15 => k_5 v_data w_15) (fun t40_1 w_16 => 
   gd t33 true (fun k_6 w_17 => k_6 v_i_1 w_17) (fun t41_1 w_18 => 
   gd t33 true (fun k_7 w_19 => pur Try.prog (Instr.indexAt 49 t40_1 t41_1) fun t42 => k_7 t42 w_19) (fun t42_1 w_20 => 
   gd t33 true (fun k_8 w_21 => rd Try.prog (Instr.loadAt 27 t42_1) (fun t43 => k_8 t43 w_21) w_21) (fun t43_1 w_22 => 
   gd t33 true (fun k_9 w_23 => callF Try.prog t35_1 #[t39_1, t43_1] (fun t44 w_24 => k_9 t44 w_24) w_23) (fun t44_1 w_25 => 
   gd t33 true (fun k_10 w_26 => pur Try.prog (binS .lss 3 false true t44_1 (.int .i64 0)) fun t45 => k_10 t45 w_26) (fun t45_1 w_27 => 
   gd t33 true (fun k_11 w_28 => pur Try.prog (Op.unary .not t45_1) fun t46 => k_11 t46 w_28) (fun t46_1 w_29 => 
   pur Try.prog (pickS t33 t46_1 (.bool false)) fun t47 => 
   condS t47
    (pur Try.prog (binS .add 3 false true v_i_1 (.int .i64 1)) fun t49 => 
   J_1 t49 w_29)
    (lp 1 (fun J_2 => fun v_j_1 w_30 => ∀ _j : Fr, 
   pur Try.prog (binS .leq 3 false false v_i_1 v_j_1) fun t52 => 
   gd t52 true (fun k_12 w_31 => k_12 v_cmp w_31) (fun t54_1 w_32 => 
   gd t52 true (fun k_13 w_33 => k_13 v_data w_33) (fun t55_1 w_34 => 
   gd t52 true (fun k_14 w_35 => k_14 v_a w_35) (fun t56_1 w_36 => 
   gd t52 true (fun k_15 w_37 => pur Try.prog (Instr.indexAt 49 t55_1 t56_1) fun t57 => k_15 t57 w_37) (fun t57_1 w_38 => 
   gd t52 true (fun k_16 w_39 => rd Try.prog (Instr.loadAt 27 t57_1) (fun t58 => k_16 t58 w_39) w_39) (fun t58_1 w_40 => 
   gd t52 true (fun k_17 w_41 => k_17 v_data w_41) (fun t59_1 w_42 => 
   gd t52 true (fun k_18 w_43 => k_18 v_j_1 w_43) (fun t60_1 w_44 => 
   gd t52 true (fun k_19 w_45 => pur Try.prog (Instr.indexAt 49 t59_1 t60_1) fun t61 => k_19 t61 w_45) (fun t61_1 w_46 => 
   gd t52 true (fun k_20 w_47 => rd Try.prog (Instr.loadAt 27 t61_1) (fun t62 => k_20 t62 w_47) w_47) (fun t62_1 w_48 => 
   gd t52 true (fun k_21 w_49 => callF Try.prog t54_1 #[t58_1, t62_1] (fun t63 w_50 => k_21 t63 w_50) w_49) (fun t63_1 w_51 => 
   gd t52 true (fun k_22 w_52 => pur Try.prog (binS .lss 3 false true t63_1 (.int .i64 0)) fun t64 => k_22 t64 w_52) (fun t64_1 w_53 => 
   pur Try.prog (pickS t52 t64_1 (.bool false)) fun t65 => 
   condS t65
    (pur Try.prog (binS .sub 3 false true v_j_1 (.int .i64 1)) fun t67 => 
   J_2 t67 w_53)
    (pur Try.prog (binS .gtr 3 false false v_i_1 v_j_1) fun t70 => 
  condS t70
   (Q v_i_1 w_53)
   (pur Try.prog (Instr.indexAt 49 v_data v_j_1) fun t77 => 
  rd Try.prog (Instr.loadAt 27 t77) (fun t78 => 
  pur Try.prog (Instr.indexAt 49 v_data v_i_1) fun t81 => 
  rd Try.prog (Instr.loadAt 27 t81) (fun t82 => 
  pur Try.prog (Instr.indexAt 49 v_data v_i_1) fun t83 => 
  act Try.prog (thenU (Instr.storeAt 27 t83 t78)) (fun _ w_54 => 
  pur Try.prog (Instr.indexAt 49 v_data v_j_1) fun t84 => 
  act Try.prog (thenU (Instr.storeAt 27 t84 t82)) (fun _ w_55 => 
  pur Try.prog (binS .add 3 false true v_i_1 (.int .i64 1)) fun t86 => 
  pur Try.prog (binS .sub 3 false true v_j_1 (.int .i64 1)) fun t88 => 
  J t86 t88 w_55) w_54) (World.drew w_53)) (World.drew w_53)) (World.drew w_53)))) w_51) w_48) w_46) w_44) w_42) w_40) w_38) w_36) w_34) w_32) (World.drew w_30)) [v_j] w_29)) w_27) w_25) w_22) w_20) w_18) w_16) w_14) w_12) w_10) w_8) w_6) (World.drew w_4)) [v_i] w_3) [t28, t30] w_2) w_1) (World.drew w)) (World.drew w)) (World.drew w)
theorem eq88 (v_data v_a v_b v_pivot v_cmp : Value) (Q : Value → World → Prop) (w : World) : semF Try.prog 88 [v_data, v_a, v_b, v_pivot, v_cmp] Q w = S88 v_data v_a v_b v_pivot v_cmp Q w := by kernel_rfl
theorem ref88 {v_data v_a v_b v_pivot v_cmp : Value} {Q : Value → World → Prop} {w : World} (h : S88 v_data v_a v_b v_pivot v_cmp Q w) : callS Try.prog 88 #[v_data, v_a, v_b, v_pivot, v_cmp] Q w :=
  callS_of mix (fun a w => Try.call88 a w) (by kernel_rfl) (by rw [eq88]; exact h)
-- slices.partitionCmpFunc[commons/api.Span]
def S89 (v_data v_a v_b v_pivot v_cmp : Value) (Q : Value → World → Prop) (w : World) : Prop :=
 pur Try.prog (Instr.indexAt 49 v_data v_pivot) fun t20 => 
 rd Try.prog (Instr.loadAt 27 t20) (fun t21 => 
 pur Try.prog (Instr.indexAt 49 v_data v_a) fun t24 => 
 rd Try.prog (Instr.loadAt 27 t24) (fun t25 => 
 pur Try.prog (Instr.indexAt 49 v_data v_a) fun t26 => 
 act Try.prog (thenU (Instr.storeAt 27 t26 t21)) (fun _ w_1 => 
 pur Try.prog (Instr.indexAt 49 v_data v_pivot) fun t27 => 
 act Try.prog (thenU (Instr.storeAt 27 t27 t25)) (fun _ w_2 => 
 pur Try.prog (binS .add 3 false true v_a (.int .i64 1)) fun t29 => 
 pur Try.prog (binS .sub 3 false true v_b (.int .i64 1)) fun t31 => 
 lp 1 (fun J => fun v_i w_3 => ∀ _j : Fr, 
  pur Try.prog (binS .leq 3 false false v_i t31) fun t34 => 
  gd t34 true (fun k w_4 => k v_cmp w_4) (fun t36_1 w_5 => 
  gd t34 true (fun k_1 w_6 => k_1 v_data w_6) (fun t37_1 w_7 => 
  gd t34 true (fun k_2 w_8 => k_2 v_i w_8) (fun t38_1 w_9 => 
  gd t34 true (fun k_3 w_10 => pur Try.prog (Instr.indexAt 49 t37_1 t38_1) fun t39 => k_3 t39 w_10) (fun t39_1 w_11 => 
  gd t34 true (fun k_4 w_12 => rd Try.prog (Instr.loadAt 27 t39_1) (fun t40 => k_4 t40 w_12) w_12) (fun t40_1 w_13 => 
  gd t34 true (fun k_5 w_14 => k_5 v_data w_14) (fun t41_1 w_15 => 
  gd t34 true (fun k_6 w_16 => k_6 v_a w_16) (fun t42_1 w_17 => 
  gd t34 true (fun k_7 w_18 => pur Try.prog (Instr.indexAt 49 t41_1 t42_1) fun t43 => k_7 t43 w_18) (fun t43_1 w_19 => 
  gd t34 true (fun k_8 w_20 => rd Try.prog (Instr.loadAt 27 t43_1) (fun t44 => k_8 t44 w_20) w_20) (fun t44_1 w_21 => 
  gd t34 true (fun k_9 w_22 => callF Try.prog t36_1 #[t40_1, t44_1] (fun t45 w_23 => k_9 t45 w_23) w_22) (fun t45_1 w_24 => 
  gd t34 true (fun k_10 w_25 => pur Try.prog (binS .lss 3 false true t45_1 (.int .i64 0)) fun t46 => k_10 t46 w_25) (fun t46_1 w_26 => 
  pur Try.prog (pickS t34 t46_1 (.bool false)) fun t47 => 
  condS t47
   (pur Try.prog (binS .add 3 false true v_i (.int .i64 1)) fun t49 => 
  J t49 w_26)
   (lp 1 (fun J_1 => fun v_j w_27 => ∀ _j : Fr, 
  pur Try.prog (binS .leq 3 false false v_i v_j) fun t52 => 
  gd t52 true (fun k_11 w_28 => k_11 v_cmp w_28) (fun t54_1 w_29 => 
  gd t52 true (fun k_12 w_30 => k_12 v_data w_30) (fun t55_1 w_31 => 
  gd t52 true (fun k_13 w_32 => k_13 v_j w_32) (fun t56_1 w_33 => 
  gd t52 true (fun k_14 w_34 => pur Try.prog (Instr.indexAt 49 t55_1 t56_1) fun t57 => k_14 t57 w_34) (fun t57_1 w_35 => 
  gd t52 true (fun k_15 w_36 => rd Try.prog (Instr.loadAt 27 t57_1) (fun t58 => k_15 t58 w_36) w_36) (fun t58_1 w_37 => 
  gd t52 true (fun k_16 w_38 => k_16 v_data w_38) (fun t59_1 w_39 => 
  gd t52 true (fun k_17 w_40 => k_17 v_a w_40) (fun t60_1 w_41 => 
  gd t52 true (fun k_18 w_42 => pur Try.prog (Instr.indexAt 49 t59_1 t60_1) fun t61 => k_18 t61 w_42) (fun t61_1 w_43 => 
  gd t52 true (fun k_19 w_44 => rd Try.prog (Instr.loadAt 27 t61_1) (fun t62 => k_19 t62 w_44) w_44) (fun t62_1 w_45 => 
  gd t52 true (fun k_20 w_46 => callF Try.prog t54_1 #[t58_1, t62_1] (fun t63 w_47 => k_20 t63 w_47) w_46) (fun t63_1 w_48 => 
  gd t52 true (fun k_21 w_49 => pur Try.prog (binS .lss 3 false true t63_1 (.int .i64 0)) fun t64 => k_21 t64 w_49) (fun t64_1 w_50 => 
  gd t52 true (fun k_22 w_51 => pur Try.prog (Op.unary .not t64_1) fun t65 => k_22 t65 w_51) (fun t65_1 w_52 => 
  pur Try.prog (pickS t52 t65_1 (.bool false)) fun t66 => 
  condS t66
   (pur Try.prog (binS .sub 3 false true v_j (.int .i64 1)) fun t68 => 
  J_1 t68 w_52)
   (pur Try.prog (binS .gtr 3 false false v_i v_j) fun t71 => 
 condS t71
  (pur Try.prog (Instr.indexAt 49 v_data v_a) fun t78 => 
  rd Try.prog (Instr.loadAt 27 t78) (fun t79 => 
  pur Try.prog (Instr.indexAt 49 v_data v_j) fun t82 => 
  rd Try.prog (Instr.loadAt 27 t82) (fun t83 => 
  pur Try.prog (Instr.indexAt 49 v_data v_j) fun t84 => 
  act Try.prog (thenU (Instr.storeAt 27 t84 t79)) (fun _ w_53 => 
  pur Try.prog (Instr.indexAt 49 v_data v_a) fun t85 => 
  act Try.prog (thenU (Instr.storeAt 27 t85 t83)) (fun _ w_54 => 
  Q (.tuple #[v_j, (.bool true)]) w_54) w_53) (World.drew w_52)) (World.drew w_52)) (World.drew w_52))
  (pur Try.prog (Instr.indexAt 49 v_data v_j) fun t93 => 
 rd Try.prog (Instr.loadAt 27 t93) (fun t94 => 
 pur Try.prog (Instr.indexAt 49 v_data v_i) fun t97 => 
 rd Try.prog (Instr.loadAt 27 t97) (fun t98 => 
 pur Try.prog (Instr.indexAt 49 v_data v_i) fun t99 => 
 act Try.prog (thenU (Instr.storeAt 27 t99 t94)) (fun _ w_55 => 
 pur Try.prog (Instr.indexAt 49 v_data v_j) fun t100 => 
 act Try.prog (thenU (Instr.storeAt 27 t100 t98)) (fun _ w_56 => 
 pur Try.prog (binS .add 3 false true v_i (.int .i64 1)) fun t102 => 
 pur Try.prog (binS .sub 3 false true v_j (.int .i64 1)) fun t104 => 
 lp 2 (fun J_2 => fun v_i_1 v_j_1 w_57 => ∀ _j : Fr, 
  lp 1 (fun J_3 => fun v_i_2 w_58 => ∀ _j : Fr, 
   pur Try.prog (binS .leq 3 false false v_i_2 v_j_1) fun t107 => 
   gd t107 true (fun k_23 w_59 => k_23 v_cmp w_59) (fun t109_1 w_60 => 
   gd t107 true (fun k_24 w_61 => k_24 v_data w_61) (fun t110_1 w_62 => 
   gd t107 true (fun k_25 w_63 => k_25 v_i_2 w_63) (fun t111_1 w_64 => 
   gd t107 true (fun k_26 w_65 => pur Try.prog (Instr.indexAt 49 t110_1 t111_1) fun t112 => k_26 t112 w_65) (fun t112_1 w_66 => 
   gd t107 true (fun k_27 w_67 => rd Try.prog (Instr.loadAt 27 t112_1) (fun t113 => k_27 t113 w_67) w_67) (fun t113_1 w_68 => 
   gd t107 true (fun k_28 w_69 => k_28 v_data w_69) (fun t114_1 w_70 => 
   gd t107 true (fun k_29 w_71 => k_29 v_a w_71) (fun t115_1 w_72 => 
   gd t107 true (fun k_30 w_73 => pur Try.prog (Instr.indexAt 49 t114_1 t115_1) fun t116 => k_30 t116 w_73) (fun t116_1 w_74 => 
   gd t107 true (fun k_31 w_75 => rd Try.prog (Instr.loadAt 27 t116_1) (fun t117 => k_31 t117 w_75) w_75) (fun t117_1 w_76 => 
   gd t107 true (fun k_32 w_77 => callF Try.prog t109_1 #[t113_1, t117_1] (fun t118 w_78 => k_32 t118 w_78) w_77) (fun t118_1 w_79 => 
   gd t107 true (fun k_33 w_80 => pur Try.prog (binS .lss 3 false true t118_1 (.int .i64 0)) fun t119 => k_33 t119 w_80) (fun t119_1 w_81 => 
   pur Try.prog (pickS t107 t119_1 (.bool false)) fun t120 => 
   condS t120
    (pur Try.prog (binS .add 3 false true v_i_2 (.int .i64 1)) fun t122 => 
   J_3 t122 w_81)
    (lp 1 (fun J_4 => fun v_j_2 w_82 => ∀ _j : Fr, 
   pur Try.prog (binS .leq 3 false false v_i_2 v_j_2) fun t125 => 
   gd t125 true (fun k_34 w_83 => k_34 v_cmp w_83) (fun t127_1 w_84 => 
   gd t125 true (fun k_35 w_85 => k_35 v_data w_85) (fun t128_1 w_86 => 
   gd t125 true (fun k_36 w_87 => k_36 v_j_2 w_87) (fun t129_1 w_88 => 
   gd t125 true (fun k_37 w_89 => pur Try.prog (Instr.indexAt 49 t128_1 t129_1) fun t130 => k_37 t130 w_89) (fun t130_1 w_90 => 
   gd t125 true (fun k_38 w_91 => rd Try.prog (Instr.loadAt 27 t130_1) (fun t131 => k_38 t131 w_91) w_91) (fun t131_1 w_92 => 
   gd t125 true (fun k_39 w_93 => k_39 v_data w_93) (fun t132_1 w_94 => 
   gd t125 true (fun k_40 w_95 => k_40 v_a w_95) (fun t133_1 w_96 => 
   gd t125 true (fun k_41 w_97 => pur Try.prog (Instr.indexAt 49 t132_1 t133_1) fun t134 => k_41 t134 w_97) (fun t134_1 w_98 => 
   gd t125 true (fun k_42 w_99 => rd Try.prog (Instr.loadAt 27 t134_1) (fun t135 => k_42 t135 w_99) w_99) (fun t135_1 w_100 => 
   gd t125 true (fun k_43 w_101 => callF Try.prog t127_1 #[t131_1, t135_1] (fun t136 w_102 => k_43 t136 w_102) w_101) (fun t136_1 w_103 => 
   gd t125 true (fun k_44 w_104 => pur Try.prog (binS .lss 3 false true t136_1 (.int .i64 0)) fun t137 => k_44 t137 w_104) (fun t137_1 w_105 => 
   gd t125 true (fun k_45 w_106 => pur Try.prog (Op.unary .not t137_1) fun t138 => k_45 t138 w_106) (fun t138_1 w_107 => 
   pur Try.prog (pickS t125 t138_1 (.bool false)) fun t139 => 
   condS t139
    (pur Try.prog (binS .sub 3 false true v_j_2 (.int .i64 1)) fun t141 => 
   J_4 t141 w_107)
    (pur Try.prog (binS .gtr 3 false false v_i_2 v_j_2) fun t144 => 
  condS t144
   (pur Try.prog (Instr.indexAt 49 v_data v_a) fun t169 => 
 rd Try.prog (Instr.loadAt 27 t169) (fun t170 => 
 pur Try.prog (Instr.indexAt 49 v_data v_j_2) fun t173 => 
 rd Try.prog (Instr.loadAt 27 t173) (fun t174 => 
 pur Try.prog (Instr.indexAt 49 v_data v_j_2) fun t175 => 
 act Try.prog (thenU (Instr.storeAt 27 t175 t170)) (fun _ w_108 => 
 pur Try.prog (Instr.indexAt 49 v_data v_a) fun t176 => 
 act Try.prog (thenU (Instr.storeAt 27 t176 t174)) (fun _ w_109 => 
 Q (.tuple #[v_j_2, (.bool false)]) w_109) w_108) (World.drew w_107)) (World.drew w_107)) (World.drew w_107))
   (pur Try.prog (Instr.indexAt 49 v_data v_j_2) fun t151 => 
  rd Try.prog (Instr.loadAt 27 t151) (fun t152 => 
  pur Try.prog (Instr.indexAt 49 v_data v_i_2) fun t155 => 
  rd Try.prog (Instr.loadAt 27 t155) (fun t156 => 
  pur Try.prog (Instr.indexAt 49 v_data v_i_2) fun t157 => 
  act Try.prog (thenU (Instr.storeAt 27 t157 t152)) (fun _ w_110 => 
  pur Try.prog (Instr.indexAt 49 v_data v_j_2) fun t158 => 
  act Try.prog (thenU (Instr.storeAt 27 t158 t156)) (fun _ w_111 => 
  pur Try.prog (binS .add 3 false true v_i_2 (.int .i64 1)) fun t160 => 
  pur Try.prog (binS .sub 3 false true v_j_2 (.int .i64 1)) fun t162 => 
  J_2 t160 t162 w_111) w_110) (World.drew w_107)) (World.drew w_107)) (World.drew w_107)))) w_105) w_103) w_100) w_98) w_96) w_94) w_92) w_90) w_88) w_86) w_84) (World.drew w_82)) [v_j_1] w_81)) w_79) w_76) w_74) w_72) w_70) w_68) w_66) w_64) w_62) w_60) (World.drew w_58)) [v_i_1] w_57) [t102, t104] w_56) w_55) (World.drew w_52)) (World.drew w_52)) (World.drew w_52)))) w_50) w_48) w_45) w_43) w_41) w_39) w_37) w_35) w_33) w_31) w_29) (World.drew w_27)) [t31] w_26)) w_24) w_21) w_19) w_17) w_15) w_13) w_11) w_9) w_7) w_5) (World.drew w_3)) [t29] w_2) w_1) (World.drew w)) (World.drew w)) (World.drew w)
theorem eq89 (v_data v_a v_b v_pivot v_cmp : Value) (Q : Value → World → Prop) (w : World) : semF Try.prog 89 [v_data, v_a, v_b, v_pivot, v_cmp] Q w = S89 v_data v_a v_b v_pivot v_cmp Q w := by kernel_rfl
theorem ref89 {v_data v_a v_b v_pivot v_cmp : Value} {Q : Value → World → Prop} {w : World} (h : S89 v_data v_a v_b v_pivot v_cmp Q w) : callS Try.prog 89 #[v_data, v_a, v_b, v_pivot, v_cmp] Q w :=
  callS_of mix (fun a w => Try.call89 a w) (by kernel_rfl) (by rw [eq89]; exact h)
-- slices.order2CmpFunc[commons/imap.Part[string]]
def S90 (v_data v_a v_b v_swaps v_cmp : Value) (Q : Value → World → Prop) (w : World) : Prop :=
 pur Try.prog (Instr.indexAt 35 v_data v_b) fun t15 => 
 rd Try.prog (Instr.loadAt 38 t15) (fun t16 => 
 pur Try.prog (Instr.indexAt 35 v_data v_a) fun t19 => 
 rd Try.prog (Instr.loadAt 38 t19) (fun t20 => 
 callF Try.prog v_cmp #[t16, t20] (fun t21 w_1 => 
 pur Try.prog (binS .lss 3 false true t21 (.int .i64 0)) fun t22 => 
 condS t22
  (pur Try.prog (nilV v_swaps) fun t24 => 
  rd Try.prog (Instr.loadAt 3 t24) (fun t25 => 
  pur Try.prog (binS .add 3 false true t25 (.int .i64 1)) fun t26 => 
  pur Try.prog (nilV v_swaps) fun t27 => 
  act Try.prog (thenU (Instr.storeAt 3 t27 t26)) (fun _ w_2 => 
  Q (.tuple #[v_b, v_a]) w_2) w_1) w_1)
  (Q (.tuple #[v_a, v_b]) w_1)) (World.drew w)) (World.drew w)) (World.drew w)
theorem eq90 (v_data v_a v_b v_swaps v_cmp : Value) (Q : Value → World → Prop) (w : World) : semF Try.prog 90 [v_data, v_a, v_b, v_swaps, v_cmp] Q w = S90 v_data v_a v_b v_swaps v_cmp Q w := by kernel_rfl
theorem ref90 {v_data v_a v_b v_swaps v_cmp : Value} {Q : Value → World → Prop} {w : World} (h : S90 v_data v_a v_b v_swaps v_cmp Q w) : callS Try.prog 90 #[v_data, v_a, v_b, v_swaps, v_cmp] Q w :=
  callS_of mix (fun a w => Try.call90 a w) (by kernel_rfl) (by rw [eq90]; exact h)
-- slices.order2CmpFunc[commons/imap.Part[int]]
def S91 (v_data v_a v_b v_swaps v_cmp : Value) (Q : Value → World → Prop) (w : World) : Prop :=
 pur Try.prog (Instr.indexAt 43 v_data v_b) fun t15 => 
 rd Try.prog (Instr.loadAt 46 t15) (fun t16 => 
 pur Try.prog (Instr.indexAt 43 v_data v_a) fun t19 => 
 rd Try.prog (Instr.loadAt 46 t19) (fun t20 => 
 callF Try.prog v_cmp #[t16, t20] (fun t21 w_1 => 
 pur Try.prog (binS .lss 3 false true t21 (.int .i64 0)) fun t22 => 
 condS t22
  (pur Try.prog (nilV v_swaps) fun t24 => 
  rd Try.prog (Instr.loadAt 3 t24) (fun t25 => 
  pur Try.prog (binS .add 3 false true t25 (.int .i64 1)) fun t26 => 
  pur Try.prog (nilV v_swaps) fun t27 => 
  act Try.prog (thenU (Instr.storeAt 3 t27 t26)) (fun _ w_2 => 
  Q (.tuple #[v_b, v_a]) w_2) w_1) w_1)
  (Q (.tuple #[v_a, v_b]) w_1)) (World.drew w)) (World.drew w)) (World.drew w)
theorem eq91 (v_data v_a v_b v_swaps v_cmp : Value) (Q : Value → World → Prop) (w : World) : semF Try.prog 91 [v_data, v_a, v_b, v_swaps, v_cmp] Q w = S91 v_data v_a v_b v_swaps v_cmp Q w := by kernel_rfl
theorem ref91 {v_data v_a v_b v_swaps v_cmp : Value} {Q : Value → World → Prop} {w : World} (h : S91 v_data v_a v_b v_swaps v_cmp Q w) : callS Try.prog 91 #[v_data, v_a, v_b, v_swaps, v_cmp] Q w :=
  callS_of mix (fun a w => Try.call91 a w) (by kernel_rfl) (by rw [eq91]; exact h)
-- slices.siftDownCmpFunc[commons/api.Span]
def S92 (v_data v_lo v_hi v_first v_cmp : Value) (Q : Value → World → Prop) (w : World) : Prop :=
 lp 1 (fun J => fun v_root w_1 => ∀ _j : Fr, 
  pur Try.prog (binS .mul 3 true false (.int .i64 2) v_root) fun t14 => 
  pur Try.prog (binS .add 3 false true t14 (.int .i64 1)) fun t15 => 
  pur Try.prog (binS .geq 3 false false t15 v_hi) fun t18 => 
  condS t18
   (Q (.tuple #[]) w_1)
   (jn 1 (fun J_1 => 
   pur Try.prog (binS .add 3 false true t15 (.int .i64 1)) fun t20 => 
   pur Try.prog (binS .lss 3 false false t20 v_hi) fun t22 => 
   gd t22 true (fun k w_2 => k v_cmp w_2) (fun t24_1 w_3 => 
   gd t22 true (fun k_1 w_4 => k_1 v_data w_4) (fun t25_1 w_5 => 
   gd t22 true (fun k_2 w_6 => k_2 v_first w_6) (fun t26_1 w_7 => 
   gd t22 true (fun k_3 w_8 => k_3 t15 w_8) (fun t27_1 w_9 => 
   gd t22 true (fun k_4 w_10 => pur Try.prog (binS .add 3 false false t26_1 t27_1) fun t28 => k_4 t28 w_10) (fun t28_1 w_11 => 
   gd t22 true (fun k_5 w_12 => pur Try.prog (Instr.indexAt 49 t25_1 t28_1) fun t29 => k_5 t29 w_12) (fun t29_1 w_13 => 
   gd t22 true (fun k_6 w_14 => rd Try.prog (Instr.loadAt 27 t29_1) (fun t30 => k_6 t30 w_14) w_14) (fun t30_1 w_15 => 
   gd t22 true (fun k_7 w_16 => k_7 v_data w_16) (fun t31_1 w_17 => 
   gd t22 true (fun k_8 w_18 => k_8 v_first w_18) (fun t32_1 w_19 => 
   gd t22 true (fun k_9 w_20 => k_9 t15 w_20) (fun t33_1 w_21 => 
   gd t22 true (fun k_10 w_22 => pur Try.prog (binS .add 3 false false t32_1 t33_1) fun t34 => k_10 t34 w_22) (fun t34_1 w_23 => 
   gd t22 true (fun k_11 w_24 => pur Try.prog (binS .add 3 false true t34_1 (.int .i64 1)) fun t35 => k_11 t35 w_24) (fun t35_1 w_25 => 
   gd t22 true (fun k_12 w_26 => pur Try.prog (Instr.indexAt 49 t31_1 t35_1) fun t36 => k_12 t36 w_26) (fun t36_1 w_27 => 
   gd t22 true (fun k_13 w_28 => rd Try.prog (Instr.loadAt 27 t36_1) (fun t37 => k_13 t37 w_28) w_28) (fun t37_1 w_29 => 
   gd t22 true (fun k_14 w_30 => callF Try.prog t24_1 #[t30_1, t37_1] (fun t38 w_31 => k_14 t38 w_31) w_30) (fun t38_1 w_32 => 
   gd t22 true (fun k_15 w_33 => pur Try.prog (binS .lss 3 false true t38_1 (.int .i64 0)) fun t39 => k_15 t39 w_33) (fun t39_1 w_34 => 
   pur Try.prog (pickS t22 t39_1 (.bool false)) fun t40 => 
   condS t40
    (pur Try.prog (binS .add 3 false true t15 (.int .i64 1)) fun t42 => 
    J_1 t42 w_34)
    (J_1 t15 w_34)) w_32) w_29) w_27) w_25) w_23) w_21) w_19) w_17) w_15) w_13) w_11) w_9) w_7) w_5) w_3) (World.drew w_1))
  (fun v_child w_35 => ∀ _j : Fr, 
   pur Try.prog (binS .add 3 false false v_first v_root) fun t47 => 
   pur Try.prog (Instr.indexAt 49 v_data t47) fun t48 => 
   rd Try.prog (Instr.loadAt 27 t48) (fun t49 => 
   pur Try.prog (binS .add 3 false false v_first v_child) fun t53 => 
   pur Try.prog (Instr.indexAt 49 v_data t53) fun t54 => 
   rd Try.prog (Instr.loadAt 27 t54) (fun t55 => 
   callF Try.prog v_cmp #[t49, t55] (fun t56 w_36 => 
   pur Try.prog (binS .lss 3 false true t56 (.int .i64 0)) fun t57 => 
   pur Try.prog (Op.unary .not t57) fun t58 => 
   condS t58
    (Q (.tuple #[]) w_36)
    (pur Try.prog (binS .add 3 false false v_first v_root) fun t62 => 
   pur Try.prog (binS .add 3 false false v_first v_child) fun t66 => 
   pur Try.prog (binS .add 3 false false v_first v_child) fun t70 => 
   pur Try.prog (Instr.indexAt 49 v_data t70) fun t71 => 
   rd Try.prog (Instr.loadAt 27 t71) (fun t72 => 
   pur Try.prog (binS .add 3 false false v_first v_root) fun t76 => 
   pur Try.prog (Instr.indexAt 49 v_data t76) fun t77 => 
   rd Try.prog (Instr.loadAt 27 t77) (fun t78 => 
   pur Try.prog (Instr.indexAt 49 v_data t62) fun t79 => 
   act Try.prog (thenU (Instr.storeAt 27 t79 t72)) (fun _ w_37 => 
   pur Try.prog (Instr.indexAt 49 v_data t66) fun t80 => 
   act Try.prog (thenU (Instr.storeAt 27 t80 t78)) (fun _ w_38 => 
   J v_child w_38) w_37) (World.drew w_36)) (World.drew w_36)) (World.drew w_36))) (World.drew w_35)) (World.drew w_35)) (World.drew w_35)))) [v_lo] w
theorem eq92 (v_data v_lo v_hi v_first v_cmp : Value) (Q : Value → World → Prop) (w : World) : semF Try.prog 92 [v_data, v_lo, v_hi, v_first, v_cmp] Q w = S92 v_data v_lo v_hi v_first v_cmp Q w := by kernel_rfl
theorem ref92 {v_data v_lo v_hi v_first v_cmp : Value} {Q : Value → World → Prop} {w : World} (h : S92 v_data v_lo v_hi v_first v_cmp Q w) : callS Try.prog 92 #[v_data, v_lo, v_hi, v_first, v_cmp] Q w :=
  callS_of mix (fun a w => Try.call92 a w) (by kernel_rfl) (by rw [eq92]; exact h)
-- slices.medianAdjacentCmpFunc[commons/api.Span]
def S93 (v_data v_a v_swaps v_cmp : Value) (Q : Value → World → Prop) (w : World) : Prop :=
 pur Try.prog (binS .sub 3 false true v_a (.int .i64 1)) fun t11 => 
 pur Try.prog (binS .add 3 false true v_a (.int .i64 1)) fun t14 => 
 callS Try.prog 94 #[v_data, t11, v_a, t14, v_swaps, v_cmp] (fun t17 w_1 => 
 Q t17 w_1) w
theorem eq93 (v_data v_a v_swaps v_cmp : Value) (Q : Value → World → Prop) (w : World) : semF Try.prog 93 [v_data, v_a, v_swaps, v_cmp] Q w = S93 v_data v_a v_swaps v_cmp Q w := by kernel_rfl
theorem ref93 {v_data v_a v_swaps v_cmp : Value} {Q : Value → World → Prop} {w : World} (h : S93 v_data v_a v_swaps v_cmp Q w) : callS Try.prog 93 #[v_data, v_a, v_swaps, v_cmp] Q w :=
  callS_of mix (fun a w => Try.call93 a w) (by kernel_rfl) (by rw [eq93]; exact h)
-- slices.medianCmpFunc[commons/api.Span]
def S94 (v_data v_a v_b v_c v_swaps v_cmp : Value) (Q : Value → World → Prop) (w : World) : Prop :=
 callS Try.prog 95 #[v_data, v_a, v_b, v_swaps, v_cmp] (fun t19 w_1 => 
 pur Try.prog (Instr.extract t19 0) fun t20 => 
 pur Try.prog (Instr.extract t19 1) fun t21 => 
 callS Try.prog 95 #[v_data, t21, v_c, v_swaps, v_cmp] (fun t28 w_2 => 
 pur Try.prog (Instr.extract t28 0) fun t29 => 
 pur Try.prog (Instr.extract t28 1) fun _ => 
 callS Try.prog 95 #[v_data, t20, t29, v_swaps, v_cmp] (fun t37 w_3 => 
 pur Try.prog (Instr.extract t37 0) fun _ => 
 pur Try.prog (Instr.extract t37 1) fun t39 => 
 Q t39 w_3) w_2) w_1) w
theorem eq94 (v_data v_a v_b v_c v_swaps v_cmp : Value) (Q : Value → World → Prop) (w : World) : semF Try.prog 94 [v_data, v_a, v_b, v_c, v_swaps, v_cmp] Q w = S94 v_data v_a v_b v_c v_swaps v_cmp Q w := by kernel_rfl
theorem ref94 {v_data v_a v_b v_c v_swaps v_cmp : Value} {Q : Value → World → Prop} {w : World} (h : S94 v_data v_a v_b v_c v_swaps v_cmp Q w) : callS Try.prog 94 #[v_data, v_a, v_b, v_c, v_swaps, v_cmp] Q w :=
  callS_of mix (fun a w => Try.call94 a w) (by kernel_rfl) (by rw [eq94]; exact h)
-- slices.order2CmpFunc[commons/api.Span]
def S95 (v_data v_a v_b v_swaps v_cmp : Value) (Q : Value → World → Prop) (w : World) : Prop :=
 pur Try.prog (Instr.indexAt 49 v_data v_b) fun t15 => 
 rd Try.prog (Instr.loadAt 27 t15) (fun t16 => 
 pur Try.prog (Instr.indexAt 49 v_data v_a) fun t19 => 
 rd Try.prog (Instr.loadAt 27 t19) (fun t20 => 
 callF Try.prog v_cmp #[t16, t20] (fun t21 w_1 => 
 pur Try.prog (binS .lss 3 false true t21 (.int .i64 0)) fun t22 => 
 condS t22
  (pur Try.prog (nilV v_swaps) fun t24 => 
  rd Try.prog (Instr.loadAt 3 t24) (fun t25 => 
  pur Try.prog (binS .add 3 false true t25 (.int .i64 1)) fun t26 => 
  pur Try.prog (nilV v_swaps) fun t27 => 
  act Try.prog (thenU (Instr.storeAt 3 t27 t26)) (fun _ w_2 => 
  Q (.tuple #[v_b, v_a]) w_2) w_1) w_1)
  (Q (.tuple #[v_a, v_b]) w_1)) (World.drew w)) (World.drew w)) (World.drew w)
theorem eq95 (v_data v_a v_b v_swaps v_cmp : Value) (Q : Value → World → Prop) (w : World) : semF Try.prog 95 [v_data, v_a, v_b, v_swaps, v_cmp] Q w = S95 v_data v_a v_b v_swaps v_cmp Q w := by kernel_rfl
theorem ref95 {v_data v_a v_b v_swaps v_cmp : Value} {Q : Value → World → Prop} {w : World} (h : S95 v_data v_a v_b v_swaps v_cmp Q w) : callS Try.prog 95 #[v_data, v_a, v_b, v_swaps, v_cmp] Q w :=
  callS_of mix (fun a w => Try.call95 a w) (by kernel_rfl) (by rw [eq95]; exact h)
end Go.Proofs.Ytkmbegcjkiphjaa
