/- The readings of the functions' code, printed by a program, each held equal to the one that is computed: for all arguments, all worlds.
   Conditions: none. -/
import Derived.Test.YtiomanikpboclaaShC
import Derived.Test.YtiomanikpboclaaProg
import Derived.KernelRfl
set_option linter.unusedSimpArgs false
set_option linter.unusedVariables false
namespace Go.Proofs.Ytiomanikpboclaa
open Go.Sh
set_option maxRecDepth 100000
theorem mix : Try.prog.follows .mixedOrders = true := by kernel_rfl

-- gosem.cut.init
def S2 (Q : Value → World → Prop) (w : World) : Prop :=
 callS Try.prog 1 #[] (fun _ w_1 => 
 Q (.tuple #[]) w_1) w
theorem eq2 (Q : Value → World → Prop) (w : World) : semF Try.prog 2 [] Q w = S2 Q w := by kernel_rfl
theorem ref2 {Q : Value → World → Prop} {w : World} (h : S2 Q w) : callS Try.prog 2 #[] Q w :=
  callS_of mix (fun a w => Try.call2 a w) (by kernel_rfl) (by rw [eq2]; exact h)
-- commons/commonslaw18.TableUpgrades
def S3 (v_s v_at : Value) (Q : Value → World → Prop) (w : World) : Prop :=
 act Try.prog (Instr.box 23 v_s) (fun t2 w_1 => 
 pur Try.prog (Instr.fieldAt 23 t2 0) fun t21 => 
 rd Try.prog (Instr.loadAt 3 t21) (fun t22 => 
 pur Try.prog (binS .lss 3 false true t22 (.int .i64 0)) fun t23 => 
 gd t23 false (fun k w_2 => pur Try.prog (Instr.fieldAt 23 t2 0) fun t25 => k t25 w_2) (fun t25_1 w_3 => 
 gd t23 false (fun k_1 w_4 => rd Try.prog (Instr.loadAt 3 t25_1) (fun t26 => k_1 t26 w_4) w_4) (fun t26_1 w_5 => 
 gd t23 false (fun k_2 w_6 => pur Try.prog (Instr.fieldAt 23 t2 1) fun t27 => k_2 t27 w_6) (fun t27_1 w_7 => 
 gd t23 false (fun k_3 w_8 => rd Try.prog (Instr.loadAt 3 t27_1) (fun t28 => k_3 t28 w_8) w_8) (fun t28_1 w_9 => 
 gd t23 false (fun k_4 w_10 => pur Try.prog (binS .geq 3 false false t26_1 t28_1) fun t29 => k_4 t29 w_10) (fun t29_1 w_11 => 
 pur Try.prog (pickS t23 (.bool true) t29_1) fun t30 => 
 gd t30 false (fun k_5 w_12 => pur Try.prog (Instr.fieldAt 23 t2 1) fun t32 => k_5 t32 w_12) (fun t32_1 w_13 => 
 gd t30 false (fun k_6 w_14 => rd Try.prog (Instr.loadAt 3 t32_1) (fun t33 => k_6 t33 w_14) w_14) (fun t33_1 w_15 => 
 gd t30 false (fun k_7 w_16 => pur Try.prog (binS .gtr 3 false true t33_1 (.int .i64 4096)) fun t34 => k_7 t34 w_16) (fun t34_1 w_17 => 
 pur Try.prog (pickS t30 (.bool true) t34_1) fun t35 => 
 gd t35 false (fun k_8 w_18 => k_8 v_at w_18) (fun t37_1 w_19 => 
 gd t35 false (fun k_9 w_20 => pur Try.prog (Instr.fieldAt 23 t2 0) fun t38 => k_9 t38 w_20) (fun t38_1 w_21 => 
 gd t35 false (fun k_10 w_22 => rd Try.prog (Instr.loadAt 3 t38_1) (fun t39 => k_10 t39 w_22) w_22) (fun t39_1 w_23 => 
 gd t35 false (fun k_11 w_24 => pur Try.prog (binS .lss 3 false false t37_1 t39_1) fun t40 => k_11 t40 w_24) (fun t40_1 w_25 => 
 pur Try.prog (pickS t35 (.bool true) t40_1) fun t41 => 
 gd t41 false (fun k_12 w_26 => k_12 v_at w_26) (fun t43_1 w_27 => 
 gd t41 false (fun k_13 w_28 => pur Try.prog (Instr.fieldAt 23 t2 1) fun t44 => k_13 t44 w_28) (fun t44_1 w_29 => 
 gd t41 false (fun k_14 w_30 => rd Try.prog (Instr.loadAt 3 t44_1) (fun t45 => k_14 t45 w_30) w_30) (fun t45_1 w_31 => 
 gd t41 false (fun k_15 w_32 => pur Try.prog (binS .geq 3 false false t43_1 t45_1) fun t46 => k_15 t46 w_32) (fun t46_1 w_33 => 
 pur Try.prog (pickS t41 (.bool true) t46_1) fun t47 => 
 condS t47
  (callS Try.prog 8 #[] (fun t48 w_34 => 
  Q t48 w_34) w_33)
  (callS Try.prog 9 #[(.int .i64 3)] (fun t49 w_35 => 
 rd Try.prog (binS .eql 25 false true t49 (.pointer none)) (fun t51 => 
 condS t51
  (Q (.bool false) w_35)
  (pur Try.prog (binS .add 3 false true v_at (.int .i64 1)) fun t54 => 
 pur Try.prog (Instr.build 23 #[(0, v_at), (1, t54)]) fun t55 => 
 act Try.prog (Instr.alloc 23 true (.tuple #[])) (fun t6 w_36 => 
 act Try.prog (thenU (Instr.storeAt 23 t6 t55)) (fun _ w_37 => 
 rd Try.prog (Instr.loadAt 23 t2) (fun t58 => 
 pur Try.prog (Instr.build 31 #[(0, t58), (1, (.int .i64 1))]) fun t59 => 
 callS Try.prog 10 #[t49, (.int .i64 1), t59] (fun t60 w_38 => 
 pur Try.prog (Instr.extract t60 0) fun _ => 
 pur Try.prog (Instr.extract t60 1) fun t62 => 
 pur Try.prog (Instr.extract t60 2) fun _ => 
 rd Try.prog (Instr.loadAt 23 t2) (fun t66 => 
 pur Try.prog (Instr.build 31 #[(0, t66), (1, (.int .i64 1))]) fun t67 => 
 callS Try.prog 10 #[t49, (.int .i64 2), t67] (fun t68 w_39 => 
 pur Try.prog (Instr.extract t68 0) fun _ => 
 pur Try.prog (Instr.extract t68 1) fun t70 => 
 pur Try.prog (Instr.extract t68 2) fun _ => 
 rd Try.prog (Instr.loadAt 23 t6) (fun t74 => 
 pur Try.prog (Instr.build 31 #[(0, t74), (1, (.int .i64 2))]) fun t75 => 
 callS Try.prog 10 #[t49, (.int .i64 1), t75] (fun t76 w_40 => 
 pur Try.prog (Instr.extract t76 0) fun t77 => 
 pur Try.prog (Instr.extract t76 1) fun t78 => 
 pur Try.prog (Instr.extract t76 2) fun t79 => 
 rd Try.prog (Instr.loadAt 23 t6) (fun t82 => 
 pur Try.prog (Instr.build 31 #[(0, t82), (1, (.int .i64 2))]) fun t83 => 
 callS Try.prog 10 #[t49, (.int .i64 2), t83] (fun t84 w_41 => 
 pur Try.prog (Instr.extract t84 0) fun _ => 
 pur Try.prog (Instr.extract t84 1) fun t86 => 
 pur Try.prog (Instr.extract t84 2) fun t87 => 
 rd Try.prog (Instr.loadAt 23 t2) (fun t90 => 
 callS Try.prog 11 #[t49, (.int .i64 2), t90, (.int .i64 0)] (fun t91 w_42 => 
 pur Try.prog (Instr.extract t91 0) fun t92 => 
 pur Try.prog (Instr.extract t91 1) fun t93 => 
 callS Try.prog 8 #[] (fun t94 w_43 => 
 gd t94 true (fun k_16 w_44 => k_16 t62 w_44) (fun t96_1 w_45 => 
 pur Try.prog (pickS t94 t96_1 (.bool false)) fun t97 => 
 gd t97 true (fun k_17 w_46 => k_17 t70 w_46) (fun t99_1 w_47 => 
 pur Try.prog (pickS t97 t99_1 (.bool false)) fun t100 => 
 gd t100 true (fun k_18 w_48 => k_18 t78 w_48) (fun t102_1 w_49 => 
 gd t100 true (fun k_19 w_50 => pur Try.prog (Op.unary .not t102_1) fun t103 => k_19 t103 w_50) (fun t103_1 w_51 => 
 pur Try.prog (pickS t100 t103_1 (.bool false)) fun t104 => 
 gd t104 true (fun k_20 w_52 => k_20 t79 w_52) (fun t106_1 w_53 => 
 gd t104 true (fun k_21 w_54 => pur Try.prog (binS .eql 27 false true t106_1 (.int .i64 0)) fun t107 => k_21 t107 w_54) (fun t107_1 w_55 => 
 pur Try.prog (pickS t104 t107_1 (.bool false)) fun t108 => 
 gd t108 true (fun k_22 w_56 => k_22 t77 w_56) (fun t110_1 w_57 => 
 gd t108 true (fun k_23 w_58 => pur Try.prog (binS .eql 3 false true t110_1 (.int .i64 1)) fun t111 => k_23 t111 w_58) (fun t111_1 w_59 => 
 pur Try.prog (pickS t108 t111_1 (.bool false)) fun t112 => 
 gd t112 true (fun k_24 w_60 => k_24 t86 w_60) (fun t114_1 w_61 => 
 gd t112 true (fun k_25 w_62 => pur Try.prog (Op.unary .not t114_1) fun t115 => k_25 t115 w_62) (fun t115_1 w_63 => 
 pur Try.prog (pickS t112 t115_1 (.bool false)) fun t116 => 
 gd t116 true (fun k_26 w_64 => k_26 t87 w_64) (fun t118_1 w_65 => 
 gd t116 true (fun k_27 w_66 => pur Try.prog (binS .eql 27 false true t118_1 (.int .i64 33)) fun t119 => k_27 t119 w_66) (fun t119_1 w_67 => 
 pur Try.prog (pickS t116 t119_1 (.bool false)) fun t120 => 
 gd t120 true (fun k_28 w_68 => k_28 t93 w_68) (fun t122_1 w_69 => 
 gd t120 true (fun k_29 w_70 => pur Try.prog (binS .eql 27 false true t122_1 (.int .i64 0)) fun t123 => k_29 t123 w_70) (fun t123_1 w_71 => 
 pur Try.prog (pickS t120 t123_1 (.bool false)) fun t124 => 
 gd t124 true (fun k_30 w_72 => k_30 t92 w_72) (fun t126_1 w_73 => 
 gd t124 true (fun k_31 w_74 => pur Try.prog (Builtin.len_ #[32] 3 #[t126_1]) fun t127 => k_31 t127 w_74) (fun t127_1 w_75 => 
 gd t124 true (fun k_32 w_76 => pur Try.prog (binS .eql 3 false true t127_1 (.int .i64 1)) fun t128 => k_32 t128 w_76) (fun t128_1 w_77 => 
 pur Try.prog (pickS t124 t128_1 (.bool false)) fun t129 => 
 gd t129 true (fun k_33 w_78 => k_33 t92 w_78) (fun t131_1 w_79 => 
 gd t129 true (fun k_34 w_80 => pur Try.prog (Instr.indexAt 32 t131_1 (.int .i64 0)) fun t132 => k_34 t132 w_80) (fun t132_1 w_81 => 
 gd t129 true (fun k_35 w_82 => pur Try.prog (Instr.fieldAt 36 t132_1 0) fun t133 => k_35 t133 w_82) (fun t133_1 w_83 => 
 gd t129 true (fun k_36 w_84 => rd Try.prog (Instr.loadAt 3 t133_1) (fun t134 => k_36 t134 w_84) w_84) (fun t134_1 w_85 => 
 gd t129 true (fun k_37 w_86 => pur Try.prog (binS .eql 3 false true t134_1 (.int .i64 1)) fun t135 => k_37 t135 w_86) (fun t135_1 w_87 => 
 pur Try.prog (pickS t129 t135_1 (.bool false)) fun t136 => 
 gd t136 true (fun k_38 w_88 => k_38 t49 w_88) (fun t138_1 w_89 => 
 gd t136 true (fun k_39 w_90 => k_39 v_at w_90) (fun t139_1 w_91 => 
 gd t136 true (fun k_40 w_92 => callS Try.prog 12 #[t138_1, (.int .i64 1), t139_1] (fun t140 w_93 => k_40 t140 w_93) w_92) (fun t140_1 w_94 => 
 gd t136 true (fun k_41 w_95 => pur Try.prog (binS .eql 3 false true t140_1 (.int .i64 2)) fun t141 => k_41 t141 w_95) (fun t141_1 w_96 => 
 pur Try.prog (pickS t136 t141_1 (.bool false)) fun t142 => 
 gd t142 true (fun k_42 w_97 => k_42 t49 w_97) (fun t144_1 w_98 => 
 gd t142 true (fun k_43 w_99 => k_43 v_at w_99) (fun t145_1 w_100 => 
 gd t142 true (fun k_44 w_101 => callS Try.prog 12 #[t144_1, (.int .i64 2), t145_1] (fun t146 w_102 => k_44 t146 w_102) w_101) (fun t146_1 w_103 => 
 gd t142 true (fun k_45 w_104 => pur Try.prog (binS .eql 3 false true t146_1 (.int .i64 0)) fun t147 => k_45 t147 w_104) (fun t147_1 w_105 => 
 pur Try.prog (pickS t142 t147_1 (.bool false)) fun t148 => 
 Q t148 w_105) w_103) w_100) w_98) w_96) w_94) w_91) w_89) w_87) w_85) w_83) w_81) w_79) w_77) w_75) w_73) w_71) w_69) w_67) w_65) w_63) w_61) w_59) w_57) w_55) w_53) w_51) w_49) w_47) w_45) w_43) w_42) w_41) w_41) w_40) w_40) w_39) w_39) w_38) w_38) w_37) w_37) w_36) w_35)) w_35) w_33)) w_31) w_29) w_27) w_25) w_23) w_21) w_19) w_17) w_15) w_13) w_11) w_9) w_7) w_5) w_3) w_1) w_1) w
theorem eq3 (v_s v_at : Value) (Q : Value → World → Prop) (w : World) : semF Try.prog 3 [v_s, v_at] Q w = S3 v_s v_at Q w := by kernel_rfl
theorem ref3 {v_s v_at : Value} {Q : Value → World → Prop} {w : World} (h : S3 v_s v_at Q w) : callS Try.prog 3 #[v_s, v_at] Q w :=
  callS_of mix (fun a w => Try.call3 a w) (by kernel_rfl) (by rw [eq3]; exact h)
-- commons/commonslaw18.TableClaims
def S4 (v_from v_n v_k : Value) (Q : Value → World → Prop) (w : World) : Prop :=
 pur Try.prog (binS .lss 3 false true v_from (.int .i64 0)) fun t25 => 
 gd t25 false (fun k w_1 => k v_from w_1) (fun t27_1 w_2 => 
 gd t25 false (fun k_1 w_3 => pur Try.prog (binS .gtr 3 false true t27_1 (.int .i64 1000)) fun t28 => k_1 t28 w_3) (fun t28_1 w_4 => 
 pur Try.prog (pickS t25 (.bool true) t28_1) fun t29 => 
 gd t29 false (fun k_2 w_5 => k_2 v_n w_5) (fun t31_1 w_6 => 
 gd t29 false (fun k_3 w_7 => pur Try.prog (binS .lss 3 false true t31_1 (.int .i64 2)) fun t32 => k_3 t32 w_7) (fun t32_1 w_8 => 
 pur Try.prog (pickS t29 (.bool true) t32_1) fun t33 => 
 gd t33 false (fun k_4 w_9 => k_4 v_n w_9) (fun t35_1 w_10 => 
 gd t33 false (fun k_5 w_11 => pur Try.prog (binS .gtr 3 false true t35_1 (.int .i64 100)) fun t36 => k_5 t36 w_11) (fun t36_1 w_12 => 
 pur Try.prog (pickS t33 (.bool true) t36_1) fun t37 => 
 gd t37 false (fun k_6 w_13 => k_6 v_k w_13) (fun t39_1 w_14 => 
 gd t37 false (fun k_7 w_15 => pur Try.prog (binS .lss 3 false true t39_1 (.int .i64 1)) fun t40 => k_7 t40 w_15) (fun t40_1 w_16 => 
 pur Try.prog (pickS t37 (.bool true) t40_1) fun t41 => 
 gd t41 false (fun k_8 w_17 => k_8 v_k w_17) (fun t43_1 w_18 => 
 gd t41 false (fun k_9 w_19 => k_9 v_n w_19) (fun t44_1 w_20 => 
 gd t41 false (fun k_10 w_21 => pur Try.prog (binS .geq 3 false false t43_1 t44_1) fun t45 => k_10 t45 w_21) (fun t45_1 w_22 => 
 pur Try.prog (pickS t41 (.bool true) t45_1) fun t46 => 
 condS t46
  (callS Try.prog 8 #[] (fun t47 w_23 => 
  Q t47 w_23) w_22)
  (callS Try.prog 9 #[(.int .i64 3)] (fun t48 w_24 => 
 rd Try.prog (binS .eql 25 false true t48 (.pointer none)) (fun t50 => 
 condS t50
  (Q (.bool false) w_24)
  (pur Try.prog (binS .add 3 false true v_from (.int .i64 1)) fun t55 => 
 pur Try.prog (Instr.build 23 #[(0, v_from), (1, t55)]) fun t56 => 
 pur Try.prog (Instr.build 31 #[(0, t56), (1, (.int .i64 2))]) fun t57 => 
 callS Try.prog 10 #[t48, (.int .i64 1), t57] (fun t58 w_25 => 
 pur Try.prog (Instr.extract t58 0) fun _ => 
 pur Try.prog (Instr.extract t58 1) fun t60 => 
 pur Try.prog (Instr.extract t58 2) fun _ => 
 pur Try.prog (binS .add 3 false false v_from v_n) fun t67 => 
 pur Try.prog (Instr.build 23 #[(0, v_from), (1, t67)]) fun t68 => 
 pur Try.prog (Instr.build 31 #[(0, t68), (1, (.int .i64 2))]) fun t69 => 
 callS Try.prog 10 #[t48, (.int .i64 2), t69] (fun t70 w_26 => 
 pur Try.prog (Instr.extract t70 0) fun t71 => 
 pur Try.prog (Instr.extract t70 1) fun t72 => 
 pur Try.prog (Instr.extract t70 2) fun _ => 
 pur Try.prog (binS .add 3 false false v_from v_k) fun t78 => 
 pur Try.prog (binS .add 3 false false v_from v_k) fun t81 => 
 pur Try.prog (binS .add 3 false true t81 (.int .i64 1)) fun t82 => 
 pur Try.prog (Instr.build 23 #[(0, t78), (1, t82)]) fun t83 => 
 pur Try.prog (Instr.build 31 #[(0, t83), (1, (.int .i64 2))]) fun t84 => 
 callS Try.prog 10 #[t48, (.int .i64 3), t84] (fun t85 w_27 => 
 pur Try.prog (Instr.extract t85 0) fun _ => 
 pur Try.prog (Instr.extract t85 1) fun t87 => 
 pur Try.prog (Instr.extract t85 2) fun _ => 
 pur Try.prog (binS .add 3 false true v_from (.int .i64 1)) fun t93 => 
 pur Try.prog (Instr.build 23 #[(0, v_from), (1, t93)]) fun t94 => 
 pur Try.prog (Instr.build 31 #[(0, t94), (1, (.int .i64 1))]) fun t95 => 
 callS Try.prog 10 #[t48, (.int .i64 3), t95] (fun t96 w_28 => 
 pur Try.prog (Instr.extract t96 0) fun _ => 
 pur Try.prog (Instr.extract t96 1) fun t98 => 
 pur Try.prog (Instr.extract t96 2) fun _ => 
 pur Try.prog (binS .add 3 false true v_from (.int .i64 1)) fun t104 => 
 pur Try.prog (Instr.build 23 #[(0, v_from), (1, t104)]) fun t105 => 
 callS Try.prog 11 #[t48, (.int .i64 1), t105, (.int .i64 0)] (fun t106 w_29 => 
 pur Try.prog (Instr.extract t106 0) fun t107 => 
 pur Try.prog (Instr.extract t106 1) fun t108 => 
 pur Try.prog (binS .add 3 false false v_from v_k) fun t113 => 
 pur Try.prog (binS .add 3 false false v_from v_k) fun t116 => 
 pur Try.prog (binS .add 3 false true t116 (.int .i64 1)) fun t117 => 
 pur Try.prog (Instr.build 23 #[(0, t113), (1, t117)]) fun t118 => 
 callS Try.prog 11 #[t48, (.int .i64 3), t118, (.int .i64 0)] (fun t119 w_30 => 
 pur Try.prog (Instr.extract t119 0) fun t120 => 
 pur Try.prog (Instr.extract t119 1) fun t121 => 
 callS Try.prog 8 #[] (fun t122 w_31 => 
 gd t122 true (fun k_11 w_32 => k_11 t60 w_32) (fun t124_1 w_33 => 
 pur Try.prog (pickS t122 t124_1 (.bool false)) fun t125 => 
 gd t125 true (fun k_12 w_34 => k_12 t72 w_34) (fun t127_1 w_35 => 
 gd t125 true (fun k_13 w_36 => pur Try.prog (Op.unary .not t127_1) fun t128 => k_13 t128 w_36) (fun t128_1 w_37 => 
 pur Try.prog (pickS t125 t128_1 (.bool false)) fun t129 => 
 gd t129 true (fun k_14 w_38 => k_14 t87 w_38) (fun t131_1 w_39 => 
 pur Try.prog (pickS t129 t131_1 (.bool false)) fun t132 => 
 gd t132 true (fun k_15 w_40 => k_15 t98 w_40) (fun t134_1 w_41 => 
 gd t132 true (fun k_16 w_42 => pur Try.prog (Op.unary .not t134_1) fun t135 => k_16 t135 w_42) (fun t135_1 w_43 => 
 pur Try.prog (pickS t132 t135_1 (.bool false)) fun t136 => 
 gd t136 true (fun k_17 w_44 => k_17 t108 w_44) (fun t138_1 w_45 => 
 gd t136 true (fun k_18 w_46 => pur Try.prog (binS .eql 27 false true t138_1 (.int .i64 0)) fun t139 => k_18 t139 w_46) (fun t139_1 w_47 => 
 pur Try.prog (pickS t136 t139_1 (.bool false)) fun t140 => 
 gd t140 true (fun k_19 w_48 => k_19 t107 w_48) (fun t142_1 w_49 => 
 gd t140 true (fun k_20 w_50 => pur Try.prog (Builtin.len_ #[32] 3 #[t142_1]) fun t143 => k_20 t143 w_50) (fun t143_1 w_51 => 
 gd t140 true (fun k_21 w_52 => pur Try.prog (binS .eql 3 false true t143_1 (.int .i64 0)) fun t144 => k_21 t144 w_52) (fun t144_1 w_53 => 
 pur Try.prog (pickS t140 t144_1 (.bool false)) fun t145 => 
 gd t145 true (fun k_22 w_54 => k_22 t121 w_54) (fun t147_1 w_55 => 
 gd t145 true (fun k_23 w_56 => pur Try.prog (binS .eql 27 false true t147_1 (.int .i64 0)) fun t148 => k_23 t148 w_56) (fun t148_1 w_57 => 
 pur Try.prog (pickS t145 t148_1 (.bool false)) fun t149 => 
 gd t149 true (fun k_24 w_58 => k_24 t120 w_58) (fun t151_1 w_59 => 
 gd t149 true (fun k_25 w_60 => pur Try.prog (Builtin.len_ #[32] 3 #[t151_1]) fun t152 => k_25 t152 w_60) (fun t152_1 w_61 => 
 gd t149 true (fun k_26 w_62 => pur Try.prog (binS .eql 3 false true t152_1 (.int .i64 1)) fun t153 => k_26 t153 w_62) (fun t153_1 w_63 => 
 pur Try.prog (pickS t149 t153_1 (.bool false)) fun t154 => 
 gd t154 true (fun k_27 w_64 => k_27 t120 w_64) (fun t156_1 w_65 => 
 gd t154 true (fun k_28 w_66 => pur Try.prog (Instr.indexAt 32 t156_1 (.int .i64 0)) fun t157 => k_28 t157 w_66) (fun t157_1 w_67 => 
 gd t154 true (fun k_29 w_68 => pur Try.prog (Instr.fieldAt 36 t157_1 0) fun t158 => k_29 t158 w_68) (fun t158_1 w_69 => 
 gd t154 true (fun k_30 w_70 => rd Try.prog (Instr.loadAt 3 t158_1) (fun t159 => k_30 t159 w_70) w_70) (fun t159_1 w_71 => 
 gd t154 true (fun k_31 w_72 => k_31 t71 w_72) (fun t160_1 w_73 => 
 gd t154 true (fun k_32 w_74 => pur Try.prog (binS .eql 3 false false t159_1 t160_1) fun t161 => k_32 t161 w_74) (fun t161_1 w_75 => 
 pur Try.prog (pickS t154 t161_1 (.bool false)) fun t162 => 
 gd t162 true (fun k_33 w_76 => k_33 t48 w_76) (fun t164_1 w_77 => 
 gd t162 true (fun k_34 w_78 => k_34 v_from w_78) (fun t165_1 w_79 => 
 gd t162 true (fun k_35 w_80 => k_35 v_n w_80) (fun t166_1 w_81 => 
 gd t162 true (fun k_36 w_82 => pur Try.prog (binS .add 3 false false t165_1 t166_1) fun t167 => k_36 t167 w_82) (fun t167_1 w_83 => 
 gd t162 true (fun k_37 w_84 => pur Try.prog (binS .sub 3 false true t167_1 (.int .i64 1)) fun t168 => k_37 t168 w_84) (fun t168_1 w_85 => 
 gd t162 true (fun k_38 w_86 => callS Try.prog 12 #[t164_1, (.int .i64 2), t168_1] (fun t169 w_87 => k_38 t169 w_87) w_86) (fun t169_1 w_88 => 
 gd t162 true (fun k_39 w_89 => pur Try.prog (binS .eql 3 false true t169_1 (.int .i64 2)) fun t170 => k_39 t170 w_89) (fun t170_1 w_90 => 
 pur Try.prog (pickS t162 t170_1 (.bool false)) fun t171 => 
 Q t171 w_90) w_88) w_85) w_83) w_81) w_79) w_77) w_75) w_73) w_71) w_69) w_67) w_65) w_63) w_61) w_59) w_57) w_55) w_53) w_51) w_49) w_47) w_45) w_43) w_41) w_39) w_37) w_35) w_33) w_31) w_30) w_29) w_28) w_27) w_26) w_25) w_24)) w_24) w_22)) w_20) w_18) w_16) w_14) w_12) w_10) w_8) w_6) w_4) w_2) w
theorem eq4 (v_from v_n v_k : Value) (Q : Value → World → Prop) (w : World) : semF Try.prog 4 [v_from, v_n, v_k] Q w = S4 v_from v_n v_k Q w := by kernel_rfl
theorem ref4 {v_from v_n v_k : Value} {Q : Value → World → Prop} {w : World} (h : S4 v_from v_n v_k Q w) : callS Try.prog 4 #[v_from, v_n, v_k] Q w :=
  callS_of mix (fun a w => Try.call4 a w) (by kernel_rfl) (by rw [eq4]; exact h)
-- commons/commonslaw18.TableFair
def S5 (v_block v_modes : Value) (Q : Value → World → Prop) (w : World) : Prop :=
 pur Try.prog (binS .lss 3 false true v_block (.int .i64 0)) fun t22 => 
 gd t22 false (fun k w_1 => k v_block w_1) (fun t24_1 w_2 => 
 gd t22 false (fun k_1 w_3 => pur Try.prog (binS .gtr 3 false true t24_1 (.int .i64 4000)) fun t25 => k_1 t25 w_3) (fun t25_1 w_4 => 
 pur Try.prog (pickS t22 (.bool true) t25_1) fun t26 => 
 gd t26 false (fun k_2 w_5 => k_2 v_modes w_5) (fun t28_1 w_6 => 
 gd t26 false (fun k_3 w_7 => pur Try.prog (Builtin.len_ #[40] 3 #[t28_1]) fun t29 => k_3 t29 w_7) (fun t29_1 w_8 => 
 gd t26 false (fun k_4 w_9 => pur Try.prog (binS .gtr 3 false true t29_1 (.int .i64 15)) fun t30 => k_4 t30 w_9) (fun t30_1 w_10 => 
 pur Try.prog (pickS t26 (.bool true) t30_1) fun t31 => 
 gd t31 false (fun k_5 w_11 => k_5 v_modes w_11) (fun t33_1 w_12 => 
 gd t31 false (fun k_6 w_13 => pur Try.prog (Builtin.len_ #[40] 3 #[t33_1]) fun t34 => k_6 t34 w_13) (fun t34_1 w_14 => 
 gd t31 false (fun k_7 w_15 => pur Try.prog (binS .lss 3 false true t34_1 (.int .i64 2)) fun t35 => k_7 t35 w_15) (fun t35_1 w_16 => 
 pur Try.prog (pickS t31 (.bool true) t35_1) fun t36 => 
 condS t36
  (callS Try.prog 8 #[] (fun t37 w_17 => 
  Q t37 w_17) w_16)
  (callS Try.prog 9 #[(.int .i64 16)] (fun t38 w_18 => 
 rd Try.prog (binS .eql 25 false true t38 (.pointer none)) (fun t40 => 
 condS t40
  (Q (.bool false) w_18)
  (pur Try.prog (binS .add 3 false true v_block (.int .i64 1)) fun t43 => 
 pur Try.prog (Instr.build 23 #[(0, v_block), (1, t43)]) fun t44 => 
 act Try.prog (Instr.alloc 23 true (.tuple #[])) (fun t6 w_19 => 
 act Try.prog (thenU (Instr.storeAt 23 t6 t44)) (fun _ w_20 => 
 rd Try.prog (Instr.loadAt 23 t6) (fun t47 => 
 pur Try.prog (Instr.build 31 #[(0, t47), (1, (.int .i64 2))]) fun t48 => 
 callS Try.prog 10 #[t38, (.int .i64 16), t48] (fun t49 w_21 => 
 pur Try.prog (Instr.extract t49 0) fun _ => 
 pur Try.prog (Instr.extract t49 1) fun t51 => 
 pur Try.prog (Instr.extract t49 2) fun t52 => 
 pur Try.prog (Op.unary .not t51) fun t54 => 
 gd t54 false (fun k_8 w_22 => k_8 t52 w_22) (fun t56_1 w_23 => 
 gd t54 false (fun k_9 w_24 => pur Try.prog (binS .neq 27 false true t56_1 (.int .i64 0)) fun t57 => k_9 t57 w_24) (fun t57_1 w_25 => 
 pur Try.prog (pickS t54 (.bool true) t57_1) fun t58 => 
 condS t58
  (Q (.bool false) w_25)
  (lp 1 (fun J => fun v_i w_26 => ∀ _j : Fr, 
  pur Try.prog (Builtin.len_ #[40] 3 #[v_modes]) fun t61 => 
  pur Try.prog (binS .lss 3 false false v_i t61) fun t62 => 
  condS t62
   (pur Try.prog (binS .add 3 false true v_i (.int .i64 1)) fun t68 => 
  rd Try.prog (Instr.loadAt 23 t6) (fun t69 => 
  pur Try.prog (Instr.indexAt 40 v_modes v_i) fun t72 => 
  rd Try.prog (Instr.loadAt 3 t72) (fun t73 => 
  pur Try.prog (binS .and 3 false true t73 (.int .i64 1)) fun t74 => 
  pur Try.prog (binS .add 3 true false (.int .i64 1) t74) fun t75 => 
  pur Try.prog (Instr.build 31 #[(0, t69), (1, t75)]) fun t76 => 
  callS Try.prog 10 #[t38, t68, t76] (fun t77 w_27 => 
  pur Try.prog (Instr.extract t77 0) fun t78 => 
  pur Try.prog (Instr.extract t77 1) fun t79 => 
  pur Try.prog (Instr.extract t77 2) fun t80 => 
  gd t79 false (fun k_10 w_28 => k_10 t80 w_28) (fun t83_1 w_29 => 
  gd t79 false (fun k_11 w_30 => pur Try.prog (binS .neq 27 false true t83_1 (.int .i64 0)) fun t84 => k_11 t84 w_30) (fun t84_1 w_31 => 
  pur Try.prog (pickS t79 (.bool true) t84_1) fun t85 => 
  gd t85 false (fun k_12 w_32 => k_12 t78 w_32) (fun t87_1 w_33 => 
  gd t85 false (fun k_13 w_34 => k_13 v_i w_34) (fun t88_1 w_35 => 
  gd t85 false (fun k_14 w_36 => pur Try.prog (binS .add 3 false true t88_1 (.int .i64 1)) fun t89 => k_14 t89 w_36) (fun t89_1 w_37 => 
  gd t85 false (fun k_15 w_38 => pur Try.prog (binS .neq 3 false false t87_1 t89_1) fun t90 => k_15 t90 w_38) (fun t90_1 w_39 => 
  pur Try.prog (pickS t85 (.bool true) t90_1) fun t91 => 
  condS t91
   (Q (.bool false) w_39)
   (pur Try.prog (binS .add 3 false true v_i (.int .i64 1)) fun t64 => 
  J t64 w_39)) w_37) w_35) w_33) w_31) w_29) w_27) (World.drew w_26)) (World.drew w_26)) (World.drew w_26))
   (lp 3 (fun J_1 => fun v_last v_holder v_k w_40 => ∀ _j : Fr, 
  pur Try.prog (binS .lss 3 false true v_k (.int .i64 40)) fun t93 => 
  gd t93 true (fun k_16 w_41 => k_16 v_last w_41) (fun t95_1 w_42 => 
  gd t93 true (fun k_17 w_43 => k_17 v_modes w_43) (fun t96_1 w_44 => 
  gd t93 true (fun k_18 w_45 => pur Try.prog (Builtin.len_ #[40] 3 #[t96_1]) fun t97 => k_18 t97 w_45) (fun t97_1 w_46 => 
  gd t93 true (fun k_19 w_47 => pur Try.prog (binS .lss 3 false false t95_1 t97_1) fun t98 => k_19 t98 w_47) (fun t98_1 w_48 => 
  pur Try.prog (pickS t93 t98_1 (.bool false)) fun t99 => 
  condS t99
   (jn 2 (fun J_2 => 
   rd Try.prog (Instr.loadAt 23 t6) (fun t105 => 
   callS Try.prog 11 #[t38, v_holder, t105, (.int .i64 0)] (fun t106 w_49 => 
   pur Try.prog (Instr.extract t106 0) fun t107 => 
   pur Try.prog (Instr.extract t106 1) fun t108 => 
   pur Try.prog (binS .neq 27 false true t108 (.int .i64 0)) fun t110 => 
   condS t110
    (Q (.bool false) w_49)
    (lp 3 (fun J_3 => fun v_last_1 v_holder_1 v_i_1 w_50 => ∀ _j : Fr, 
    pur Try.prog (Builtin.len_ #[32] 3 #[t107]) fun t113 => 
    pur Try.prog (binS .lss 3 false false v_i_1 t113) fun t114 => 
    condS t114
     (pur Try.prog (Instr.indexAt 32 t107 v_i_1) fun t119 => 
    pur Try.prog (Instr.fieldAt 36 t119 0) fun t120 => 
    rd Try.prog (Instr.loadAt 3 t120) (fun t121 => 
    pur Try.prog (binS .add 3 false true v_last_1 (.int .i64 1)) fun t123 => 
    pur Try.prog (binS .neq 3 false false t121 t123) fun t124 => 
    condS t124
     (Q (.bool false) w_50)
     (pur Try.prog (Instr.indexAt 32 t107 v_i_1) fun t127 => 
    pur Try.prog (Instr.fieldAt 36 t127 0) fun t128 => 
    rd Try.prog (Instr.loadAt 3 t128) (fun t129 => 
    pur Try.prog (Instr.indexAt 32 t107 v_i_1) fun t132 => 
    pur Try.prog (Instr.fieldAt 36 t132 1) fun t133 => 
    rd Try.prog (Instr.loadAt 3 t133) (fun t134 => 
    pur Try.prog (binS .add 3 false true v_i_1 (.int .i64 1)) fun t116 => 
    J_3 t129 t134 t116 w_50) w_50) w_50)) w_50)
     (pur Try.prog (Builtin.len_ #[32] 3 #[t107]) fun t136 => 
   pur Try.prog (binS .eql 3 false true t136 (.int .i64 0)) fun t137 => 
   condS t137
    (lp 2 (fun J_4 => fun v_holder_2 v_n w_51 => ∀ _j : Fr, 
     pur Try.prog (Builtin.len_ #[40] 3 #[v_modes]) fun t140 => 
     pur Try.prog (binS .leq 3 false false v_n t140) fun t141 => 
     condS t141
      (jn 1 (fun J_5 => 
      callS Try.prog 12 #[t38, v_n, v_block] (fun t147 w_52 => 
      pur Try.prog (binS .neq 3 false true t147 (.int .i64 0)) fun t148 => 
      condS t148
       (J_5 v_n w_52)
       (J_5 v_holder_2 w_52)) w_51)
     (fun v_holder_3 w_53 => ∀ _j : Fr, 
      pur Try.prog (binS .add 3 false true v_n (.int .i64 1)) fun t143 => 
      J_4 v_holder_3 t143 w_53))
      (pur Try.prog (binS .eql 3 false true v_holder_2 (.int .i64 0)) fun t151 => 
    condS t151
     (Q (.bool false) w_51)
     (J_2 v_last_1 v_holder_2 w_51))) [(.int .i64 0), (.int .i64 1)] w_50)
    (J_2 v_last_1 v_holder_1 w_50))) [v_last, v_holder, (.int .i64 0)] w_49)) w_48) w_48)
  (fun v_last_2 v_holder_4 w_54 => ∀ _j : Fr, 
   pur Try.prog (binS .add 3 false true v_k (.int .i64 1)) fun t101 => 
   J_1 v_last_2 v_holder_4 t101 w_54))
   (callS Try.prog 8 #[] (fun t152 w_55 => 
 gd t152 true (fun k_20 w_56 => k_20 v_last w_56) (fun t154_1 w_57 => 
 gd t152 true (fun k_21 w_58 => k_21 v_modes w_58) (fun t155_1 w_59 => 
 gd t152 true (fun k_22 w_60 => pur Try.prog (Builtin.len_ #[40] 3 #[t155_1]) fun t156 => k_22 t156 w_60) (fun t156_1 w_61 => 
 gd t152 true (fun k_23 w_62 => pur Try.prog (binS .eql 3 false false t154_1 t156_1) fun t157 => k_23 t157 w_62) (fun t157_1 w_63 => 
 pur Try.prog (pickS t152 t157_1 (.bool false)) fun t158 => 
 gd t158 true (fun k_24 w_64 => k_24 t38 w_64) (fun t160_1 w_65 => 
 gd t158 true (fun k_25 w_66 => callS Try.prog 13 #[t160_1] (fun t161 w_67 => k_25 t161 w_67) w_66) (fun t161_1 w_68 => 
 gd t158 true (fun k_26 w_69 => pur Try.prog (Builtin.len_ #[32] 3 #[t161_1]) fun t162 => k_26 t162 w_69) (fun t162_1 w_70 => 
 gd t158 true (fun k_27 w_71 => pur Try.prog (binS .eql 3 false true t162_1 (.int .i64 0)) fun t163 => k_27 t163 w_71) (fun t163_1 w_72 => 
 pur Try.prog (pickS t158 t163_1 (.bool false)) fun t164 => 
 Q t164 w_72) w_70) w_68) w_65) w_63) w_61) w_59) w_57) w_55) w_48)) w_46) w_44) w_42) w_40) [(.int .i64 0), (.int .i64 16), (.int .i64 0)] w_26)) [(.int .i64 0)] w_25)) w_23) w_21) w_20) w_20) w_19) w_18)) w_18) w_16)) w_14) w_12) w_10) w_8) w_6) w_4) w_2) w
theorem eq5 (v_block v_modes : Value) (Q : Value → World → Prop) (w : World) : semF Try.prog 5 [v_block, v_modes] Q w = S5 v_block v_modes Q w := by kernel_rfl
theorem ref5 {v_block v_modes : Value} {Q : Value → World → Prop} {w : World} (h : S5 v_block v_modes Q w) : callS Try.prog 5 #[v_block, v_modes] Q w :=
  callS_of mix (fun a w => Try.call5 a w) (by kernel_rfl) (by rw [eq5]; exact h)
-- commons/commonslaw18.TableKeeps
def S6 (v_held v_s v_keep v_block : Value) (Q : Value → World → Prop) (w : World) : Prop :=
 act Try.prog (Instr.box 23 v_s) (fun t5 w_1 => 
 pur Try.prog (Builtin.len_ #[43] 3 #[v_held]) fun t22 => 
 pur Try.prog (binS .gtr 3 false true t22 (.int .i64 20)) fun t23 => 
 gd t23 false (fun k w_2 => pur Try.prog (Instr.fieldAt 23 t5 0) fun t25 => k t25 w_2) (fun t25_1 w_3 => 
 gd t23 false (fun k_1 w_4 => rd Try.prog (Instr.loadAt 3 t25_1) (fun t26 => k_1 t26 w_4) w_4) (fun t26_1 w_5 => 
 gd t23 false (fun k_2 w_6 => pur Try.prog (binS .lss 3 false true t26_1 (.int .i64 0)) fun t27 => k_2 t27 w_6) (fun t27_1 w_7 => 
 pur Try.prog (pickS t23 (.bool true) t27_1) fun t28 => 
 gd t28 false (fun k_3 w_8 => pur Try.prog (Instr.fieldAt 23 t5 0) fun t30 => k_3 t30 w_8) (fun t30_1 w_9 => 
 gd t28 false (fun k_4 w_10 => rd Try.prog (Instr.loadAt 3 t30_1) (fun t31 => k_4 t31 w_10) w_10) (fun t31_1 w_11 => 
 gd t28 false (fun k_5 w_12 => pur Try.prog (Instr.fieldAt 23 t5 1) fun t32 => k_5 t32 w_12) (fun t32_1 w_13 => 
 gd t28 false (fun k_6 w_14 => rd Try.prog (Instr.loadAt 3 t32_1) (fun t33 => k_6 t33 w_14) w_14) (fun t33_1 w_15 => 
 gd t28 false (fun k_7 w_16 => pur Try.prog (binS .geq 3 false false t31_1 t33_1) fun t34 => k_7 t34 w_16) (fun t34_1 w_17 => 
 pur Try.prog (pickS t28 (.bool true) t34_1) fun t35 => 
 gd t35 false (fun k_8 w_18 => k_8 v_keep w_18) (fun t37_1 w_19 => 
 gd t35 false (fun k_9 w_20 => pur Try.prog (binS .lss 3 false true t37_1 (.int .i64 0)) fun t38 => k_9 t38 w_20) (fun t38_1 w_21 => 
 pur Try.prog (pickS t35 (.bool true) t38_1) fun t39 => 
 gd t39 false (fun k_10 w_22 => k_10 v_keep w_22) (fun t41_1 w_23 => 
 gd t39 false (fun k_11 w_24 => pur Try.prog (binS .gtr 3 false true t41_1 (.int .i64 1)) fun t42 => k_11 t42 w_24) (fun t42_1 w_25 => 
 pur Try.prog (pickS t39 (.bool true) t42_1) fun t43 => 
 condS t43
  (callS Try.prog 8 #[] (fun t44 w_26 => 
  Q t44 w_26) w_25)
  (callS Try.prog 9 #[(.int .i64 2)] (fun t45 w_27 => 
 rd Try.prog (binS .eql 25 false true t45 (.pointer none)) (fun t47 => 
 condS t47
  (Q (.bool false) w_27)
  (lp 1 (fun J => fun v_i w_28 => ∀ _j : Fr, 
  pur Try.prog (Builtin.len_ #[43] 3 #[v_held]) fun t50 => 
  pur Try.prog (binS .lss 3 false false v_i t50) fun t51 => 
  condS t51
   (pur Try.prog (Instr.indexAt 43 v_held v_i) fun t57 => 
  rd Try.prog (Instr.loadAt 31 t57) (fun t58 => 
  callS Try.prog 10 #[t45, (.int .i64 1), t58] (fun _ w_29 => 
  pur Try.prog (binS .add 3 false true v_i (.int .i64 1)) fun t53 => 
  J t53 w_29) w_28) w_28)
   (callS Try.prog 12 #[t45, (.int .i64 1), v_block] (fun t62 w_30 => 
 rd Try.prog (Instr.loadAt 23 t5) (fun t65 => 
 callS Try.prog 11 #[t45, (.int .i64 1), t65, v_keep] (fun t67 w_31 => 
 pur Try.prog (Instr.extract t67 0) fun _ => 
 pur Try.prog (Instr.extract t67 1) fun t69 => 
 jn 1 (fun J_1 => 
  pur Try.prog (Instr.fieldAt 23 t5 0) fun t71 => 
  rd Try.prog (Instr.loadAt 3 t71) (fun t72 => 
  pur Try.prog (binS .leq 3 false false t72 v_block) fun t74 => 
  gd t74 true (fun k_12 w_32 => k_12 v_block w_32) (fun t76_1 w_33 => 
  gd t74 true (fun k_13 w_34 => pur Try.prog (Instr.fieldAt 23 t5 1) fun t77 => k_13 t77 w_34) (fun t77_1 w_35 => 
  gd t74 true (fun k_14 w_36 => rd Try.prog (Instr.loadAt 3 t77_1) (fun t78 => k_14 t78 w_36) w_36) (fun t78_1 w_37 => 
  gd t74 true (fun k_15 w_38 => pur Try.prog (binS .lss 3 false false t76_1 t78_1) fun t79 => k_15 t79 w_38) (fun t79_1 w_39 => 
  pur Try.prog (pickS t74 t79_1 (.bool false)) fun t80 => 
  condS t80
   (pur Try.prog (Builtin.min_ #[3, 3] 3 #[t62, v_keep]) fun t83 => 
   J_1 t83 w_39)
   (J_1 t62 w_39)) w_37) w_35) w_33) w_31) w_31)
 (fun v_want w_40 => ∀ _j : Fr, 
  pur Try.prog (binS .neq 27 false true t69 (.int .i64 0)) fun t85 => 
  gd t85 false (fun k_16 w_41 => k_16 t45 w_41) (fun t87_1 w_42 => 
  gd t85 false (fun k_17 w_43 => k_17 v_block w_43) (fun t88_1 w_44 => 
  gd t85 false (fun k_18 w_45 => callS Try.prog 12 #[t87_1, (.int .i64 1), t88_1] (fun t89 w_46 => k_18 t89 w_46) w_45) (fun t89_1 w_47 => 
  gd t85 false (fun k_19 w_48 => k_19 v_want w_48) (fun t90_1 w_49 => 
  gd t85 false (fun k_20 w_50 => pur Try.prog (binS .neq 3 false false t89_1 t90_1) fun t91 => k_20 t91 w_50) (fun t91_1 w_51 => 
  pur Try.prog (pickS t85 (.bool true) t91_1) fun t92 => 
  condS t92
   (Q (.bool false) w_51)
   (callS Try.prog 14 #[t45, (.int .i64 1)] (fun t94 w_52 => 
  lp 1 (fun J_2 => fun v_i_1 w_53 => ∀ _j : Fr, 
   pur Try.prog (Builtin.len_ #[43] 3 #[t94]) fun t97 => 
   pur Try.prog (binS .lss 3 false false v_i_1 t97) fun t98 => 
   condS t98
    (pur Try.prog (Instr.indexAt 43 t94 v_i_1) fun t105 => 
   rd Try.prog (Instr.loadAt 31 t105) (fun t106 => 
   callS Try.prog 10 #[t45, (.int .i64 1), t106] (fun t107 w_54 => 
   pur Try.prog (Instr.extract t107 0) fun t108 => 
   pur Try.prog (Instr.extract t107 1) fun t109 => 
   pur Try.prog (Instr.extract t107 2) fun t110 => 
   pur Try.prog (binS .neq 3 false true t108 (.int .i64 0)) fun t112 => 
   gd t112 false (fun k_21 w_55 => k_21 t109 w_55) (fun t114_1 w_56 => 
   gd t112 false (fun k_22 w_57 => pur Try.prog (Op.unary .not t114_1) fun t115 => k_22 t115 w_57) (fun t115_1 w_58 => 
   pur Try.prog (pickS t112 (.bool true) t115_1) fun t116 => 
   gd t116 false (fun k_23 w_59 => k_23 t110 w_59) (fun t118_1 w_60 => 
   gd t116 false (fun k_24 w_61 => pur Try.prog (binS .neq 27 false true t118_1 (.int .i64 0)) fun t119 => k_24 t119 w_61) (fun t119_1 w_62 => 
   pur Try.prog (pickS t116 (.bool true) t119_1) fun t120 => 
   condS t120
    (Q (.bool false) w_62)
    (pur Try.prog (binS .add 3 false true v_i_1 (.int .i64 1)) fun t100 => 
   J_2 t100 w_62)) w_60) w_58) w_56) w_54) w_53) w_53)
    (callS Try.prog 14 #[t45, (.int .i64 1)] (fun t122 w_63 => 
  callS Try.prog 8 #[] (fun t123 w_64 => 
  gd t123 true (fun k_25 w_65 => k_25 t122 w_65) (fun t125_1 w_66 => 
  gd t123 true (fun k_26 w_67 => pur Try.prog (Builtin.len_ #[43] 3 #[t125_1]) fun t126 => k_26 t126 w_67) (fun t126_1 w_68 => 
  gd t123 true (fun k_27 w_69 => k_27 t94 w_69) (fun t127_1 w_70 => 
  gd t123 true (fun k_28 w_71 => pur Try.prog (Builtin.len_ #[43] 3 #[t127_1]) fun t128 => k_28 t128 w_71) (fun t128_1 w_72 => 
  gd t123 true (fun k_29 w_73 => pur Try.prog (binS .eql 3 false false t126_1 t128_1) fun t129 => k_29 t129 w_73) (fun t129_1 w_74 => 
  pur Try.prog (pickS t123 t129_1 (.bool false)) fun t130 => 
  gd t130 true (fun k_30 w_75 => k_30 t45 w_75) (fun t132_1 w_76 => 
  gd t130 true (fun k_31 w_77 => callS Try.prog 13 #[t132_1] (fun t133 w_78 => k_31 t133 w_78) w_77) (fun t133_1 w_79 => 
  gd t130 true (fun k_32 w_80 => pur Try.prog (Builtin.len_ #[32] 3 #[t133_1]) fun t134 => k_32 t134 w_80) (fun t134_1 w_81 => 
  gd t130 true (fun k_33 w_82 => pur Try.prog (binS .eql 3 false true t134_1 (.int .i64 0)) fun t135 => k_33 t135 w_82) (fun t135_1 w_83 => 
  pur Try.prog (pickS t130 t135_1 (.bool false)) fun t136 => 
  Q t136 w_83) w_81) w_79) w_76) w_74) w_72) w_70) w_68) w_66) w_64) w_63) w_53)) [(.int .i64 0)] w_52) w_51)) w_49) w_47) w_44) w_42) w_40)) w_30) w_30) w_28)) [(.int .i64 0)] w_27)) w_27) w_25)) w_23) w_21) w_19) w_17) w_15) w_13) w_11) w_9) w_7) w_5) w_3) w_1) w
theorem eq6 (v_held v_s v_keep v_block : Value) (Q : Value → World → Prop) (w : World) : semF Try.prog 6 [v_held, v_s, v_keep, v_block] Q w = S6 v_held v_s v_keep v_block Q w := by kernel_rfl
theorem ref6 {v_held v_s v_keep v_block : Value} {Q : Value → World → Prop} {w : World} (h : S6 v_held v_s v_keep v_block Q w) : callS Try.prog 6 #[v_held, v_s, v_keep, v_block] Q w :=
  callS_of mix (fun a w => Try.call6 a w) (by kernel_rfl) (by rw [eq6]; exact h)
-- commons/commonslaw18.TableNone
def S7 (v_n v_l : Value) (Q : Value → World → Prop) (w : World) : Prop :=
 act Try.prog (Instr.box 31 v_l) (fun t3 w_1 => 
 pur Try.prog (Instr.build 49 #[]) fun t17 => 
 act Try.prog (Instr.box 49 t17) (fun t18 w_2 => 
 rd Try.prog (Instr.loadAt 31 t3) (fun t22 => 
 callS Try.prog 10 #[(.pointer none), v_n, t22] (fun t23 w_3 => 
 pur Try.prog (Instr.extract t23 0) fun _ => 
 pur Try.prog (Instr.extract t23 1) fun t25 => 
 pur Try.prog (Instr.extract t23 2) fun t26 => 
 rd Try.prog (Instr.loadAt 31 t3) (fun t30 => 
 callS Try.prog 10 #[t18, v_n, t30] (fun t31 w_4 => 
 pur Try.prog (Instr.extract t31 0) fun _ => 
 pur Try.prog (Instr.extract t31 1) fun t33 => 
 pur Try.prog (Instr.extract t31 2) fun t34 => 
 pur Try.prog (Instr.fieldAt 31 t3 0) fun t38 => 
 rd Try.prog (Instr.loadAt 23 t38) (fun t39 => 
 callS Try.prog 11 #[(.pointer none), v_n, t39, (.int .i64 0)] (fun t40 w_5 => 
 pur Try.prog (Instr.extract t40 0) fun _ => 
 pur Try.prog (Instr.extract t40 1) fun t42 => 
 callS Try.prog 15 #[(.pointer none), v_n] (fun t46 w_6 => 
 pur Try.prog (Instr.extract t46 0) fun _ => 
 pur Try.prog (Instr.extract t46 1) fun t48 => 
 callS Try.prog 8 #[] (fun t49 w_7 => 
 gd t49 true (fun k w_8 => k t25 w_8) (fun t51_1 w_9 => 
 gd t49 true (fun k_1 w_10 => pur Try.prog (Op.unary .not t51_1) fun t52 => k_1 t52 w_10) (fun t52_1 w_11 => 
 pur Try.prog (pickS t49 t52_1 (.bool false)) fun t53 => 
 gd t53 true (fun k_2 w_12 => k_2 t33 w_12) (fun t55_1 w_13 => 
 gd t53 true (fun k_3 w_14 => pur Try.prog (Op.unary .not t55_1) fun t56 => k_3 t56 w_14) (fun t56_1 w_15 => 
 pur Try.prog (pickS t53 t56_1 (.bool false)) fun t57 => 
 gd t57 true (fun k_4 w_16 => k_4 t48 w_16) (fun t59_1 w_17 => 
 gd t57 true (fun k_5 w_18 => pur Try.prog (Op.unary .not t59_1) fun t60 => k_5 t60 w_18) (fun t60_1 w_19 => 
 pur Try.prog (pickS t57 t60_1 (.bool false)) fun t61 => 
 gd t61 true (fun k_6 w_20 => k_6 t26 w_20) (fun t63_1 w_21 => 
 gd t61 true (fun k_7 w_22 => pur Try.prog (binS .eql 27 false true t63_1 (.int .i64 1)) fun t64 => k_7 t64 w_22) (fun t64_1 w_23 => 
 pur Try.prog (pickS t61 t64_1 (.bool false)) fun t65 => 
 gd t65 true (fun k_8 w_24 => k_8 t34 w_24) (fun t67_1 w_25 => 
 gd t65 true (fun k_9 w_26 => pur Try.prog (binS .eql 27 false true t67_1 (.int .i64 1)) fun t68 => k_9 t68 w_26) (fun t68_1 w_27 => 
 pur Try.prog (pickS t65 t68_1 (.bool false)) fun t69 => 
 gd t69 true (fun k_10 w_28 => k_10 t42 w_28) (fun t71_1 w_29 => 
 gd t69 true (fun k_11 w_30 => pur Try.prog (binS .eql 27 false true t71_1 (.int .i64 1)) fun t72 => k_11 t72 w_30) (fun t72_1 w_31 => 
 pur Try.prog (pickS t69 t72_1 (.bool false)) fun t73 => 
 gd t73 true (fun k_12 w_32 => k_12 (.pointer none) w_32) (fun t75_1 w_33 => 
 gd t73 true (fun k_13 w_34 => k_13 v_n w_34) (fun t76_1 w_35 => 
 gd t73 true (fun k_14 w_36 => rd Try.prog (Instr.loadAt 31 t3) (fun t77 => k_14 t77 w_36) w_36) (fun t77_1 w_37 => 
 gd t73 true (fun k_15 w_38 => callS Try.prog 16 #[t75_1, t76_1, t77_1] (fun t78 w_39 => k_15 t78 w_39) w_38) (fun t78_1 w_40 => 
 gd t73 true (fun k_16 w_41 => pur Try.prog (binS .eql 27 false true t78_1 (.int .i64 1)) fun t79 => k_16 t79 w_41) (fun t79_1 w_42 => 
 pur Try.prog (pickS t73 t79_1 (.bool false)) fun t80 => 
 gd t80 true (fun k_17 w_43 => k_17 (.pointer none) w_43) (fun t82_1 w_44 => 
 gd t80 true (fun k_18 w_45 => k_18 v_n w_45) (fun t83_1 w_46 => 
 gd t80 true (fun k_19 w_47 => callS Try.prog 17 #[t82_1, t83_1] (fun t84 w_48 => k_19 t84 w_48) w_47) (fun t84_1 w_49 => 
 gd t80 true (fun k_20 w_50 => pur Try.prog (Builtin.len_ #[32] 3 #[t84_1]) fun t85 => k_20 t85 w_50) (fun t85_1 w_51 => 
 gd t80 true (fun k_21 w_52 => k_21 (.pointer none) w_52) (fun t86_1 w_53 => 
 gd t80 true (fun k_22 w_54 => k_22 v_n w_54) (fun t87_1 w_55 => 
 gd t80 true (fun k_23 w_56 => callS Try.prog 14 #[t86_1, t87_1] (fun t88 w_57 => k_23 t88 w_57) w_56) (fun t88_1 w_58 => 
 gd t80 true (fun k_24 w_59 => pur Try.prog (Builtin.len_ #[43] 3 #[t88_1]) fun t89 => k_24 t89 w_59) (fun t89_1 w_60 => 
 gd t80 true (fun k_25 w_61 => pur Try.prog (binS .add 3 false false t85_1 t89_1) fun t90 => k_25 t90 w_61) (fun t90_1 w_62 => 
 gd t80 true (fun k_26 w_63 => k_26 (.pointer none) w_63) (fun t91_1 w_64 => 
 gd t80 true (fun k_27 w_65 => k_27 v_n w_65) (fun t92_1 w_66 => 
 gd t80 true (fun k_28 w_67 => callS Try.prog 12 #[t91_1, t92_1, (.int .i64 0)] (fun t93 w_68 => k_28 t93 w_68) w_67) (fun t93_1 w_69 => 
 gd t80 true (fun k_29 w_70 => pur Try.prog (binS .add 3 false false t90_1 t93_1) fun t94 => k_29 t94 w_70) (fun t94_1 w_71 => 
 gd t80 true (fun k_30 w_72 => k_30 (.pointer none) w_72) (fun t95_1 w_73 => 
 gd t80 true (fun k_31 w_74 => callS Try.prog 13 #[t95_1] (fun t96 w_75 => k_31 t96 w_75) w_74) (fun t96_1 w_76 => 
 gd t80 true (fun k_32 w_77 => pur Try.prog (Builtin.len_ #[32] 3 #[t96_1]) fun t97 => k_32 t97 w_77) (fun t97_1 w_78 => 
 gd t80 true (fun k_33 w_79 => pur Try.prog (binS .add 3 false false t94_1 t97_1) fun t98 => k_33 t98 w_79) (fun t98_1 w_80 => 
 gd t80 true (fun k_34 w_81 => k_34 (.pointer none) w_81) (fun t99_1 w_82 => 
 gd t80 true (fun k_35 w_83 => callS Try.prog 18 #[t99_1] (fun t100 w_84 => k_35 t100 w_84) w_83) (fun t100_1 w_85 => 
 gd t80 true (fun k_36 w_86 => pur Try.prog (Builtin.len_ #[54] 3 #[t100_1]) fun t101 => k_36 t101 w_86) (fun t101_1 w_87 => 
 gd t80 true (fun k_37 w_88 => pur Try.prog (binS .add 3 false false t98_1 t101_1) fun t102 => k_37 t102 w_88) (fun t102_1 w_89 => 
 gd t80 true (fun k_38 w_90 => k_38 t18 w_90) (fun t103_1 w_91 => 
 gd t80 true (fun k_39 w_92 => callS Try.prog 13 #[t103_1] (fun t104 w_93 => k_39 t104 w_93) w_92) (fun t104_1 w_94 => 
 gd t80 true (fun k_40 w_95 => pur Try.prog (Builtin.len_ #[32] 3 #[t104_1]) fun t105 => k_40 t105 w_95) (fun t105_1 w_96 => 
 gd t80 true (fun k_41 w_97 => pur Try.prog (binS .add 3 false false t102_1 t105_1) fun t106 => k_41 t106 w_97) (fun t106_1 w_98 => 
 gd t80 true (fun k_42 w_99 => pur Try.prog (binS .eql 3 false true t106_1 (.int .i64 0)) fun t107 => k_42 t107 w_99) (fun t107_1 w_100 => 
 pur Try.prog (pickS t80 t107_1 (.bool false)) fun t108 => 
 gd t108 true (fun k_43 w_101 => k_43 (.pointer none) w_101) (fun t110_1 w_102 => 
 gd t108 true (fun k_44 w_103 => callS Try.prog 19 #[t110_1] (fun t111 w_104 => k_44 t111 w_104) w_103) (fun t111_1 w_105 => 
 pur Try.prog (pickS t108 t111_1 (.bool false)) fun t112 => 
 gd t112 true (fun k_45 w_106 => k_45 t18 w_106) (fun t114_1 w_107 => 
 gd t112 true (fun k_46 w_108 => callS Try.prog 19 #[t114_1] (fun t115 w_109 => k_46 t115 w_109) w_108) (fun t115_1 w_110 => 
 pur Try.prog (pickS t112 t115_1 (.bool false)) fun t116 => 
 Q t116 w_110) w_107) w_105) w_102) w_100) w_98) w_96) w_94) w_91) w_89) w_87) w_85) w_82) w_80) w_78) w_76) w_73) w_71) w_69) w_66) w_64) w_62) w_60) w_58) w_55) w_53) w_51) w_49) w_46) w_44) w_42) w_40) w_37) w_35) w_33) w_31) w_29) w_27) w_25) w_23) w_21) w_19) w_17) w_15) w_13) w_11) w_9) w_7) w_6) w_5) w_4) w_4) w_3) w_3) w_2) w_2) w_1) w
theorem eq7 (v_n v_l : Value) (Q : Value → World → Prop) (w : World) : semF Try.prog 7 [v_n, v_l] Q w = S7 v_n v_l Q w := by kernel_rfl
theorem ref7 {v_n v_l : Value} {Q : Value → World → Prop} {w : World} (h : S7 v_n v_l Q w) : callS Try.prog 7 #[v_n, v_l] Q w :=
  callS_of mix (fun a w => Try.call7 a w) (by kernel_rfl) (by rw [eq7]; exact h)
-- commons/commonslaw18.alive
def S8 (Q : Value → World → Prop) (w : World) : Prop :=
 callS Try.prog 9 #[(.int .i64 2)] (fun t11 w_1 => 
 rd Try.prog (binS .eql 25 false true t11 (.pointer none)) (fun t13 => 
 condS t13
  (Q (.bool false) w_1)
  (pur Try.prog (Instr.build 23 #[(1, (.int .i64 9))]) fun t16 => 
 pur Try.prog (Instr.build 31 #[(0, t16), (1, (.int .i64 2))]) fun t17 => 
 callS Try.prog 10 #[t11, (.int .i64 1), t17] (fun t18 w_2 => 
 pur Try.prog (Instr.extract t18 0) fun _ => 
 pur Try.prog (Instr.extract t18 1) fun t20 => 
 pur Try.prog (Instr.extract t18 2) fun t21 => 
 pur Try.prog (Instr.build 23 #[(0, (.int .i64 3)), (1, (.int .i64 5))]) fun t24 => 
 pur Try.prog (Instr.build 31 #[(0, t24), (1, (.int .i64 1))]) fun t25 => 
 callS Try.prog 10 #[t11, (.int .i64 2), t25] (fun t26 w_3 => 
 pur Try.prog (Instr.extract t26 0) fun t27 => 
 pur Try.prog (Instr.extract t26 1) fun t28 => 
 pur Try.prog (Instr.extract t26 2) fun t29 => 
 callS Try.prog 18 #[t11] (fun t31 w_4 => 
 pur Try.prog (Instr.build 23 #[(0, (.int .i64 3)), (1, (.int .i64 5))]) fun t34 => 
 callS Try.prog 11 #[t11, (.int .i64 1), t34, (.int .i64 1)] (fun t35 w_5 => 
 pur Try.prog (Instr.extract t35 0) fun t36 => 
 pur Try.prog (Instr.extract t35 1) fun t37 => 
 gd t20 true (fun k w_6 => k t21 w_6) (fun t40_1 w_7 => 
 gd t20 true (fun k_1 w_8 => pur Try.prog (binS .eql 27 false true t40_1 (.int .i64 0)) fun t41 => k_1 t41 w_8) (fun t41_1 w_9 => 
 pur Try.prog (pickS t20 t41_1 (.bool false)) fun t42 => 
 gd t42 true (fun k_2 w_10 => k_2 t27 w_10) (fun t44_1 w_11 => 
 gd t42 true (fun k_3 w_12 => pur Try.prog (binS .eql 3 false true t44_1 (.int .i64 1)) fun t45 => k_3 t45 w_12) (fun t45_1 w_13 => 
 pur Try.prog (pickS t42 t45_1 (.bool false)) fun t46 => 
 gd t46 true (fun k_4 w_14 => k_4 t28 w_14) (fun t48_1 w_15 => 
 gd t46 true (fun k_5 w_16 => pur Try.prog (Op.unary .not t48_1) fun t49 => k_5 t49 w_16) (fun t49_1 w_17 => 
 pur Try.prog (pickS t46 t49_1 (.bool false)) fun t50 => 
 gd t50 true (fun k_6 w_18 => k_6 t29 w_18) (fun t52_1 w_19 => 
 gd t50 true (fun k_7 w_20 => pur Try.prog (binS .eql 27 false true t52_1 (.int .i64 0)) fun t53 => k_7 t53 w_20) (fun t53_1 w_21 => 
 pur Try.prog (pickS t50 t53_1 (.bool false)) fun t54 => 
 gd t54 true (fun k_8 w_22 => k_8 t31 w_22) (fun t56_1 w_23 => 
 gd t54 true (fun k_9 w_24 => pur Try.prog (Builtin.len_ #[54] 3 #[t56_1]) fun t57 => k_9 t57 w_24) (fun t57_1 w_25 => 
 gd t54 true (fun k_10 w_26 => pur Try.prog (binS .eql 3 false true t57_1 (.int .i64 1)) fun t58 => k_10 t58 w_26) (fun t58_1 w_27 => 
 pur Try.prog (pickS t54 t58_1 (.bool false)) fun t59 => 
 gd t59 true (fun k_11 w_28 => k_11 t31 w_28) (fun t61_1 w_29 => 
 gd t59 true (fun k_12 w_30 => pur Try.prog (Instr.indexAt 54 t61_1 (.int .i64 0)) fun t62 => k_12 t62 w_30) (fun t62_1 w_31 => 
 gd t59 true (fun k_13 w_32 => rd Try.prog (Instr.loadAt 58 t62_1) (fun t63 => k_13 t63 w_32) w_32) (fun t63_1 w_33 => 
 gd t59 true (fun k_14 w_34 => pur Try.prog (Instr.build 23 #[(0, (.int .i64 3)), (1, (.int .i64 5))]) fun t64 => k_14 t64 w_34) (fun t64_1 w_35 => 
 gd t59 true (fun k_15 w_36 => pur Try.prog (Instr.build 31 #[(0, t64_1), (1, (.int .i64 1))]) fun t65 => k_15 t65 w_36) (fun t65_1 w_37 => 
 gd t59 true (fun k_16 w_38 => pur Try.prog (Instr.build 58 #[(0, (.int .i64 1)), (1, t65_1)]) fun t66 => k_16 t66 w_38) (fun t66_1 w_39 => 
 gd t59 true (fun k_17 w_40 => rd Try.prog (binS .eql 58 false false t63_1 t66_1) (fun t67 => k_17 t67 w_40) w_40) (fun t67_1 w_41 => 
 pur Try.prog (pickS t59 t67_1 (.bool false)) fun t68 => 
 gd t68 true (fun k_18 w_42 => k_18 t37 w_42) (fun t70_1 w_43 => 
 gd t68 true (fun k_19 w_44 => pur Try.prog (binS .eql 27 false true t70_1 (.int .i64 0)) fun t71 => k_19 t71 w_44) (fun t71_1 w_45 => 
 pur Try.prog (pickS t68 t71_1 (.bool false)) fun t72 => 
 gd t72 true (fun k_20 w_46 => k_20 t36 w_46) (fun t74_1 w_47 => 
 gd t72 true (fun k_21 w_48 => pur Try.prog (Builtin.len_ #[32] 3 #[t74_1]) fun t75 => k_21 t75 w_48) (fun t75_1 w_49 => 
 gd t72 true (fun k_22 w_50 => pur Try.prog (binS .eql 3 false true t75_1 (.int .i64 1)) fun t76 => k_22 t76 w_50) (fun t76_1 w_51 => 
 pur Try.prog (pickS t72 t76_1 (.bool false)) fun t77 => 
 gd t77 true (fun k_23 w_52 => k_23 t36 w_52) (fun t79_1 w_53 => 
 gd t77 true (fun k_24 w_54 => pur Try.prog (Instr.indexAt 32 t79_1 (.int .i64 0)) fun t80 => k_24 t80 w_54) (fun t80_1 w_55 => 
 gd t77 true (fun k_25 w_56 => pur Try.prog (Instr.fieldAt 36 t80_1 1) fun t81 => k_25 t81 w_56) (fun t81_1 w_57 => 
 gd t77 true (fun k_26 w_58 => rd Try.prog (Instr.loadAt 3 t81_1) (fun t82 => k_26 t82 w_58) w_58) (fun t82_1 w_59 => 
 gd t77 true (fun k_27 w_60 => pur Try.prog (binS .eql 3 false true t82_1 (.int .i64 2)) fun t83 => k_27 t83 w_60) (fun t83_1 w_61 => 
 pur Try.prog (pickS t77 t83_1 (.bool false)) fun t84 => 
 gd t84 true (fun k_28 w_62 => k_28 t11 w_62) (fun t86_1 w_63 => 
 gd t84 true (fun k_29 w_64 => callS Try.prog 19 #[t86_1] (fun t87 w_65 => k_29 t87 w_65) w_64) (fun t87_1 w_66 => 
 pur Try.prog (pickS t84 t87_1 (.bool false)) fun t88 => 
 Q t88 w_66) w_63) w_61) w_59) w_57) w_55) w_53) w_51) w_49) w_47) w_45) w_43) w_41) w_39) w_37) w_35) w_33) w_31) w_29) w_27) w_25) w_23) w_21) w_19) w_17) w_15) w_13) w_11) w_9) w_7) w_5) w_4) w_3) w_2) w_1)) w_1) w
theorem eq8 (Q : Value → World → Prop) (w : World) : semF Try.prog 8 [] Q w = S8 Q w := by kernel_rfl
theorem ref8 {Q : Value → World → Prop} {w : World} (h : S8 Q w) : callS Try.prog 8 #[] Q w :=
  callS_of mix (fun a w => Try.call8 a w) (by kernel_rfl) (by rw [eq8]; exact h)
-- commons/ltab.New
def S9 (v_nodes : Value) (Q : Value → World → Prop) (w : World) : Prop :=
 pur Try.prog (binS .lss 3 false true v_nodes (.int .i64 1)) fun t6 => 
 gd t6 false (fun k w_1 => k v_nodes w_1) (fun t8_1 w_2 => 
 gd t6 false (fun k_1 w_3 => pur Try.prog (binS .gtr 3 false true t8_1 (.int .i64 16)) fun t9 => k_1 t9 w_3) (fun t9_1 w_4 => 
 pur Try.prog (pickS t6 (.bool true) t9_1) fun t10 => 
 condS t10
  (Q (.pointer none) w_4)
  (pur Try.prog (Instr.build 49 #[(0, v_nodes)]) fun t12 => 
 act Try.prog (Instr.box 49 t12) (fun t13 w_5 => 
 lp 1 (fun J => fun t14 w_6 => ∀ _j : Fr, 
  pur Try.prog (binS .lss 3 false true t14 (.int .i64 17)) fun t15 => 
  condS t15
   (callS Try.prog 20 #[] (fun t19 w_7 => 
  pur Try.prog (nilV t13) fun t20 => 
  pur Try.prog (Instr.fieldAt 49 t20 1) fun t21 => 
  pur Try.prog (Instr.indexAt 47 t21 t14) fun t22 => 
  act Try.prog (thenU (Instr.storeAt 46 t22 t19)) (fun _ w_8 => 
  pur Try.prog (binS .add 3 false true t14 (.int .i64 1)) fun t23 => 
  J t23 w_8) w_7) (World.drew w_6))
   (Q t13 w_6)) [(.int .i64 0)] w_5) w_4)) w_2) w
theorem eq9 (v_nodes : Value) (Q : Value → World → Prop) (w : World) : semF Try.prog 9 [v_nodes] Q w = S9 v_nodes Q w := by kernel_rfl
theorem ref9 {v_nodes : Value} {Q : Value → World → Prop} {w : World} (h : S9 v_nodes Q w) : callS Try.prog 9 #[v_nodes] Q w :=
  callS_of mix (fun a w => Try.call9 a w) (by kernel_rfl) (by rw [eq9]; exact h)
-- (*commons/ltab.Table).Ask
def S10 (v_t v_node v_l : Value) (Q : Value → World → Prop) (w : World) : Prop :=
 act Try.prog (Instr.box 31 v_l) (fun t5 w_1 => 
 callS Try.prog 21 #[v_t, v_node] (fun t12 w_2 => 
 pur Try.prog (Op.unary .not t12) fun t13 => 
 gd t13 false (fun k w_3 => rd Try.prog (Instr.loadAt 31 t5) (fun t15 => k t15 w_3) w_3) (fun t15_1 w_4 => 
 gd t13 false (fun k_1 w_5 => callS Try.prog 22 #[t15_1] (fun t16 w_6 => k_1 t16 w_6) w_5) (fun t16_1 w_7 => 
 gd t13 false (fun k_2 w_8 => pur Try.prog (Op.unary .not t16_1) fun t17 => k_2 t17 w_8) (fun t17_1 w_9 => 
 pur Try.prog (pickS t13 (.bool true) t17_1) fun t18 => 
 condS t18
  (Q (.tuple #[(.int .i64 0), (.bool false), (.int .i64 1)]) w_9)
  (∃ S : World → Prop, S (World.drew w_9) ∧ 
  pur Try.prog (nilV v_t) fun t22 => 
  pur Try.prog (Instr.fieldAt 49 t22 1) fun t23 => 
  pur Try.prog (Instr.indexAt 47 t23 v_node) fun t24 => 
  hld Try.prog S (Instr.loadAt 46 t24) fun t25 => 
  hld Try.prog S (Instr.loadAt 31 t5) fun t26 => 
  act Try.prog (Instr.buildSlice 43 1 #[(0, t26)]) (fun t27 w_10 => S w_10 ∧ 
  callS Try.prog 23 #[t25, t27] (fun t28 w_11 => S w_11 ∧ 
  condS t28
   (Q (.tuple #[(.int .i64 0), (.bool true), (.int .i64 0)]) w_11)
   (rd Try.prog (Instr.loadAt 31 t5) (fun t32 => 
   callS Try.prog 24 #[v_t, v_node, t32] (fun t33 w_12 => 
   condS t33
    (pur Try.prog (nilV v_t) fun t36 => 
    pur Try.prog (Instr.fieldAt 49 t36 1) fun t37 => 
    pur Try.prog (Instr.indexAt 47 t37 v_node) fun t38 => 
    rd Try.prog (Instr.loadAt 46 t38) (fun t39 => 
    rd Try.prog (Instr.loadAt 31 t5) (fun t40 => 
    callS Try.prog 25 #[t39, t40] (fun _ w_13 => 
    Q (.tuple #[(.int .i64 0), (.bool true), (.int .i64 0)]) w_13) (World.drew w_12)) (World.drew w_12)) (World.drew w_12))
    (rd Try.prog (Instr.loadAt 31 t5) (fun t45 => 
    callS Try.prog 26 #[v_t, v_node, t45] (fun t46 w_14 => 
    condS t46
     (Q (.tuple #[(.int .i64 0), (.bool false), (.int .i64 33)]) w_14)
     (pur Try.prog (nilV v_t) fun t49 => 
     pur Try.prog (Instr.fieldAt 49 t49 2) fun t50 => 
     rd Try.prog (Instr.loadAt 32 t50) (fun t51 => 
     pur Try.prog (Builtin.len_ #[32] 3 #[t51]) fun t52 => 
     pur Try.prog (binS .geq 3 false true t52 (.int .i64 1000)) fun t53 => 
     condS t53
      (Q (.tuple #[(.int .i64 0), (.bool false), (.int .i64 10)]) w_14)
      (pur Try.prog (nilV v_t) fun t55 => 
 pur Try.prog (Instr.fieldAt 49 t55 3) fun t56 => 
 rd Try.prog (Instr.loadAt 3 t56) (fun t57 => 
 pur Try.prog (binS .add 3 false true t57 (.int .i64 1)) fun t58 => 
 pur Try.prog (nilV v_t) fun t59 => 
 pur Try.prog (Instr.fieldAt 49 t59 3) fun t60 => 
 act Try.prog (thenU (Instr.storeAt 3 t60 t58)) (fun _ w_15 => 
 jn 0 (fun J => 
  pur Try.prog (nilV v_t) fun t63 => 
  pur Try.prog (Instr.fieldAt 49 t63 2) fun t64 => 
  pur Try.prog (nilV v_t) fun t67 => 
  pur Try.prog (Instr.fieldAt 49 t67 3) fun t68 => 
  rd Try.prog (Instr.loadAt 3 t68) (fun t69 => 
  rd Try.prog (Instr.loadAt 31 t5) (fun t71 => 
  pur Try.prog (Instr.build 36 #[(0, t69), (1, v_node), (2, t71)]) fun t72 => 
  (rd Try.prog (Instr.loadAt 32 t64) (fun t65 => 
  act Try.prog (Instr.buildSlice 32 1 #[(0, t72)]) (fun t73 w_16 => 
  act Try.prog (Builtin.append_ #[32, 32] 32 #[t65, t73]) (fun t74 w_17 => 
  pur Try.prog (nilV v_t) fun t75 => 
  pur Try.prog (Instr.fieldAt 49 t75 2) fun t76 => 
  act Try.prog (thenU (Instr.storeAt 32 t76 t74)) (fun _ w_18 => 
  J  w_18) w_17) w_16) (World.drew w_15)) (World.drew w_15)
  ) ∧ (act Try.prog (Instr.buildSlice 32 1 #[(0, t72)]) (fun t73_1 w_19 => 
  rd Try.prog (Instr.loadAt 32 t64) (fun t65_1 => 
  act Try.prog (Builtin.append_ #[32, 32] 32 #[t65_1, t73_1]) (fun t74_1 w_20 => 
  pur Try.prog (nilV v_t) fun t75_1 => 
  pur Try.prog (Instr.fieldAt 49 t75_1 2) fun t76_1 => 
  act Try.prog (thenU (Instr.storeAt 32 t76_1 t74_1)) (fun _ w_21 => 
  J  w_21) w_20) w_19) w_19) (World.drew w_15))) (World.drew w_15)) (World.drew w_15))
 (fun  w_22 => ∀ _j : Fr, 
  pur Try.prog (nilV v_t) fun t78 => 
 pur Try.prog (Instr.fieldAt 49 t78 3) fun t79 => 
 rd Try.prog (Instr.loadAt 3 t79) (fun t80 => 
 Q (.tuple #[t80, (.bool false), (.int .i64 0)]) w_22) w_22)) w_14) w_14)) w_14)) w_12) w_12)) w_11) w_11)) w_10) (World.drew w_9))) w_7) w_4) w_2) w_1) w
theorem eq10 (v_t v_node v_l : Value) (Q : Value → World → Prop) (w : World) : semF Try.prog 10 [v_t, v_node, v_l] Q w = S10 v_t v_node v_l Q w := by kernel_rfl
theorem ref10 {v_t v_node v_l : Value} {Q : Value → World → Prop} {w : World} (h : S10 v_t v_node v_l Q w) : callS Try.prog 10 #[v_t, v_node, v_l] Q w :=
  callS_of mix (fun a w => Try.call10 a w) (by kernel_rfl) (by rw [eq10]; exact h)
-- (*commons/ltab.Table).Release
def S11 (v_t v_node v_s v_keep : Value) (Q : Value → World → Prop) (w : World) : Prop :=
 act Try.prog (Instr.box 23 v_s) (fun t6 w_1 => 
 callS Try.prog 21 #[v_t, v_node] (fun t14 w_2 => 
 pur Try.prog (Op.unary .not t14) fun t15 => 
 gd t15 false (fun k w_3 => rd Try.prog (Instr.loadAt 23 t6) (fun t17 => k t17 w_3) w_3) (fun t17_1 w_4 => 
 gd t15 false (fun k_1 w_5 => callS Try.prog 27 #[t17_1] (fun t18 w_6 => k_1 t18 w_6) w_5) (fun t18_1 w_7 => 
 gd t15 false (fun k_2 w_8 => pur Try.prog (Op.unary .not t18_1) fun t19 => k_2 t19 w_8) (fun t19_1 w_9 => 
 pur Try.prog (pickS t15 (.bool true) t19_1) fun t20 => 
 gd t20 false (fun k_3 w_10 => k_3 v_keep w_10) (fun t22_1 w_11 => 
 gd t20 false (fun k_4 w_12 => pur Try.prog (binS .neq 3 false true t22_1 (.int .i64 0)) fun t23 => k_4 t23 w_12) (fun t23_1 w_13 => 
 gd t20 false (fun k_5 w_14 => k_5 t23_1 w_14) (fun t24_1 w_15 => 
 gd t24_1 true (fun k_6 w_16 => k_6 v_keep w_16) (fun t25_1 w_17 => 
 gd t24_1 true (fun k_7 w_18 => pur Try.prog (binS .neq 3 false true t25_1 (.int .i64 1)) fun t26 => k_7 t26 w_18) (fun t26_1 w_19 => 
 gd t20 false (fun k_8 w_20 => pur Try.prog (pickS t24_1 t26_1 (.bool false)) fun t27 => k_8 t27 w_20) (fun t27_1 w_21 => 
 pur Try.prog (pickS t20 (.bool true) t27_1) fun t28 => 
 condS t28
  (Q (.tuple #[(.slice none 0 0), (.int .i64 1)]) w_21)
  (pur Try.prog (nilV v_t) fun t31 => 
 pur Try.prog (Instr.fieldAt 49 t31 1) fun t32 => 
 pur Try.prog (Instr.indexAt 47 t32 v_node) fun t33 => 
 rd Try.prog (Instr.loadAt 46 t33) (fun t34 => 
 rd Try.prog (Instr.loadAt 23 t6) (fun t35 => 
 callS Try.prog 28 #[t34, t35] (fun t36 w_22 => 
 pur Try.prog (Builtin.len_ #[65] 3 #[t36]) fun t37 => 
 lp 1 (fun J => fun t38 w_23 => ∀ _j : Fr, 
  pur Try.prog (binS .lss 3 false false t38 t37) fun t39 => 
  condS t39
   (jn 0 (fun J_1 => 
   pur Try.prog (Instr.indexAt 65 t36 t38) fun t40 => 
   rd Try.prog (Instr.loadAt 68 t40) (fun t41 => 
   act Try.prog (Instr.alloc 68 true (.tuple #[])) (fun t11 w_24 => 
   act Try.prog (thenU (Instr.storeAt 68 t11 t41)) (fun _ w_25 => 
   pur Try.prog (Instr.fieldAt 68 t11 1) fun t53 => 
   rd Try.prog (Instr.loadAt 3 t53) (fun t54 => 
   pur Try.prog (binS .leq 3 false false t54 v_keep) fun t56 => 
   condS t56
    (J_1  w_25)
    (pur Try.prog (binS .eql 3 false true v_keep (.int .i64 0)) fun t59 => 
    condS t59
     (pur Try.prog (nilV v_t) fun t62 => 
     pur Try.prog (Instr.fieldAt 49 t62 1) fun t63 => 
     pur Try.prog (Instr.indexAt 47 t63 v_node) fun t64 => 
     rd Try.prog (Instr.loadAt 46 t64) (fun t65 => 
     pur Try.prog (Instr.fieldAt 68 t11 0) fun t66 => 
     rd Try.prog (Instr.loadAt 23 t66) (fun t67 => 
     callS Try.prog 29 #[t65, t67] (fun _ w_26 => 
     J_1  w_26) (World.drew w_25)) (World.drew w_25)) (World.drew w_25))
     (pur Try.prog (nilV v_t) fun t44 => 
     pur Try.prog (Instr.fieldAt 49 t44 1) fun t45 => 
     pur Try.prog (Instr.indexAt 47 t45 v_node) fun t46 => 
     rd Try.prog (Instr.loadAt 46 t46) (fun t47 => 
     pur Try.prog (Instr.fieldAt 68 t11 0) fun t48 => 
     rd Try.prog (Instr.loadAt 23 t48) (fun t49 => 
     callS Try.prog 30 #[t47, t49, v_keep] (fun _ w_27 => 
     J_1  w_27) (World.drew w_25)) (World.drew w_25)) (World.drew w_25)))) w_25) w_24) w_23) w_23)
  (fun  w_28 => ∀ _j : Fr, 
   pur Try.prog (binS .add 3 false true t38 (.int .i64 1)) fun t69 => 
   J t69 w_28))
   (callS Try.prog 31 #[v_t] (fun t71 w_29 => 
 Q (.tuple #[t71, (.int .i64 0)]) w_29) w_23)) [(.int .i64 0)] w_22) (World.drew w_21)) (World.drew w_21)) (World.drew w_21))) w_19) w_17) w_15) w_13) w_11) w_9) w_7) w_4) w_2) w_1) w
theorem eq11 (v_t v_node v_s v_keep : Value) (Q : Value → World → Prop) (w : World) : semF Try.prog 11 [v_t, v_node, v_s, v_keep] Q w = S11 v_t v_node v_s v_keep Q w := by kernel_rfl
theorem ref11 {v_t v_node v_s v_keep : Value} {Q : Value → World → Prop} {w : World} (h : S11 v_t v_node v_s v_keep Q w) : callS Try.prog 11 #[v_t, v_node, v_s, v_keep] Q w :=
  callS_of mix (fun a w => Try.call11 a w) (by kernel_rfl) (by rw [eq11]; exact h)
-- (*commons/ltab.Table).Mode
def S12 (v_t v_node v_block : Value) (Q : Value → World → Prop) (w : World) : Prop :=
 callS Try.prog 21 #[v_t, v_node] (fun t11 w_1 => 
 pur Try.prog (Op.unary .not t11) fun t12 => 
 condS t12
  (Q (.int .i64 0) w_1)
  (pur Try.prog (nilV v_t) fun t16 => 
 pur Try.prog (Instr.fieldAt 49 t16 1) fun t17 => 
 pur Try.prog (Instr.indexAt 47 t17 v_node) fun t18 => 
 rd Try.prog (Instr.loadAt 46 t18) (fun t19 => 
 callS Try.prog 32 #[t19, v_block] (fun t21 w_2 => 
 pur Try.prog (Instr.extract t21 0) fun t22 => 
 pur Try.prog (Instr.extract t21 1) fun _ => 
 Q t22 w_2) w_1) w_1)) w
theorem eq12 (v_t v_node v_block : Value) (Q : Value → World → Prop) (w : World) : semF Try.prog 12 [v_t, v_node, v_block] Q w = S12 v_t v_node v_block Q w := by kernel_rfl
theorem ref12 {v_t v_node v_block : Value} {Q : Value → World → Prop} {w : World} (h : S12 v_t v_node v_block Q w) : callS Try.prog 12 #[v_t, v_node, v_block] Q w :=
  callS_of mix (fun a w => Try.call12 a w) (by kernel_rfl) (by rw [eq12]; exact h)
-- (*commons/ltab.Table).Waits
def S13 (v_t : Value) (Q : Value → World → Prop) (w : World) : Prop :=
 rd Try.prog (binS .eql 25 false true v_t (.pointer none)) (fun t4 => 
 condS t4
  (Q (.slice none 0 0) w)
  (pur Try.prog (nilV v_t) fun t6 => 
 pur Try.prog (Instr.fieldAt 49 t6 2) fun t7 => 
 rd Try.prog (Instr.loadAt 32 t7) (fun t8 => 
 callS Try.prog 33 #[t8] (fun t9 w_1 => 
 Q t9 w_1) w) w)) w
theorem eq13 (v_t : Value) (Q : Value → World → Prop) (w : World) : semF Try.prog 13 [v_t] Q w = S13 v_t Q w := by kernel_rfl
theorem ref13 {v_t : Value} {Q : Value → World → Prop} {w : World} (h : S13 v_t Q w) : callS Try.prog 13 #[v_t] Q w :=
  callS_of mix (fun a w => Try.call13 a w) (by kernel_rfl) (by rw [eq13]; exact h)
-- (*commons/ltab.Table).Holds
def S14 (v_t v_node : Value) (Q : Value → World → Prop) (w : World) : Prop :=
 callS Try.prog 21 #[v_t, v_node] (fun t10 w_1 => 
 pur Try.prog (Op.unary .not t10) fun t11 => 
 condS t11
  (Q (.slice none 0 0) w_1)
  (pur Try.prog (nilV v_t) fun t14 => 
 pur Try.prog (Instr.fieldAt 49 t14 1) fun t15 => 
 pur Try.prog (Instr.indexAt 47 t15 v_node) fun t16 => 
 rd Try.prog (Instr.loadAt 46 t16) (fun t17 => 
 callS Try.prog 34 #[t17] (fun t18 w_2 => 
 pur Try.prog (Builtin.len_ #[65] 3 #[t18]) fun t19 => 
 lp 2 (fun J => fun v_out t20 w_3 => ∀ _j : Fr, 
  pur Try.prog (binS .lss 3 false false t20 t19) fun t21 => 
  condS t21
   (pur Try.prog (Instr.indexAt 65 t18 t20) fun t22 => 
  rd Try.prog (Instr.loadAt 68 t22) (fun t23 => 
  act Try.prog (Instr.alloc 68 true (.tuple #[])) (fun t7 w_4 => 
  act Try.prog (thenU (Instr.storeAt 68 t7 t23)) (fun _ w_5 => 
  pur Try.prog (Instr.fieldAt 68 t7 0) fun t25 => 
  rd Try.prog (Instr.loadAt 23 t25) (fun t26 => 
  pur Try.prog (Instr.fieldAt 68 t7 1) fun t27 => 
  rd Try.prog (Instr.loadAt 3 t27) (fun t28 => 
  pur Try.prog (Instr.build 31 #[(0, t26), (1, t28)]) fun t29 => 
  act Try.prog (Instr.buildSlice 43 1 #[(0, t29)]) (fun t30 w_6 => 
  act Try.prog (Builtin.append_ #[43, 43] 43 #[v_out, t30]) (fun t31 w_7 => 
  pur Try.prog (binS .add 3 false true t20 (.int .i64 1)) fun t32 => 
  J t31 t32 w_7) w_6) w_5) w_5) w_5) w_4) w_3) w_3)
   (Q v_out w_3)) [(.slice none 0 0), (.int .i64 0)] w_2) w_1) w_1)) w
theorem eq14 (v_t v_node : Value) (Q : Value → World → Prop) (w : World) : semF Try.prog 14 [v_t, v_node] Q w = S14 v_t v_node Q w := by kernel_rfl
theorem ref14 {v_t v_node : Value} {Q : Value → World → Prop} {w : World} (h : S14 v_t v_node Q w) : callS Try.prog 14 #[v_t, v_node] Q w :=
  callS_of mix (fun a w => Try.call14 a w) (by kernel_rfl) (by rw [eq14]; exact h)
-- (*commons/ltab.Table).Cancel
def S15 (v_t v_id : Value) (Q : Value → World → Prop) (w : World) : Prop :=
 act Try.prog (Instr.box 3 v_id) (fun t3 w_1 => 
 rd Try.prog (binS .eql 25 false true v_t (.pointer none)) (fun t8 => 
 condS t8
  (Q (.tuple #[(.slice none 0 0), (.bool false)]) w_1)
  (pur Try.prog (nilV v_t) fun t10 => 
 pur Try.prog (Instr.fieldAt 49 t10 2) fun t11 => 
 rd Try.prog (Instr.loadAt 32 t11) (fun t12 => 
 pur Try.prog (Builtin.len_ #[32] 3 #[t12]) fun t13 => 
 pur Try.prog (nilV v_t) fun t16 => 
 pur Try.prog (Instr.fieldAt 49 t16 2) fun t17 => 
 rd Try.prog (Instr.loadAt 32 t17) (fun t18 => 
 pur Try.prog (pure (.func (.func 36) #[] #[t3])) fun t19 => 
 callS Try.prog 35 #[t18, t19] (fun t20 w_2 => 
 pur Try.prog (nilV v_t) fun t21 => 
 pur Try.prog (Instr.fieldAt 49 t21 2) fun t22 => 
 act Try.prog (thenU (Instr.storeAt 32 t22 t20)) (fun _ w_3 => 
 pur Try.prog (nilV v_t) fun t24 => 
 pur Try.prog (Instr.fieldAt 49 t24 2) fun t25 => 
 rd Try.prog (Instr.loadAt 32 t25) (fun t26 => 
 pur Try.prog (Builtin.len_ #[32] 3 #[t26]) fun t27 => 
 pur Try.prog (binS .eql 3 false false t27 t13) fun t29 => 
 condS t29
  (Q (.tuple #[(.slice none 0 0), (.bool false)]) w_3)
  (callS Try.prog 31 #[v_t] (fun t31 w_4 => 
 Q (.tuple #[t31, (.bool true)]) w_4) w_3)) w_3) w_2) w_1) w_1) w_1)) w_1) w
theorem eq15 (v_t v_id : Value) (Q : Value → World → Prop) (w : World) : semF Try.prog 15 [v_t, v_id] Q w = S15 v_t v_id Q w := by kernel_rfl
theorem ref15 {v_t v_id : Value} {Q : Value → World → Prop} {w : World} (h : S15 v_t v_id Q w) : callS Try.prog 15 #[v_t, v_id] Q w :=
  callS_of mix (fun a w => Try.call15 a w) (by kernel_rfl) (by rw [eq15]; exact h)
-- (*commons/ltab.Table).Force
def S16 (v_t v_node v_l : Value) (Q : Value → World → Prop) (w : World) : Prop :=
 act Try.prog (Instr.box 31 v_l) (fun t5 w_1 => 
 callS Try.prog 21 #[v_t, v_node] (fun t10 w_2 => 
 pur Try.prog (Op.unary .not t10) fun t11 => 
 gd t11 false (fun k w_3 => rd Try.prog (Instr.loadAt 31 t5) (fun t13 => k t13 w_3) w_3) (fun t13_1 w_4 => 
 gd t11 false (fun k_1 w_5 => callS Try.prog 22 #[t13_1] (fun t14 w_6 => k_1 t14 w_6) w_5) (fun t14_1 w_7 => 
 gd t11 false (fun k_2 w_8 => pur Try.prog (Op.unary .not t14_1) fun t15 => k_2 t15 w_8) (fun t15_1 w_9 => 
 pur Try.prog (pickS t11 (.bool true) t15_1) fun t16 => 
 condS t16
  (Q (.int .i64 1) w_9)
  (rd Try.prog (Instr.loadAt 31 t5) (fun t20 => 
  callS Try.prog 37 #[v_t, v_node, t20] (fun t21 w_10 => 
  pur Try.prog (Op.unary .not t21) fun t22 => 
  condS t22
   (Q (.int .i64 8) w_10)
   (pur Try.prog (nilV v_t) fun t25 => 
 pur Try.prog (Instr.fieldAt 49 t25 1) fun t26 => 
 pur Try.prog (Instr.indexAt 47 t26 v_node) fun t27 => 
 rd Try.prog (Instr.loadAt 46 t27) (fun t28 => 
 rd Try.prog (Instr.loadAt 31 t5) (fun t29 => 
 callS Try.prog 25 #[t28, t29] (fun _ w_11 => 
 Q (.int .i64 0) w_11) (World.drew w_10)) (World.drew w_10)) (World.drew w_10))) w_9) w_9)) w_7) w_4) w_2) w_1) w
theorem eq16 (v_t v_node v_l : Value) (Q : Value → World → Prop) (w : World) : semF Try.prog 16 [v_t, v_node, v_l] Q w = S16 v_t v_node v_l Q w := by kernel_rfl
theorem ref16 {v_t v_node v_l : Value} {Q : Value → World → Prop} {w : World} (h : S16 v_t v_node v_l Q w) : callS Try.prog 16 #[v_t, v_node, v_l] Q w :=
  callS_of mix (fun a w => Try.call16 a w) (by kernel_rfl) (by rw [eq16]; exact h)
-- (*commons/ltab.Table).Drop
def S17 (v_t v_node : Value) (Q : Value → World → Prop) (w : World) : Prop :=
 act Try.prog (Instr.box 3 v_node) (fun t3 w_1 => 
 rd Try.prog (Instr.loadAt 3 t3) (fun t6 => 
 callS Try.prog 21 #[v_t, t6] (fun t7 w_2 => 
 pur Try.prog (Op.unary .not t7) fun t8 => 
 condS t8
  (Q (.slice none 0 0) w_2)
  (jn 0 (fun J => 
  pur Try.prog (nilV v_t) fun t12 => 
  pur Try.prog (Instr.fieldAt 49 t12 1) fun t13 => 
  (rd Try.prog (Instr.loadAt 3 t3) (fun t10 => 
  callS Try.prog 20 #[] (fun t11 w_3 => 
  pur Try.prog (Instr.indexAt 47 t13 t10) fun t14 => 
  act Try.prog (thenU (Instr.storeAt 46 t14 t11)) (fun _ w_4 => 
  J  w_4) w_3) (World.drew w_2)) (World.drew w_2)
  ) ∧ (callS Try.prog 20 #[] (fun t11_1 w_5 => 
  rd Try.prog (Instr.loadAt 3 t3) (fun t10_1 => 
  pur Try.prog (Instr.indexAt 47 t13 t10_1) fun t14_1 => 
  act Try.prog (thenU (Instr.storeAt 46 t14_1 t11_1)) (fun _ w_6 => 
  J  w_6) w_5) w_5) (World.drew w_2)))
 (fun  w_7 => ∀ _j : Fr, 
  pur Try.prog (nilV v_t) fun t17 => 
 pur Try.prog (Instr.fieldAt 49 t17 2) fun t18 => 
 rd Try.prog (Instr.loadAt 32 t18) (fun t19 => 
 pur Try.prog (pure (.func (.func 38) #[] #[t3])) fun t20 => 
 callS Try.prog 35 #[t19, t20] (fun t21 w_8 => 
 pur Try.prog (nilV v_t) fun t22 => 
 pur Try.prog (Instr.fieldAt 49 t22 2) fun t23 => 
 act Try.prog (thenU (Instr.storeAt 32 t23 t21)) (fun _ w_9 => 
 callS Try.prog 31 #[v_t] (fun t25 w_10 => 
 Q t25 w_10) w_9) w_8) w_7) w_7))) w_1) w_1) w
theorem eq17 (v_t v_node : Value) (Q : Value → World → Prop) (w : World) : semF Try.prog 17 [v_t, v_node] Q w = S17 v_t v_node Q w := by kernel_rfl
theorem ref17 {v_t v_node : Value} {Q : Value → World → Prop} {w : World} (h : S17 v_t v_node Q w) : callS Try.prog 17 #[v_t, v_node] Q w :=
  callS_of mix (fun a w => Try.call17 a w) (by kernel_rfl) (by rw [eq17]; exact h)
-- (*commons/ltab.Table).Revokes
def S18 (v_t : Value) (Q : Value → World → Prop) (w : World) : Prop :=
 rd Try.prog (binS .eql 25 false true v_t (.pointer none)) (fun t12 => 
 condS t12
  (Q (.slice none 0 0) w)
  (act Try.prog (Instr.alloc 47 true (.tuple #[])) (fun t4 w_1 => 
 lp 1 (fun J => fun t13 w_2 => ∀ _j : Fr, 
  pur Try.prog (binS .lss 3 false true t13 (.int .i64 17)) fun t14 => 
  condS t14
   (callS Try.prog 20 #[] (fun t17 w_3 => 
  pur Try.prog (Instr.indexAt 47 t4 t13) fun t18 => 
  act Try.prog (thenU (Instr.storeAt 46 t18 t17)) (fun _ w_4 => 
  pur Try.prog (binS .add 3 false true t13 (.int .i64 1)) fun t19 => 
  J t19 w_4) w_3) w_2)
   (pur Try.prog (nilV v_t) fun t21 => 
 pur Try.prog (Instr.fieldAt 49 t21 2) fun t22 => 
 rd Try.prog (Instr.loadAt 32 t22) (fun t23 => 
 pur Try.prog (Builtin.len_ #[32] 3 #[t23]) fun t24 => 
 lp 2 (fun J_1 => fun v_out t25 w_5 => ∀ _j : Fr, 
  pur Try.prog (binS .lss 3 false false t25 t24) fun t26 => 
  condS t26
   (pur Try.prog (Instr.indexAt 32 t23 t25) fun t27 => 
  rd Try.prog (Instr.loadAt 36 t27) (fun t28 => 
  act Try.prog (Instr.alloc 36 true (.tuple #[])) (fun t7 w_6 => 
  act Try.prog (thenU (Instr.storeAt 36 t7 t28)) (fun _ w_7 => 
  lp 2 (fun J_2 => fun v_out_1 v_node w_8 => ∀ _j : Fr, 
   pur Try.prog (nilV v_t) fun t31 => 
   pur Try.prog (Instr.fieldAt 49 t31 0) fun t32 => 
   rd Try.prog (Instr.loadAt 3 t32) (fun t33 => 
   pur Try.prog (binS .leq 3 false false v_node t33) fun t34 => 
   condS t34
    (jn 1 (fun J_3 => 
    pur Try.prog (Instr.fieldAt 36 t7 1) fun t38 => 
    rd Try.prog (Instr.loadAt 3 t38) (fun t39 => 
    pur Try.prog (binS .eql 3 false false v_node t39) fun t40 => 
    condS t40
     (J_3 v_out_1 w_8)
     (pur Try.prog (Instr.fieldAt 36 t7 2) fun t43 => 
    rd Try.prog (Instr.loadAt 31 t43) (fun t44 => 
    pur Try.prog (Instr.indexAt 47 t4 v_node) fun t46 => 
    rd Try.prog (Instr.loadAt 46 t46) (fun t47 => 
    callS Try.prog 39 #[v_t, v_node, t44, t47] (fun t48 w_9 => 
    pur Try.prog (Builtin.len_ #[43] 3 #[t48]) fun t49 => 
    lp 2 (fun J_4 => fun v_out_2 t50 w_10 => ∀ _j : Fr, 
     pur Try.prog (binS .lss 3 false false t50 t49) fun t51 => 
     condS t51
      (pur Try.prog (Instr.indexAt 43 t48 t50) fun t52 => 
     rd Try.prog (Instr.loadAt 31 t52) (fun t53 => 
     act Try.prog (Instr.alloc 31 true (.tuple #[])) (fun t10 w_11 => 
     act Try.prog (thenU (Instr.storeAt 31 t10 t53)) (fun _ w_12 => 
     rd Try.prog (Instr.loadAt 31 t10) (fun t56 => 
     pur Try.prog (Instr.build 58 #[(0, v_node), (1, t56)]) fun t57 => 
     act Try.prog (Instr.buildSlice 54 1 #[(0, t57)]) (fun t58 w_13 => 
     act Try.prog (Builtin.append_ #[54, 54] 54 #[v_out_2, t58]) (fun t59 w_14 => 
     pur Try.prog (Instr.indexAt 47 t4 v_node) fun t61 => 
     rd Try.prog (Instr.loadAt 46 t61) (fun t62 => 
     pur Try.prog (Instr.fieldAt 31 t10 0) fun t63 => 
     rd Try.prog (Instr.loadAt 23 t63) (fun t64 => 
     pur Try.prog (Instr.fieldAt 31 t10 1) fun t65 => 
     rd Try.prog (Instr.loadAt 3 t65) (fun t66 => 
     pur Try.prog (binS .add 3 false true t66 (.int .i64 1)) fun t67 => 
     callS Try.prog 30 #[t62, t64, t67] (fun _ w_15 => 
     pur Try.prog (binS .add 3 false true t50 (.int .i64 1)) fun t69 => 
     J_4 t59 t69 w_15) (World.drew w_14)) (World.drew w_14)) (World.drew w_14)) (World.drew w_14)) w_13) w_12) w_12) w_11) w_10) w_10)
      (J_3 v_out_2 w_10)) [v_out_1, (.int .i64 0)] w_9) (World.drew w_8)) (World.drew w_8)) (World.drew w_8))) w_8)
   (fun v_out_3 w_16 => ∀ _j : Fr, 
    pur Try.prog (binS .add 3 false true v_node (.int .i64 1)) fun t36 => 
    J_2 v_out_3 t36 w_16))
    (pur Try.prog (binS .add 3 false true t25 (.int .i64 1)) fun t70 => 
  J_1 v_out_1 t70 w_8)) w_8) [v_out, (.int .i64 1)] w_7) w_6) w_5) w_5)
   (Q v_out w_5)) [(.slice none 0 0), (.int .i64 0)] w_2) w_2)) [(.int .i64 0)] w_1) w)) w
theorem eq18 (v_t : Value) (Q : Value → World → Prop) (w : World) : semF Try.prog 18 [v_t] Q w = S18 v_t Q w := by kernel_rfl
theorem ref18 {v_t : Value} {Q : Value → World → Prop} {w : World} (h : S18 v_t Q w) : callS Try.prog 18 #[v_t] Q w :=
  callS_of mix (fun a w => Try.call18 a w) (by kernel_rfl) (by rw [eq18]; exact h)
-- (*commons/ltab.Table).Sound
def S19 (v_t : Value) (Q : Value → World → Prop) (w : World) : Prop :=
 rd Try.prog (binS .eql 25 false true v_t (.pointer none)) (fun t7 => 
 condS t7
  (Q (.bool true) w)
  (lp 1 (fun J => fun v_node w_1 => ∀ _j : Fr, 
  pur Try.prog (nilV v_t) fun t10 => 
  pur Try.prog (Instr.fieldAt 49 t10 0) fun t11 => 
  rd Try.prog (Instr.loadAt 3 t11) (fun t12 => 
  pur Try.prog (binS .leq 3 false false v_node t12) fun t13 => 
  condS t13
   (callS Try.prog 14 #[v_t, v_node] (fun t18 w_2 => 
  pur Try.prog (Builtin.len_ #[43] 3 #[t18]) fun t19 => 
  lp 1 (fun J_1 => fun t20 w_3 => ∀ _j : Fr, 
   pur Try.prog (binS .lss 3 false false t20 t19) fun t21 => 
   condS t21
    (pur Try.prog (Instr.indexAt 43 t18 t20) fun t22 => 
   rd Try.prog (Instr.loadAt 31 t22) (fun t23 => 
   act Try.prog (Instr.alloc 31 true (.tuple #[])) (fun t5 w_4 => 
   act Try.prog (thenU (Instr.storeAt 31 t5 t23)) (fun _ w_5 => 
   rd Try.prog (Instr.loadAt 31 t5) (fun t26 => 
   callS Try.prog 37 #[v_t, v_node, t26] (fun t27 w_6 => 
   pur Try.prog (Op.unary .not t27) fun t28 => 
   condS t28
    (Q (.bool false) w_6)
    (pur Try.prog (binS .add 3 false true t20 (.int .i64 1)) fun t29 => 
   J_1 t29 w_6)) w_5) w_5) w_4) w_3) w_3)
    (pur Try.prog (binS .add 3 false true v_node (.int .i64 1)) fun t15 => 
  J t15 w_3)) [(.int .i64 0)] w_2) w_1)
   (Q (.bool true) w_1)) w_1) [(.int .i64 1)] w)) w
theorem eq19 (v_t : Value) (Q : Value → World → Prop) (w : World) : semF Try.prog 19 [v_t] Q w = S19 v_t Q w := by kernel_rfl
theorem ref19 {v_t : Value} {Q : Value → World → Prop} {w : World} (h : S19 v_t Q w) : callS Try.prog 19 #[v_t] Q w :=
  callS_of mix (fun a w => Try.call19 a w) (by kernel_rfl) (by rw [eq19]; exact h)
-- commons/imap.New[int]
def S20 (Q : Value → World → Prop) (w : World) : Prop :=
 pur Try.prog (Instr.build 77 #[]) fun t1 => 
 act Try.prog (Instr.box 77 t1) (fun t2 w_1 => 
 Q t2 w_1) w
theorem eq20 (Q : Value → World → Prop) (w : World) : semF Try.prog 20 [] Q w = S20 Q w := by kernel_rfl
theorem ref20 {Q : Value → World → Prop} {w : World} (h : S20 Q w) : callS Try.prog 20 #[] Q w :=
  callS_of mix (fun a w => Try.call20 a w) (by kernel_rfl) (by rw [eq20]; exact h)
-- (*commons/ltab.Table).is
def S21 (v_t v_node : Value) (Q : Value → World → Prop) (w : World) : Prop :=
 rd Try.prog (binS .neq 25 false true v_t (.pointer none)) (fun t6 => 
 gd t6 true (fun k w_1 => k v_node w_1) (fun t8_1 w_2 => 
 gd t6 true (fun k_1 w_3 => pur Try.prog (binS .geq 3 false true t8_1 (.int .i64 1)) fun t9 => k_1 t9 w_3) (fun t9_1 w_4 => 
 pur Try.prog (pickS t6 t9_1 (.bool false)) fun t10 => 
 gd t10 true (fun k_2 w_5 => k_2 v_node w_5) (fun t12_1 w_6 => 
 gd t10 true (fun k_3 w_7 => k_3 v_t w_7) (fun t13_1 w_8 => 
 gd t10 true (fun k_4 w_9 => pur Try.prog (nilV t13_1) fun t14 => k_4 t14 w_9) (fun t14_1 w_10 => 
 gd t10 true (fun k_5 w_11 => pur Try.prog (Instr.fieldAt 49 t14_1 0) fun t15 => k_5 t15 w_11) (fun t15_1 w_12 => 
 gd t10 true (fun k_6 w_13 => rd Try.prog (Instr.loadAt 3 t15_1) (fun t16 => k_6 t16 w_13) w_13) (fun t16_1 w_14 => 
 gd t10 true (fun k_7 w_15 => pur Try.prog (binS .leq 3 false false t12_1 t16_1) fun t17 => k_7 t17 w_15) (fun t17_1 w_16 => 
 pur Try.prog (pickS t10 t17_1 (.bool false)) fun t18 => 
 Q t18 w_16) w_14) w_12) w_10) w_8) w_6) w_4) w_2) w) w
theorem eq21 (v_t v_node : Value) (Q : Value → World → Prop) (w : World) : semF Try.prog 21 [v_t, v_node] Q w = S21 v_t v_node Q w := by kernel_rfl
theorem ref21 {v_t v_node : Value} {Q : Value → World → Prop} {w : World} (h : S21 v_t v_node Q w) : callS Try.prog 21 #[v_t, v_node] Q w :=
  callS_of mix (fun a w => Try.call21 a w) (by kernel_rfl) (by rw [eq21]; exact h)
-- commons/ltab.right
def S22 (v_l : Value) (Q : Value → World → Prop) (w : World) : Prop :=
 act Try.prog (Instr.box 31 v_l) (fun t1 w_1 => 
 pur Try.prog (Instr.fieldAt 31 t1 0) fun t3 => 
 rd Try.prog (Instr.loadAt 23 t3) (fun t4 => 
 callS Try.prog 27 #[t4] (fun t5 w_2 => 
 gd t5 true (fun k w_3 => pur Try.prog (Instr.fieldAt 31 t1 0) fun t7 => k t7 w_3) (fun t7_1 w_4 => 
 gd t5 true (fun k_1 w_5 => pur Try.prog (Instr.fieldAt 23 t7_1 1) fun t8 => k_1 t8 w_5) (fun t8_1 w_6 => 
 gd t5 true (fun k_2 w_7 => rd Try.prog (Instr.loadAt 3 t8_1) (fun t9 => k_2 t9 w_7) w_7) (fun t9_1 w_8 => 
 gd t5 true (fun k_3 w_9 => pur Try.prog (binS .leq 3 false true t9_1 (.int .i64 4096)) fun t10 => k_3 t10 w_9) (fun t10_1 w_10 => 
 pur Try.prog (pickS t5 t10_1 (.bool false)) fun t11 => 
 gd t11 true (fun k_4 w_11 => pur Try.prog (Instr.fieldAt 31 t1 1) fun t13 => k_4 t13 w_11) (fun t13_1 w_12 => 
 gd t11 true (fun k_5 w_13 => rd Try.prog (Instr.loadAt 3 t13_1) (fun t14 => k_5 t14 w_13) w_13) (fun t14_1 w_14 => 
 gd t11 true (fun k_6 w_15 => pur Try.prog (binS .eql 3 false true t14_1 (.int .i64 1)) fun t15 => k_6 t15 w_15) (fun t15_1 w_16 => 
 gd t11 true (fun k_7 w_17 => k_7 t15_1 w_17) (fun t16_1 w_18 => 
 gd t16_1 false (fun k_8 w_19 => pur Try.prog (Instr.fieldAt 31 t1 1) fun t17 => k_8 t17 w_19) (fun t17_1 w_20 => 
 gd t16_1 false (fun k_9 w_21 => rd Try.prog (Instr.loadAt 3 t17_1) (fun t18 => k_9 t18 w_21) w_21) (fun t18_1 w_22 => 
 gd t16_1 false (fun k_10 w_23 => pur Try.prog (binS .eql 3 false true t18_1 (.int .i64 2)) fun t19 => k_10 t19 w_23) (fun t19_1 w_24 => 
 gd t11 true (fun k_11 w_25 => pur Try.prog (pickS t16_1 (.bool true) t19_1) fun t20 => k_11 t20 w_25) (fun t20_1 w_26 => 
 pur Try.prog (pickS t11 t20_1 (.bool false)) fun t21 => 
 Q t21 w_26) w_24) w_22) w_20) w_18) w_16) w_14) w_12) w_10) w_8) w_6) w_4) w_2) w_1) w_1) w
theorem eq22 (v_l : Value) (Q : Value → World → Prop) (w : World) : semF Try.prog 22 [v_l] Q w = S22 v_l Q w := by kernel_rfl
theorem ref22 {v_l : Value} {Q : Value → World → Prop} {w : World} (h : S22 v_l Q w) : callS Try.prog 22 #[v_l] Q w :=
  callS_of mix (fun a w => Try.call22 a w) (by kernel_rfl) (by rw [eq22]; exact h)
-- commons/mode.Has
def S23 (v_held v_l : Value) (Q : Value → World → Prop) (w : World) : Prop :=
 callS Try.prog 40 #[v_held, v_l] (fun t7 w_1 => 
 pur Try.prog (Builtin.len_ #[43] 3 #[t7]) fun t8 => 
 pur Try.prog (binS .eql 3 false true t8 (.int .i64 0)) fun t9 => 
 Q t9 w_1) w
theorem eq23 (v_held v_l : Value) (Q : Value → World → Prop) (w : World) : semF Try.prog 23 [v_held, v_l] Q w = S23 v_held v_l Q w := by kernel_rfl
theorem ref23 {v_held v_l : Value} {Q : Value → World → Prop} {w : World} (h : S23 v_held v_l Q w) : callS Try.prog 23 #[v_held, v_l] Q w :=
  callS_of mix (fun a w => Try.call23 a w) (by kernel_rfl) (by rw [eq23]; exact h)
-- (*commons/ltab.Table).free
def S24 (v_t v_node v_l : Value) (Q : Value → World → Prop) (w : World) : Prop :=
 act Try.prog (Instr.box 31 v_l) (fun t5 w_1 => 
 ∃ S : World → Prop, S (World.drew w_1) ∧ 
 hld Try.prog S (Instr.loadAt 31 t5) fun t12 => 
 callS Try.prog 42 #[v_t] (fun t14 w_2 => S w_2 ∧ 
 callS Try.prog 41 #[v_t, v_node, t12, t14] (fun t15 w_3 => S w_3 ∧ 
 pur Try.prog (Instr.extract t15 0) fun _ => 
 pur Try.prog (Instr.extract t15 1) fun t17 => 
 pur Try.prog (Op.unary .not t17) fun t19 => 
 Q t19 w_3) w_2) (World.drew w_1)) w
theorem eq24 (v_t v_node v_l : Value) (Q : Value → World → Prop) (w : World) : semF Try.prog 24 [v_t, v_node, v_l] Q w = S24 v_t v_node v_l Q w := by kernel_rfl
theorem ref24 {v_t v_node v_l : Value} {Q : Value → World → Prop} {w : World} (h : S24 v_t v_node v_l Q w) : callS Try.prog 24 #[v_t, v_node, v_l] Q w :=
  callS_of mix (fun a w => Try.call24 a w) (by kernel_rfl) (by rw [eq24]; exact h)
-- commons/mode.Raise
def S25 (v_m v_l : Value) (Q : Value → World → Prop) (w : World) : Prop :=
 act Try.prog (Instr.box 31 v_l) (fun t3 w_1 => 
 pur Try.prog (Instr.fieldAt 31 t3 0) fun t8 => 
 rd Try.prog (Instr.loadAt 23 t8) (fun t9 => 
 callS Try.prog 28 #[v_m, t9] (fun t10 w_2 => 
 pur Try.prog (Instr.fieldAt 31 t3 0) fun t12 => 
 rd Try.prog (Instr.loadAt 23 t12) (fun t13 => 
 pur Try.prog (Instr.fieldAt 31 t3 1) fun t14 => 
 rd Try.prog (Instr.loadAt 3 t14) (fun t15 => 
 callS Try.prog 30 #[v_m, t13, t15] (fun _ w_3 => 
 pur Try.prog (Builtin.len_ #[65] 3 #[t10]) fun t18 => 
 lp 1 (fun J => fun t19 w_4 => ∀ _j : Fr, 
  pur Try.prog (binS .lss 3 false false t19 t18) fun t20 => 
  condS t20
   (pur Try.prog (Instr.indexAt 65 t10 t19) fun t21 => 
  rd Try.prog (Instr.loadAt 68 t21) (fun t22 => 
  act Try.prog (Instr.alloc 68 true (.tuple #[])) (fun t6 w_5 => 
  act Try.prog (thenU (Instr.storeAt 68 t6 t22)) (fun _ w_6 => 
  ∃ S : World → Prop, S (World.drew w_6) ∧ 
  pur Try.prog (Instr.fieldAt 68 t6 0) fun t24 => 
  hld Try.prog S (Instr.loadAt 23 t24) fun t25 => 
  pur Try.prog (Instr.fieldAt 68 t6 1) fun t26 => 
  hld Try.prog S (Instr.loadAt 3 t26) fun t27 => 
  pur Try.prog (Instr.fieldAt 31 t3 1) fun t28 => 
  hld Try.prog S (Instr.loadAt 3 t28) fun t29 => 
  callS Try.prog 43 #[t27, t29] (fun t30 w_7 => S w_7 ∧ 
  callS Try.prog 30 #[v_m, t25, t30] (fun _ w_8 => S w_8 ∧ 
  pur Try.prog (binS .add 3 false true t19 (.int .i64 1)) fun t32 => 
  J t32 w_8) w_7) (World.drew w_6)) w_5) w_4) w_4)
   (Q (.tuple #[]) w_4)) [(.int .i64 0)] w_3) w_2) w_2) w_2) w_1) w_1) w
theorem eq25 (v_m v_l : Value) (Q : Value → World → Prop) (w : World) : semF Try.prog 25 [v_m, v_l] Q w = S25 v_m v_l Q w := by kernel_rfl
theorem ref25 {v_m v_l : Value} {Q : Value → World → Prop} {w : World} (h : S25 v_m v_l Q w) : callS Try.prog 25 #[v_m, v_l] Q w :=
  callS_of mix (fun a w => Try.call25 a w) (by kernel_rfl) (by rw [eq25]; exact h)
-- (*commons/ltab.Table).dead
def S26 (v_t v_node v_l : Value) (Q : Value → World → Prop) (w : World) : Prop :=
 act Try.prog (Instr.box 31 v_l) (fun t5 w_1 => 
 pur Try.prog (Instr.fieldAt 31 t5 1) fun t13 => 
 rd Try.prog (Instr.loadAt 3 t13) (fun t14 => 
 pur Try.prog (binS .neq 3 false true t14 (.int .i64 2)) fun t15 => 
 condS t15
  (Q (.bool false) w_1)
  (pur Try.prog (nilV v_t) fun t17 => 
 pur Try.prog (Instr.fieldAt 49 t17 2) fun t18 => 
 rd Try.prog (Instr.loadAt 32 t18) (fun t19 => 
 pur Try.prog (Builtin.len_ #[32] 3 #[t19]) fun t20 => 
 lp 1 (fun J => fun t21 w_2 => ∀ _j : Fr, 
  pur Try.prog (binS .lss 3 false false t21 t20) fun t22 => 
  condS t22
   (jn 0 (fun J_1 => 
   pur Try.prog (Instr.indexAt 32 t19 t21) fun t23 => 
   rd Try.prog (Instr.loadAt 36 t23) (fun t24 => 
   act Try.prog (Instr.alloc 36 true (.tuple #[])) (fun t8 w_3 => 
   act Try.prog (thenU (Instr.storeAt 36 t8 t24)) (fun _ w_4 => 
   pur Try.prog (Instr.fieldAt 36 t8 1) fun t25 => 
   rd Try.prog (Instr.loadAt 3 t25) (fun t26 => 
   pur Try.prog (binS .eql 3 false false t26 v_node) fun t28 => 
   gd t28 false (fun k w_5 => pur Try.prog (Instr.fieldAt 36 t8 2) fun t30 => k t30 w_5) (fun t30_1 w_6 => 
   gd t28 false (fun k_1 w_7 => pur Try.prog (Instr.fieldAt 31 t30_1 1) fun t31 => k_1 t31 w_7) (fun t31_1 w_8 => 
   gd t28 false (fun k_2 w_9 => rd Try.prog (Instr.loadAt 3 t31_1) (fun t32 => k_2 t32 w_9) w_9) (fun t32_1 w_10 => 
   gd t28 false (fun k_3 w_11 => pur Try.prog (binS .neq 3 false true t32_1 (.int .i64 2)) fun t33 => k_3 t33 w_11) (fun t33_1 w_12 => 
   pur Try.prog (pickS t28 (.bool true) t33_1) fun t34 => 
   condS t34
    (J_1  w_12)
    (pur Try.prog (Instr.fieldAt 36 t8 1) fun t36 => 
   rd Try.prog (Instr.loadAt 3 t36) (fun t37 => 
   pur Try.prog (nilV v_t) fun t38 => 
   pur Try.prog (Instr.fieldAt 49 t38 1) fun t39 => 
   pur Try.prog (Instr.indexAt 47 t39 t37) fun t40 => 
   rd Try.prog (Instr.loadAt 46 t40) (fun t41 => 
   pur Try.prog (Instr.fieldAt 31 t5 0) fun t42 => 
   rd Try.prog (Instr.loadAt 23 t42) (fun t43 => 
   callS Try.prog 28 #[t41, t43] (fun t44 w_13 => 
   pur Try.prog (Builtin.len_ #[65] 3 #[t44]) fun t45 => 
   lp 1 (fun J_2 => fun t46 w_14 => ∀ _j : Fr, 
    pur Try.prog (binS .lss 3 false false t46 t45) fun t47 => 
    condS t47
     (jn 0 (fun J_3 => 
     pur Try.prog (Instr.indexAt 65 t44 t46) fun t48 => 
     rd Try.prog (Instr.loadAt 68 t48) (fun t49 => 
     act Try.prog (Instr.alloc 68 true (.tuple #[])) (fun t10 w_15 => 
     act Try.prog (thenU (Instr.storeAt 68 t10 t49)) (fun _ w_16 => 
     pur Try.prog (Instr.fieldAt 68 t10 0) fun t51 => 
     rd Try.prog (Instr.loadAt 23 t51) (fun t52 => 
     pur Try.prog (Instr.fieldAt 36 t8 2) fun t53 => 
     pur Try.prog (Instr.fieldAt 31 t53 0) fun t54 => 
     rd Try.prog (Instr.loadAt 23 t54) (fun t55 => 
     callS Try.prog 44 #[t52, t55] (fun t56 w_17 => 
     pur Try.prog (Instr.extract t56 0) fun t57 => 
     pur Try.prog (Instr.extract t56 1) fun t58 => 
     act Try.prog (Instr.alloc 23 true (.tuple #[])) (fun t11 w_18 => 
     act Try.prog (thenU (Instr.storeAt 23 t11 t57)) (fun _ w_19 => 
     pur Try.prog (Op.unary .not t58) fun t60 => 
     gd t60 false (fun k_4 w_20 => pur Try.prog (Instr.fieldAt 68 t10 1) fun t62 => k_4 t62 w_20) (fun t62_1 w_21 => 
     gd t60 false (fun k_5 w_22 => rd Try.prog (Instr.loadAt 3 t62_1) (fun t63 => k_5 t63 w_22) w_22) (fun t63_1 w_23 => 
     gd t60 false (fun k_6 w_24 => pur Try.prog (binS .neq 3 false true t63_1 (.int .i64 1)) fun t64 => k_6 t64 w_24) (fun t64_1 w_25 => 
     pur Try.prog (pickS t60 (.bool true) t64_1) fun t65 => 
     condS t65
      (J_3  w_25)
      (pur Try.prog (nilV v_t) fun t68 => 
     pur Try.prog (Instr.fieldAt 49 t68 1) fun t69 => 
     pur Try.prog (Instr.indexAt 47 t69 v_node) fun t70 => 
     rd Try.prog (Instr.loadAt 46 t70) (fun t71 => 
     rd Try.prog (Instr.loadAt 23 t11) (fun t72 => 
     callS Try.prog 28 #[t71, t72] (fun t73 w_26 => 
     callS Try.prog 45 #[t73, (.func (.func 46) #[] #[])] (fun t74 w_27 => 
     condS t74
      (Q (.bool true) w_27)
      (J_3  w_27)) w_26) (World.drew w_25)) (World.drew w_25)) (World.drew w_25))) w_23) w_21) w_19) w_18) w_17) w_16) w_16) w_16) w_15) w_14) w_14)
    (fun  w_28 => ∀ _j : Fr, 
     pur Try.prog (binS .add 3 false true t46 (.int .i64 1)) fun t75 => 
     J_2 t75 w_28))
     (J_1  w_14)) [(.int .i64 0)] w_13) (World.drew w_12)) (World.drew w_12)) (World.drew w_12)) (World.drew w_12))) w_10) w_8) w_6) w_4) w_4) w_3) w_2) w_2)
  (fun  w_29 => ∀ _j : Fr, 
   pur Try.prog (binS .add 3 false true t21 (.int .i64 1)) fun t76 => 
   J t76 w_29))
   (Q (.bool false) w_2)) [(.int .i64 0)] w_1) w_1)) w_1) w
theorem eq26 (v_t v_node v_l : Value) (Q : Value → World → Prop) (w : World) : semF Try.prog 26 [v_t, v_node, v_l] Q w = S26 v_t v_node v_l Q w := by kernel_rfl
theorem ref26 {v_t v_node v_l : Value} {Q : Value → World → Prop} {w : World} (h : S26 v_t v_node v_l Q w) : callS Try.prog 26 #[v_t, v_node, v_l] Q w :=
  callS_of mix (fun a w => Try.call26 a w) (by kernel_rfl) (by rw [eq26]; exact h)
-- commons/span.Valid
def S27 (v_s : Value) (Q : Value → World → Prop) (w : World) : Prop :=
 act Try.prog (Instr.box 23 v_s) (fun t1 w_1 => 
 pur Try.prog (Instr.fieldAt 23 t1 0) fun t3 => 
 rd Try.prog (Instr.loadAt 3 t3) (fun t4 => 
 pur Try.prog (binS .geq 3 false true t4 (.int .i64 0)) fun t5 => 
 gd t5 true (fun k w_2 => pur Try.prog (Instr.fieldAt 23 t1 0) fun t7 => k t7 w_2) (fun t7_1 w_3 => 
 gd t5 true (fun k_1 w_4 => rd Try.prog (Instr.loadAt 3 t7_1) (fun t8 => k_1 t8 w_4) w_4) (fun t8_1 w_5 => 
 gd t5 true (fun k_2 w_6 => pur Try.prog (Instr.fieldAt 23 t1 1) fun t9 => k_2 t9 w_6) (fun t9_1 w_7 => 
 gd t5 true (fun k_3 w_8 => rd Try.prog (Instr.loadAt 3 t9_1) (fun t10 => k_3 t10 w_8) w_8) (fun t10_1 w_9 => 
 gd t5 true (fun k_4 w_10 => pur Try.prog (binS .lss 3 false false t8_1 t10_1) fun t11 => k_4 t11 w_10) (fun t11_1 w_11 => 
 pur Try.prog (pickS t5 t11_1 (.bool false)) fun t12 => 
 Q t12 w_11) w_9) w_7) w_5) w_3) w_1) w_1) w
theorem eq27 (v_s : Value) (Q : Value → World → Prop) (w : World) : semF Try.prog 27 [v_s] Q w = S27 v_s Q w := by kernel_rfl
theorem ref27 {v_s : Value} {Q : Value → World → Prop} {w : World} (h : S27 v_s Q w) : callS Try.prog 27 #[v_s] Q w :=
  callS_of mix (fun a w => Try.call27 a w) (by kernel_rfl) (by rw [eq27]; exact h)
-- (*commons/imap.Map[int]).Parts
def S28 (v_m v_s : Value) (Q : Value → World → Prop) (w : World) : Prop :=
 act Try.prog (Instr.box 23 v_s) (fun t3 w_1 => 
 rd Try.prog (binS .eql 46 false true v_m (.pointer none)) (fun t11 => 
 condS t11
  (Q (.slice none 0 0) w_1)
  (pur Try.prog (nilV v_m) fun t13 => 
 pur Try.prog (Instr.fieldAt 77 t13 0) fun t14 => 
 rd Try.prog (Instr.loadAt 65 t14) (fun t15 => 
 pur Try.prog (Builtin.len_ #[65] 3 #[t15]) fun t16 => 
 lp 2 (fun J => fun v_out t17 w_2 => ∀ _j : Fr, 
  pur Try.prog (binS .lss 3 false false t17 t16) fun t18 => 
  condS t18
   (jn 1 (fun J_1 => 
   pur Try.prog (Instr.indexAt 65 t15 t17) fun t19 => 
   rd Try.prog (Instr.loadAt 68 t19) (fun t20 => 
   act Try.prog (Instr.alloc 68 true (.tuple #[])) (fun t7 w_3 => 
   act Try.prog (thenU (Instr.storeAt 68 t7 t20)) (fun _ w_4 => 
   pur Try.prog (Instr.fieldAt 68 t7 0) fun t22 => 
   rd Try.prog (Instr.loadAt 23 t22) (fun t23 => 
   rd Try.prog (Instr.loadAt 23 t3) (fun t24 => 
   callS Try.prog 44 #[t23, t24] (fun t25 w_5 => 
   pur Try.prog (Instr.extract t25 0) fun t26 => 
   pur Try.prog (Instr.extract t25 1) fun t27 => 
   act Try.prog (Instr.alloc 23 true (.tuple #[])) (fun t8 w_6 => 
   act Try.prog (thenU (Instr.storeAt 23 t8 t26)) (fun _ w_7 => 
   condS t27
    (rd Try.prog (Instr.loadAt 23 t8) (fun t30 => 
    pur Try.prog (Instr.fieldAt 68 t7 1) fun t31 => 
    rd Try.prog (Instr.loadAt 3 t31) (fun t32 => 
    pur Try.prog (Instr.build 68 #[(0, t30), (1, t32)]) fun t33 => 
    act Try.prog (Instr.buildSlice 65 1 #[(0, t33)]) (fun t34 w_8 => 
    act Try.prog (Builtin.append_ #[65, 65] 65 #[v_out, t34]) (fun t35 w_9 => 
    J_1 t35 w_9) w_8) w_7) w_7) w_7)
    (J_1 v_out w_7)) w_6) w_5) w_4) w_4) w_4) w_3) w_2) w_2)
  (fun v_out_1 w_10 => ∀ _j : Fr, 
   pur Try.prog (binS .add 3 false true t17 (.int .i64 1)) fun t36 => 
   J v_out_1 t36 w_10))
   (Q v_out w_2)) [(.slice none 0 0), (.int .i64 0)] w_1) w_1)) w_1) w
theorem eq28 (v_m v_s : Value) (Q : Value → World → Prop) (w : World) : semF Try.prog 28 [v_m, v_s] Q w = S28 v_m v_s Q w := by kernel_rfl
theorem ref28 {v_m v_s : Value} {Q : Value → World → Prop} {w : World} (h : S28 v_m v_s Q w) : callS Try.prog 28 #[v_m, v_s] Q w :=
  callS_of mix (fun a w => Try.call28 a w) (by kernel_rfl) (by rw [eq28]; exact h)
-- (*commons/imap.Map[int]).Clear
def S29 (v_m v_s : Value) (Q : Value → World → Prop) (w : World) : Prop :=
 act Try.prog (Instr.box 23 v_s) (fun t3 w_1 => 
 rd Try.prog (binS .eql 46 false true v_m (.pointer none)) (fun t6 => 
 gd t6 false (fun k w_2 => rd Try.prog (Instr.loadAt 23 t3) (fun t8 => k t8 w_2) w_2) (fun t8_1 w_3 => 
 gd t6 false (fun k_1 w_4 => callS Try.prog 27 #[t8_1] (fun t9 w_5 => k_1 t9 w_5) w_4) (fun t9_1 w_6 => 
 gd t6 false (fun k_2 w_7 => pur Try.prog (Op.unary .not t9_1) fun t10 => k_2 t10 w_7) (fun t10_1 w_8 => 
 pur Try.prog (pickS t6 (.bool true) t10_1) fun t11 => 
 condS t11
  (Q (.bool false) w_8)
  (rd Try.prog (Instr.loadAt 23 t3) (fun t14 => 
 callS Try.prog 48 #[v_m, t14] (fun t15 w_9 => 
 callS Try.prog 47 #[v_m, t15] (fun _ w_10 => 
 Q (.bool true) w_10) w_9) w_8) w_8)) w_6) w_3) w_1) w_1) w
theorem eq29 (v_m v_s : Value) (Q : Value → World → Prop) (w : World) : semF Try.prog 29 [v_m, v_s] Q w = S29 v_m v_s Q w := by kernel_rfl
theorem ref29 {v_m v_s : Value} {Q : Value → World → Prop} {w : World} (h : S29 v_m v_s Q w) : callS Try.prog 29 #[v_m, v_s] Q w :=
  callS_of mix (fun a w => Try.call29 a w) (by kernel_rfl) (by rw [eq29]; exact h)
-- (*commons/imap.Map[int]).Set
def S30 (v_m v_s v_v : Value) (Q : Value → World → Prop) (w : World) : Prop :=
 act Try.prog (Instr.box 23 v_s) (fun t4 w_1 => 
 rd Try.prog (binS .eql 46 false true v_m (.pointer none)) (fun t8 => 
 gd t8 false (fun k w_2 => rd Try.prog (Instr.loadAt 23 t4) (fun t10 => k t10 w_2) w_2) (fun t10_1 w_3 => 
 gd t8 false (fun k_1 w_4 => callS Try.prog 27 #[t10_1] (fun t11 w_5 => k_1 t11 w_5) w_4) (fun t11_1 w_6 => 
 gd t8 false (fun k_2 w_7 => pur Try.prog (Op.unary .not t11_1) fun t12 => k_2 t12 w_7) (fun t12_1 w_8 => 
 pur Try.prog (pickS t8 (.bool true) t12_1) fun t13 => 
 condS t13
  (Q (.bool false) w_8)
  (jn 0 (fun J => 
  ∃ S : World → Prop, S (World.drew w_8) ∧ 
 hld Try.prog S (Instr.loadAt 23 t4) fun t16 => 
  hld Try.prog S (Instr.loadAt 23 t4) fun t18 => 
  pur Try.prog (Instr.build 68 #[(0, t18), (1, v_v)]) fun t20 => 
  (callS Try.prog 48 #[v_m, t16] (fun t17 w_9 => S w_9 ∧ 
  act Try.prog (Instr.buildSlice 65 1 #[(0, t20)]) (fun t21 w_10 => S w_10 ∧ 
  act Try.prog (Builtin.append_ #[65, 65] 65 #[t17, t21]) (fun t22 w_11 => S w_11 ∧ 
  callS Try.prog 47 #[v_m, t22] (fun _ w_12 => S w_12 ∧ 
  J  w_12) w_11) w_10) w_9) (World.drew w_8)
  ) ∧ (act Try.prog (Instr.buildSlice 65 1 #[(0, t20)]) (fun t21_1 w_13 => S w_13 ∧ 
  callS Try.prog 48 #[v_m, t16] (fun t17_1 w_14 => S w_14 ∧ 
  act Try.prog (Builtin.append_ #[65, 65] 65 #[t17_1, t21_1]) (fun t22_1 w_15 => S w_15 ∧ 
  callS Try.prog 47 #[v_m, t22_1] (fun _ w_16 => S w_16 ∧ 
  J  w_16) w_15) w_14) w_13) (World.drew w_8)))
 (fun  w_17 => ∀ _j : Fr, 
  Q (.bool true) w_17))) w_6) w_3) w_1) w_1) w
theorem eq30 (v_m v_s v_v : Value) (Q : Value → World → Prop) (w : World) : semF Try.prog 30 [v_m, v_s, v_v] Q w = S30 v_m v_s v_v Q w := by kernel_rfl
theorem ref30 {v_m v_s v_v : Value} {Q : Value → World → Prop} {w : World} (h : S30 v_m v_s v_v Q w) : callS Try.prog 30 #[v_m, v_s, v_v] Q w :=
  callS_of mix (fun a w => Try.call30 a w) (by kernel_rfl) (by rw [eq30]; exact h)
-- (*commons/ltab.Table).grant
def S31 (v_t : Value) (Q : Value → World → Prop) (w : World) : Prop :=
 pur Try.prog (nilV v_t) fun t11 => 
 pur Try.prog (Instr.fieldAt 49 t11 2) fun t12 => 
 rd Try.prog (Instr.loadAt 32 t12) (fun t13 => 
 pur Try.prog (Builtin.len_ #[32] 3 #[t13]) fun t14 => 
 lp 4 (fun J => fun v_out v_left v_claims t15 w_1 => ∀ _j : Fr, 
  pur Try.prog (binS .lss 3 false false t15 t14) fun t16 => 
  condS t16
   (jn 3 (fun J_1 => 
   pur Try.prog (Instr.indexAt 32 t13 t15) fun t17 => 
   rd Try.prog (Instr.loadAt 36 t17) (fun t18 => 
   act Try.prog (Instr.alloc 36 true (.tuple #[])) (fun t7 w_2 => 
   act Try.prog (thenU (Instr.storeAt 36 t7 t18)) (fun _ w_3 => 
   pur Try.prog (Instr.fieldAt 36 t7 1) fun t21 => 
   rd Try.prog (Instr.loadAt 3 t21) (fun t22 => 
   pur Try.prog (Instr.fieldAt 36 t7 2) fun t23 => 
   rd Try.prog (Instr.loadAt 31 t23) (fun t24 => 
   callS Try.prog 41 #[v_t, t22, t24, v_claims] (fun t26 w_4 => 
   pur Try.prog (Instr.extract t26 0) fun t27 => 
   pur Try.prog (Instr.extract t26 1) fun t28 => 
   condS t28
    (∃ S : World → Prop, S (World.drew w_4) ∧ 
    hld Try.prog S (Instr.loadAt 36 t7) fun t31 => 
    act Try.prog (Instr.buildSlice 32 1 #[(0, t31)]) (fun t32 w_5 => S w_5 ∧ 
    act Try.prog (Builtin.append_ #[32, 32] 32 #[v_left, t32]) (fun t33 w_6 => S w_6 ∧ 
    hld Try.prog S (Instr.loadAt 36 t7) fun t35 => 
    callS Try.prog 49 #[t35, t27] (fun t37 w_7 => S w_7 ∧ 
    act Try.prog (Instr.buildSlice 32 1 #[(0, t37)]) (fun t38 w_8 => S w_8 ∧ 
    act Try.prog (Builtin.append_ #[32, 32] 32 #[v_claims, t38]) (fun t39 w_9 => S w_9 ∧ 
    J_1 v_out t33 t39 w_9) w_8) w_7) w_6) w_5) (World.drew w_4))
    (pur Try.prog (Instr.fieldAt 36 t7 1) fun t41 => 
    rd Try.prog (Instr.loadAt 3 t41) (fun t42 => 
    pur Try.prog (nilV v_t) fun t43 => 
    pur Try.prog (Instr.fieldAt 49 t43 1) fun t44 => 
    pur Try.prog (Instr.indexAt 47 t44 t42) fun t45 => 
    rd Try.prog (Instr.loadAt 46 t45) (fun t46 => 
    pur Try.prog (Instr.fieldAt 36 t7 2) fun t47 => 
    rd Try.prog (Instr.loadAt 31 t47) (fun t48 => 
    callS Try.prog 25 #[t46, t48] (fun _ w_10 => 
    rd Try.prog (Instr.loadAt 36 t7) (fun t51 => 
    act Try.prog (Instr.buildSlice 32 1 #[(0, t51)]) (fun t52 w_11 => 
    act Try.prog (Builtin.append_ #[32, 32] 32 #[v_out, t52]) (fun t53 w_12 => 
    J_1 t53 v_left v_claims w_12) w_11) w_10) w_10) (World.drew w_4)) (World.drew w_4)) (World.drew w_4)) (World.drew w_4))) w_3) w_3) w_3) w_2) w_1) w_1)
  (fun v_out_1 v_left_1 v_claims_1 w_13 => ∀ _j : Fr, 
   pur Try.prog (binS .add 3 false true t15 (.int .i64 1)) fun t54 => 
   J v_out_1 v_left_1 v_claims_1 t54 w_13))
   (pur Try.prog (nilV v_t) fun t57 => 
 pur Try.prog (Instr.fieldAt 49 t57 2) fun t58 => 
 act Try.prog (thenU (Instr.storeAt 32 t58 v_left)) (fun _ w_14 => 
 Q v_out w_14) w_1)) [(.slice none 0 0), (.slice none 0 0), (.slice none 0 0), (.int .i64 0)] w) w
theorem eq31 (v_t : Value) (Q : Value → World → Prop) (w : World) : semF Try.prog 31 [v_t] Q w = S31 v_t Q w := by kernel_rfl
theorem ref31 {v_t : Value} {Q : Value → World → Prop} {w : World} (h : S31 v_t Q w) : callS Try.prog 31 #[v_t] Q w :=
  callS_of mix (fun a w => Try.call31 a w) (by kernel_rfl) (by rw [eq31]; exact h)
-- (*commons/imap.Map[int]).Get
def S32 (v_m v_block : Value) (Q : Value → World → Prop) (w : World) : Prop :=
 rd Try.prog (binS .eql 46 false true v_m (.pointer none)) (fun t10 => 
 condS t10
  (Q (.tuple #[(.int .i64 0), (.bool false)]) w)
  (pur Try.prog (nilV v_m) fun t13 => 
 pur Try.prog (Instr.fieldAt 77 t13 0) fun t14 => 
 rd Try.prog (Instr.loadAt 65 t14) (fun t15 => 
 pur Try.prog (Builtin.len_ #[65] 3 #[t15]) fun t16 => 
 lp 1 (fun J => fun t17 w_1 => ∀ _j : Fr, 
  pur Try.prog (binS .lss 3 false false t17 t16) fun t18 => 
  condS t18
   (pur Try.prog (Instr.indexAt 65 t15 t17) fun t19 => 
  rd Try.prog (Instr.loadAt 68 t19) (fun t20 => 
  act Try.prog (Instr.alloc 68 true (.tuple #[])) (fun t8 w_2 => 
  act Try.prog (thenU (Instr.storeAt 68 t8 t20)) (fun _ w_3 => 
  pur Try.prog (Instr.fieldAt 68 t8 0) fun t21 => 
  rd Try.prog (Instr.loadAt 23 t21) (fun t22 => 
  callS Try.prog 50 #[t22, v_block] (fun t24 w_4 => 
  condS t24
   (pur Try.prog (Instr.fieldAt 68 t8 1) fun t25 => 
   rd Try.prog (Instr.loadAt 3 t25) (fun t26 => 
   Q (.tuple #[t26, (.bool true)]) w_4) w_4)
   (pur Try.prog (binS .add 3 false true t17 (.int .i64 1)) fun t27 => 
  J t27 w_4)) w_3) w_3) w_2) w_1) w_1)
   (Q (.tuple #[(.int .i64 0), (.bool false)]) w_1)) [(.int .i64 0)] w) w)) w
theorem eq32 (v_m v_block : Value) (Q : Value → World → Prop) (w : World) : semF Try.prog 32 [v_m, v_block] Q w = S32 v_m v_block Q w := by kernel_rfl
theorem ref32 {v_m v_block : Value} {Q : Value → World → Prop} {w : World} (h : S32 v_m v_block Q w) : callS Try.prog 32 #[v_m, v_block] Q w :=
  callS_of mix (fun a w => Try.call32 a w) (by kernel_rfl) (by rw [eq32]; exact h)
-- slices.Clone[[]commons/ltab.Wait,commons/ltab.Wait]
def S33 (v_s : Value) (Q : Value → World → Prop) (w : World) : Prop :=
 rd Try.prog (binS .eql 32 false true v_s (.slice none 0 0)) (fun t4 => 
 condS t4
  (Q (.slice none 0 0) w)
  (act Try.prog (Instr.buildSlice 32 0 #[]) (fun t5 w_1 => 
 act Try.prog (Builtin.append_ #[32, 32] 32 #[t5, v_s]) (fun t7 w_2 => 
 Q t7 w_2) w_1) w)) w
theorem eq33 (v_s : Value) (Q : Value → World → Prop) (w : World) : semF Try.prog 33 [v_s] Q w = S33 v_s Q w := by kernel_rfl
theorem ref33 {v_s : Value} {Q : Value → World → Prop} {w : World} (h : S33 v_s Q w) : callS Try.prog 33 #[v_s] Q w :=
  callS_of mix (fun a w => Try.call33 a w) (by kernel_rfl) (by rw [eq33]; exact h)
-- (*commons/imap.Map[int]).All
def S34 (v_m : Value) (Q : Value → World → Prop) (w : World) : Prop :=
 rd Try.prog (binS .eql 46 false true v_m (.pointer none)) (fun t4 => 
 condS t4
  (Q (.slice none 0 0) w)
  (pur Try.prog (nilV v_m) fun t6 => 
 pur Try.prog (Instr.fieldAt 77 t6 0) fun t7 => 
 rd Try.prog (Instr.loadAt 65 t7) (fun t8 => 
 callS Try.prog 51 #[t8] (fun t9 w_1 => 
 Q t9 w_1) w) w)) w
theorem eq34 (v_m : Value) (Q : Value → World → Prop) (w : World) : semF Try.prog 34 [v_m] Q w = S34 v_m Q w := by kernel_rfl
theorem ref34 {v_m : Value} {Q : Value → World → Prop} {w : World} (h : S34 v_m Q w) : callS Try.prog 34 #[v_m] Q w :=
  callS_of mix (fun a w => Try.call34 a w) (by kernel_rfl) (by rw [eq34]; exact h)
-- slices.DeleteFunc[[]commons/ltab.Wait,commons/ltab.Wait]
def S35 (v_s v_del : Value) (Q : Value → World → Prop) (w : World) : Prop :=
 callS Try.prog 52 #[v_s, v_del] (fun t10 w_1 => 
 pur Try.prog (binS .eql 3 false true t10 (.int .i64 (-1))) fun t12 => 
 condS t12
  (Q v_s w_1)
  (pur Try.prog (binS .add 3 false true t10 (.int .i64 1)) fun t15 => 
 lp 2 (fun J => fun v_i v_j w_2 => ∀ _j : Fr, 
  pur Try.prog (Builtin.len_ #[32] 3 #[v_s]) fun t18 => 
  pur Try.prog (binS .lss 3 false false v_j t18) fun t19 => 
  condS t19
   (jn 1 (fun J_1 => 
   pur Try.prog (Instr.indexAt 32 v_s v_j) fun t24 => 
   rd Try.prog (Instr.loadAt 36 t24) (fun t25 => 
   act Try.prog (Instr.alloc 36 true (.tuple #[])) (fun t7 w_3 => 
   act Try.prog (thenU (Instr.storeAt 36 t7 t25)) (fun _ w_4 => 
   rd Try.prog (Instr.loadAt 36 t7) (fun t27 => 
   callF Try.prog v_del #[t27] (fun t28 w_5 => 
   pur Try.prog (Op.unary .not t28) fun t29 => 
   condS t29
    (rd Try.prog (Instr.loadAt 36 t7) (fun t32 => 
    pur Try.prog (Instr.indexAt 32 v_s v_i) fun t33 => 
    act Try.prog (thenU (Instr.storeAt 36 t33 t32)) (fun _ w_6 => 
    pur Try.prog (binS .add 3 false true v_i (.int .i64 1)) fun t35 => 
    J_1 t35 w_6) w_5) w_5)
    (J_1 v_i w_5)) w_4) w_4) w_3) w_2) w_2)
  (fun v_i_1 w_7 => ∀ _j : Fr, 
   pur Try.prog (binS .add 3 false true v_j (.int .i64 1)) fun t21 => 
   J v_i_1 t21 w_7))
   (pur Try.prog (Instr.sliceAt 32 v_s (some v_i) none none) fun t38 => 
 act Try.prog (Builtin.clear_ #[32] 0 #[t38]) (fun _ w_8 => 
 pur Try.prog (Instr.sliceAt 32 v_s none (some v_i) none) fun t41 => 
 Q t41 w_8) w_2)) [t10, t15] w_1)) w
theorem eq35 (v_s v_del : Value) (Q : Value → World → Prop) (w : World) : semF Try.prog 35 [v_s, v_del] Q w = S35 v_s v_del Q w := by kernel_rfl
theorem ref35 {v_s v_del : Value} {Q : Value → World → Prop} {w : World} (h : S35 v_s v_del Q w) : callS Try.prog 35 #[v_s, v_del] Q w :=
  callS_of mix (fun a w => Try.call35 a w) (by kernel_rfl) (by rw [eq35]; exact h)
-- (*commons/ltab.Table).Cancel$1
def S36 (v_w t1 : Value) (Q : Value → World → Prop) (w : World) : Prop :=
 act Try.prog (Instr.box 36 v_w) (fun t2 w_1 => 
 pur Try.prog (Instr.fieldAt 36 t2 0) fun t4 => 
 rd Try.prog (Instr.loadAt 3 t4) (fun t5 => 
 rd Try.prog (Instr.loadAt 3 t1) (fun t6 => 
 pur Try.prog (binS .eql 3 false false t5 t6) fun t7 => 
 Q t7 w_1) w_1) w_1) w
theorem eq36 (v_w t1 : Value) (Q : Value → World → Prop) (w : World) : semF Try.prog 36 [v_w, t1] Q w = S36 v_w t1 Q w := by kernel_rfl
theorem ref36 {v_w t1 : Value} {Q : Value → World → Prop} {w : World} (h : S36 v_w t1 Q w) : callS Try.prog 36 #[v_w, t1] Q w :=
  callS_of mix (fun a w => Try.call36 a w) (by kernel_rfl) (by rw [eq36]; exact h)
-- (*commons/ltab.Table).fits
def S37 (v_t v_node v_l : Value) (Q : Value → World → Prop) (w : World) : Prop :=
 act Try.prog (Instr.box 31 v_l) (fun t5 w_1 => 
 lp 1 (fun J => fun v_other w_2 => ∀ _j : Fr, 
  pur Try.prog (nilV v_t) fun t12 => 
  pur Try.prog (Instr.fieldAt 49 t12 0) fun t13 => 
  rd Try.prog (Instr.loadAt 3 t13) (fun t14 => 
  pur Try.prog (binS .leq 3 false false v_other t14) fun t15 => 
  condS t15
   (jn 0 (fun J_1 => 
   pur Try.prog (binS .eql 3 false false v_other v_node) fun t20 => 
   condS t20
    (J_1  w_2)
    (pur Try.prog (nilV v_t) fun t23 => 
   pur Try.prog (Instr.fieldAt 49 t23 1) fun t24 => 
   pur Try.prog (Instr.indexAt 47 t24 v_other) fun t25 => 
   rd Try.prog (Instr.loadAt 46 t25) (fun t26 => 
   pur Try.prog (Instr.fieldAt 31 t5 0) fun t27 => 
   rd Try.prog (Instr.loadAt 23 t27) (fun t28 => 
   callS Try.prog 28 #[t26, t28] (fun t29 w_3 => 
   pur Try.prog (Builtin.len_ #[65] 3 #[t29]) fun t30 => 
   lp 1 (fun J_2 => fun t31 w_4 => ∀ _j : Fr, 
    pur Try.prog (binS .lss 3 false false t31 t30) fun t32 => 
    condS t32
     (pur Try.prog (Instr.indexAt 65 t29 t31) fun t33 => 
    rd Try.prog (Instr.loadAt 68 t33) (fun t34 => 
    act Try.prog (Instr.alloc 68 true (.tuple #[])) (fun t9 w_5 => 
    act Try.prog (thenU (Instr.storeAt 68 t9 t34)) (fun _ w_6 => 
    pur Try.prog (Instr.fieldAt 68 t9 1) fun t35 => 
    rd Try.prog (Instr.loadAt 3 t35) (fun t36 => 
    pur Try.prog (Instr.fieldAt 31 t5 1) fun t37 => 
    rd Try.prog (Instr.loadAt 3 t37) (fun t38 => 
    callS Try.prog 53 #[t36, t38] (fun t39 w_7 => 
    pur Try.prog (Op.unary .not t39) fun t40 => 
    condS t40
     (Q (.bool false) w_7)
     (pur Try.prog (binS .add 3 false true t31 (.int .i64 1)) fun t41 => 
    J_2 t41 w_7)) w_6) w_6) w_6) w_5) w_4) w_4)
     (J_1  w_4)) [(.int .i64 0)] w_3) (World.drew w_2)) (World.drew w_2)) (World.drew w_2)))
  (fun  w_8 => ∀ _j : Fr, 
   pur Try.prog (binS .add 3 false true v_other (.int .i64 1)) fun t17 => 
   J t17 w_8))
   (Q (.bool true) w_2)) w_2) [(.int .i64 1)] w_1) w
theorem eq37 (v_t v_node v_l : Value) (Q : Value → World → Prop) (w : World) : semF Try.prog 37 [v_t, v_node, v_l] Q w = S37 v_t v_node v_l Q w := by kernel_rfl
theorem ref37 {v_t v_node v_l : Value} {Q : Value → World → Prop} {w : World} (h : S37 v_t v_node v_l Q w) : callS Try.prog 37 #[v_t, v_node, v_l] Q w :=
  callS_of mix (fun a w => Try.call37 a w) (by kernel_rfl) (by rw [eq37]; exact h)
-- (*commons/ltab.Table).Drop$1
def S38 (v_w t1 : Value) (Q : Value → World → Prop) (w : World) : Prop :=
 act Try.prog (Instr.box 36 v_w) (fun t2 w_1 => 
 pur Try.prog (Instr.fieldAt 36 t2 1) fun t4 => 
 rd Try.prog (Instr.loadAt 3 t4) (fun t5 => 
 rd Try.prog (Instr.loadAt 3 t1) (fun t6 => 
 pur Try.prog (binS .eql 3 false false t5 t6) fun t7 => 
 Q t7 w_1) w_1) w_1) w
theorem eq38 (v_w t1 : Value) (Q : Value → World → Prop) (w : World) : semF Try.prog 38 [v_w, t1] Q w = S38 v_w t1 Q w := by kernel_rfl
theorem ref38 {v_w t1 : Value} {Q : Value → World → Prop} {w : World} (h : S38 v_w t1 Q w) : callS Try.prog 38 #[v_w, t1] Q w :=
  callS_of mix (fun a w => Try.call38 a w) (by kernel_rfl) (by rw [eq38]; exact h)
-- (*commons/ltab.Table).revoked
def S39 (v_t v_node v_l v_told : Value) (Q : Value → World → Prop) (w : World) : Prop :=
 act Try.prog (Instr.box 31 v_l) (fun t6 w_1 => 
 callS Try.prog 20 #[] (fun t18 w_2 => 
 pur Try.prog (nilV v_t) fun t21 => 
 pur Try.prog (Instr.fieldAt 49 t21 1) fun t22 => 
 pur Try.prog (Instr.indexAt 47 t22 v_node) fun t23 => 
 rd Try.prog (Instr.loadAt 46 t23) (fun t24 => 
 pur Try.prog (Instr.fieldAt 31 t6 0) fun t25 => 
 rd Try.prog (Instr.loadAt 23 t25) (fun t26 => 
 callS Try.prog 28 #[t24, t26] (fun t27 w_3 => 
 pur Try.prog (Builtin.len_ #[65] 3 #[t27]) fun t28 => 
 lp 1 (fun J => fun t29 w_4 => ∀ _j : Fr, 
  pur Try.prog (binS .lss 3 false false t29 t28) fun t30 => 
  condS t30
   (jn 0 (fun J_1 => 
   pur Try.prog (Instr.indexAt 65 t27 t29) fun t31 => 
   rd Try.prog (Instr.loadAt 68 t31) (fun t32 => 
   act Try.prog (Instr.alloc 68 true (.tuple #[])) (fun t11 w_5 => 
   act Try.prog (thenU (Instr.storeAt 68 t11 t32)) (fun _ w_6 => 
   pur Try.prog (Instr.fieldAt 68 t11 1) fun t33 => 
   rd Try.prog (Instr.loadAt 3 t33) (fun t34 => 
   pur Try.prog (Instr.fieldAt 31 t6 1) fun t35 => 
   rd Try.prog (Instr.loadAt 3 t35) (fun t36 => 
   callS Try.prog 53 #[t34, t36] (fun t37 w_7 => 
   condS t37
    (J_1  w_7)
    (pur Try.prog (Instr.fieldAt 31 t6 1) fun t38 => 
   rd Try.prog (Instr.loadAt 3 t38) (fun t39 => 
   pur Try.prog (Instr.fieldAt 68 t11 1) fun t40 => 
   rd Try.prog (Instr.loadAt 3 t40) (fun t41 => 
   callS Try.prog 54 #[t39, t41] (fun t42 w_8 => 
   pur Try.prog (Instr.fieldAt 68 t11 0) fun t44 => 
   rd Try.prog (Instr.loadAt 23 t44) (fun t45 => 
   callS Try.prog 30 #[t18, t45, t42] (fun _ w_9 => 
   pur Try.prog (Instr.fieldAt 68 t11 0) fun t49 => 
   rd Try.prog (Instr.loadAt 23 t49) (fun t50 => 
   callS Try.prog 28 #[v_told, t50] (fun t51 w_10 => 
   pur Try.prog (Builtin.len_ #[65] 3 #[t51]) fun t52 => 
   lp 1 (fun J_2 => fun t53 w_11 => ∀ _j : Fr, 
    pur Try.prog (binS .lss 3 false false t53 t52) fun t54 => 
    condS t54
     (jn 0 (fun J_3 => 
     pur Try.prog (Instr.indexAt 65 t51 t53) fun t55 => 
     rd Try.prog (Instr.loadAt 68 t55) (fun t56 => 
     act Try.prog (Instr.alloc 68 true (.tuple #[])) (fun t14 w_12 => 
     act Try.prog (thenU (Instr.storeAt 68 t14 t56)) (fun _ w_13 => 
     pur Try.prog (Instr.fieldAt 68 t14 1) fun t57 => 
     rd Try.prog (Instr.loadAt 3 t57) (fun t58 => 
     pur Try.prog (binS .add 3 false true t42 (.int .i64 1)) fun t60 => 
     pur Try.prog (binS .leq 3 false false t58 t60) fun t61 => 
     condS t61
      (pur Try.prog (Instr.fieldAt 68 t14 0) fun t63 => 
      rd Try.prog (Instr.loadAt 23 t63) (fun t64 => 
      callS Try.prog 29 #[t18, t64] (fun _ w_14 => 
      J_3  w_14) w_13) w_13)
      (J_3  w_13)) w_13) w_12) w_11) w_11)
    (fun  w_15 => ∀ _j : Fr, 
     pur Try.prog (binS .add 3 false true t53 (.int .i64 1)) fun t66 => 
     J_2 t66 w_15))
     (J_1  w_11)) [(.int .i64 0)] w_10) w_9) w_9) w_8) w_8) w_7) w_7) w_7)) w_6) w_6) w_6) w_5) w_4) w_4)
  (fun  w_16 => ∀ _j : Fr, 
   pur Try.prog (binS .add 3 false true t29 (.int .i64 1)) fun t67 => 
   J t67 w_16))
   (callS Try.prog 34 #[t18] (fun t69 w_17 => 
 pur Try.prog (Builtin.len_ #[65] 3 #[t69]) fun t70 => 
 lp 2 (fun J_4 => fun v_out t71 w_18 => ∀ _j : Fr, 
  pur Try.prog (binS .lss 3 false false t71 t70) fun t72 => 
  condS t72
   (pur Try.prog (Instr.indexAt 65 t69 t71) fun t73 => 
  rd Try.prog (Instr.loadAt 68 t73) (fun t74 => 
  act Try.prog (Instr.alloc 68 true (.tuple #[])) (fun t17 w_19 => 
  act Try.prog (thenU (Instr.storeAt 68 t17 t74)) (fun _ w_20 => 
  pur Try.prog (Instr.fieldAt 68 t17 0) fun t76 => 
  rd Try.prog (Instr.loadAt 23 t76) (fun t77 => 
  pur Try.prog (Instr.fieldAt 68 t17 1) fun t78 => 
  rd Try.prog (Instr.loadAt 3 t78) (fun t79 => 
  pur Try.prog (Instr.build 31 #[(0, t77), (1, t79)]) fun t80 => 
  act Try.prog (Instr.buildSlice 43 1 #[(0, t80)]) (fun t81 w_21 => 
  act Try.prog (Builtin.append_ #[43, 43] 43 #[v_out, t81]) (fun t82 w_22 => 
  pur Try.prog (binS .add 3 false true t71 (.int .i64 1)) fun t83 => 
  J_4 t82 t83 w_22) w_21) w_20) w_20) w_20) w_19) w_18) w_18)
   (Q v_out w_18)) [(.slice none 0 0), (.int .i64 0)] w_17) w_4)) [(.int .i64 0)] w_3) (World.drew w_2)) (World.drew w_2)) (World.drew w_2)) w_1) w
theorem eq39 (v_t v_node v_l v_told : Value) (Q : Value → World → Prop) (w : World) : semF Try.prog 39 [v_t, v_node, v_l, v_told] Q w = S39 v_t v_node v_l v_told Q w := by kernel_rfl
theorem ref39 {v_t v_node v_l v_told : Value} {Q : Value → World → Prop} {w : World} (h : S39 v_t v_node v_l v_told Q w) : callS Try.prog 39 #[v_t, v_node, v_l, v_told] Q w :=
  callS_of mix (fun a w => Try.call39 a w) (by kernel_rfl) (by rw [eq39]; exact h)
-- commons/mode.Needs
def S40 (v_held v_l : Value) (Q : Value → World → Prop) (w : World) : Prop :=
 callS Try.prog 55 #[v_l] (fun t11 w_1 => 
 callS Try.prog 56 #[t11] (fun t13 w_2 => 
 pur Try.prog (Builtin.len_ #[43] 3 #[t13]) fun t14 => 
 lp 1 (fun J => fun t15 w_3 => ∀ _j : Fr, 
  pur Try.prog (binS .lss 3 false false t15 t14) fun t16 => 
  condS t16
   (pur Try.prog (Instr.indexAt 43 t13 t15) fun t17 => 
  rd Try.prog (Instr.loadAt 31 t17) (fun t18 => 
  act Try.prog (Instr.alloc 31 true (.tuple #[])) (fun t7 w_4 => 
  act Try.prog (thenU (Instr.storeAt 31 t7 t18)) (fun _ w_5 => 
  pur Try.prog (Instr.fieldAt 31 t7 0) fun t20 => 
  rd Try.prog (Instr.loadAt 23 t20) (fun t21 => 
  callS Try.prog 28 #[v_held, t21] (fun t22 w_6 => 
  pur Try.prog (Builtin.len_ #[65] 3 #[t22]) fun t23 => 
  lp 1 (fun J_1 => fun t24 w_7 => ∀ _j : Fr, 
   pur Try.prog (binS .lss 3 false false t24 t23) fun t25 => 
   condS t25
    (jn 0 (fun J_2 => 
    pur Try.prog (Instr.indexAt 65 t22 t24) fun t26 => 
    rd Try.prog (Instr.loadAt 68 t26) (fun t27 => 
    act Try.prog (Instr.alloc 68 true (.tuple #[])) (fun t9 w_8 => 
    act Try.prog (thenU (Instr.storeAt 68 t9 t27)) (fun _ w_9 => 
    pur Try.prog (Instr.fieldAt 68 t9 1) fun t28 => 
    rd Try.prog (Instr.loadAt 3 t28) (fun t29 => 
    pur Try.prog (Instr.fieldAt 31 t7 1) fun t30 => 
    rd Try.prog (Instr.loadAt 3 t30) (fun t31 => 
    callS Try.prog 57 #[t29, t31] (fun t32 w_10 => 
    condS t32
     (pur Try.prog (Instr.fieldAt 68 t9 0) fun t34 => 
     rd Try.prog (Instr.loadAt 23 t34) (fun t35 => 
     callS Try.prog 29 #[t11, t35] (fun _ w_11 => 
     J_2  w_11) w_10) w_10)
     (J_2  w_10)) w_9) w_9) w_9) w_8) w_7) w_7)
   (fun  w_12 => ∀ _j : Fr, 
    pur Try.prog (binS .add 3 false true t24 (.int .i64 1)) fun t37 => 
    J_1 t37 w_12))
    (pur Try.prog (binS .add 3 false true t15 (.int .i64 1)) fun t38 => 
  J t38 w_7)) [(.int .i64 0)] w_6) w_5) w_5) w_4) w_3) w_3)
   (callS Try.prog 56 #[t11] (fun t40 w_13 => 
 Q t40 w_13) w_3)) [(.int .i64 0)] w_2) w_1) w
theorem eq40 (v_held v_l : Value) (Q : Value → World → Prop) (w : World) : semF Try.prog 40 [v_held, v_l] Q w = S40 v_held v_l Q w := by kernel_rfl
theorem ref40 {v_held v_l : Value} {Q : Value → World → Prop} {w : World} (h : S40 v_held v_l Q w) : callS Try.prog 40 #[v_held, v_l] Q w :=
  callS_of mix (fun a w => Try.call40 a w) (by kernel_rfl) (by rw [eq40]; exact h)
-- (*commons/ltab.Table).hinders
def S41 (v_t v_node v_l v_ahead : Value) (Q : Value → World → Prop) (w : World) : Prop :=
 act Try.prog (Instr.box 31 v_l) (fun t6 w_1 => 
 pur Try.prog (Instr.fieldAt 31 t6 0) fun t18 => 
 pur Try.prog (Instr.fieldAt 23 t18 1) fun t19 => 
 rd Try.prog (Instr.loadAt 3 t19) (fun t20 => 
 lp 2 (fun J => fun v_first v_other w_2 => ∀ _j : Fr, 
  pur Try.prog (nilV v_t) fun t23 => 
  pur Try.prog (Instr.fieldAt 49 t23 0) fun t24 => 
  rd Try.prog (Instr.loadAt 3 t24) (fun t25 => 
  pur Try.prog (binS .leq 3 false false v_other t25) fun t26 => 
  condS t26
   (jn 1 (fun J_1 => 
   pur Try.prog (binS .eql 3 false false v_other v_node) fun t31 => 
   condS t31
    (J_1 v_first w_2)
    (pur Try.prog (nilV v_t) fun t34 => 
   pur Try.prog (Instr.fieldAt 49 t34 1) fun t35 => 
   pur Try.prog (Instr.indexAt 47 t35 v_other) fun t36 => 
   rd Try.prog (Instr.loadAt 46 t36) (fun t37 => 
   pur Try.prog (Instr.fieldAt 31 t6 0) fun t38 => 
   rd Try.prog (Instr.loadAt 23 t38) (fun t39 => 
   callS Try.prog 28 #[t37, t39] (fun t40 w_3 => 
   pur Try.prog (Builtin.len_ #[65] 3 #[t40]) fun t41 => 
   lp 2 (fun J_2 => fun v_first_1 t42 w_4 => ∀ _j : Fr, 
    pur Try.prog (binS .lss 3 false false t42 t41) fun t43 => 
    condS t43
     (jn 1 (fun J_3 => 
     pur Try.prog (Instr.indexAt 65 t40 t42) fun t44 => 
     rd Try.prog (Instr.loadAt 68 t44) (fun t45 => 
     act Try.prog (Instr.alloc 68 true (.tuple #[])) (fun t13 w_5 => 
     act Try.prog (thenU (Instr.storeAt 68 t13 t45)) (fun _ w_6 => 
     pur Try.prog (Instr.fieldAt 68 t13 1) fun t46 => 
     rd Try.prog (Instr.loadAt 3 t46) (fun t47 => 
     pur Try.prog (Instr.fieldAt 31 t6 1) fun t48 => 
     rd Try.prog (Instr.loadAt 3 t48) (fun t49 => 
     callS Try.prog 53 #[t47, t49] (fun t50 w_7 => 
     pur Try.prog (Op.unary .not t50) fun t51 => 
     condS t51
      (pur Try.prog (Instr.fieldAt 68 t13 0) fun t53 => 
      pur Try.prog (Instr.fieldAt 23 t53 0) fun t54 => 
      rd Try.prog (Instr.loadAt 3 t54) (fun t55 => 
      pur Try.prog (Builtin.min_ #[3, 3] 3 #[v_first_1, t55]) fun t56 => 
      J_3 t56 w_7) w_7)
      (J_3 v_first_1 w_7)) w_6) w_6) w_6) w_5) w_4) w_4)
    (fun v_first_2 w_8 => ∀ _j : Fr, 
     pur Try.prog (binS .add 3 false true t42 (.int .i64 1)) fun t57 => 
     J_2 v_first_2 t57 w_8))
     (J_1 v_first_1 w_4)) [v_first, (.int .i64 0)] w_3) (World.drew w_2)) (World.drew w_2)) (World.drew w_2)))
  (fun v_first_3 w_9 => ∀ _j : Fr, 
   pur Try.prog (binS .add 3 false true v_other (.int .i64 1)) fun t28 => 
   J v_first_3 t28 w_9))
   (pur Try.prog (Builtin.len_ #[32] 3 #[v_ahead]) fun t59 => 
 lp 2 (fun J_4 => fun v_first_4 t60 w_10 => ∀ _j : Fr, 
  pur Try.prog (binS .lss 3 false false t60 t59) fun t61 => 
  condS t61
   (jn 1 (fun J_5 => 
   pur Try.prog (Instr.indexAt 32 v_ahead t60) fun t62 => 
   rd Try.prog (Instr.loadAt 36 t62) (fun t63 => 
   act Try.prog (Instr.alloc 36 true (.tuple #[])) (fun t15 w_11 => 
   act Try.prog (thenU (Instr.storeAt 36 t15 t63)) (fun _ w_12 => 
   pur Try.prog (Instr.fieldAt 36 t15 2) fun t65 => 
   pur Try.prog (Instr.fieldAt 31 t65 0) fun t66 => 
   rd Try.prog (Instr.loadAt 23 t66) (fun t67 => 
   pur Try.prog (Instr.fieldAt 31 t6 0) fun t68 => 
   rd Try.prog (Instr.loadAt 23 t68) (fun t69 => 
   callS Try.prog 44 #[t67, t69] (fun t70 w_13 => 
   pur Try.prog (Instr.extract t70 0) fun t71 => 
   pur Try.prog (Instr.extract t70 1) fun t72 => 
   act Try.prog (Instr.alloc 23 true (.tuple #[])) (fun t16 w_14 => 
   act Try.prog (thenU (Instr.storeAt 23 t16 t71)) (fun _ w_15 => 
   gd t72 true (fun k w_16 => pur Try.prog (Instr.fieldAt 36 t15 1) fun t75 => k t75 w_16) (fun t75_1 w_17 => 
   gd t72 true (fun k_1 w_18 => rd Try.prog (Instr.loadAt 3 t75_1) (fun t76 => k_1 t76 w_18) w_18) (fun t76_1 w_19 => 
   gd t72 true (fun k_2 w_20 => k_2 v_node w_20) (fun t77_1 w_21 => 
   gd t72 true (fun k_3 w_22 => pur Try.prog (binS .neq 3 false false t76_1 t77_1) fun t78 => k_3 t78 w_22) (fun t78_1 w_23 => 
   pur Try.prog (pickS t72 t78_1 (.bool false)) fun t79 => 
   gd t79 true (fun k_4 w_24 => pur Try.prog (Instr.fieldAt 36 t15 2) fun t81 => k_4 t81 w_24) (fun t81_1 w_25 => 
   gd t79 true (fun k_5 w_26 => pur Try.prog (Instr.fieldAt 31 t81_1 1) fun t82 => k_5 t82 w_26) (fun t82_1 w_27 => 
   gd t79 true (fun k_6 w_28 => rd Try.prog (Instr.loadAt 3 t82_1) (fun t83 => k_6 t83 w_28) w_28) (fun t83_1 w_29 => 
   gd t79 true (fun k_7 w_30 => pur Try.prog (Instr.fieldAt 31 t6 1) fun t84 => k_7 t84 w_30) (fun t84_1 w_31 => 
   gd t79 true (fun k_8 w_32 => rd Try.prog (Instr.loadAt 3 t84_1) (fun t85 => k_8 t85 w_32) w_32) (fun t85_1 w_33 => 
   gd t79 true (fun k_9 w_34 => callS Try.prog 53 #[t83_1, t85_1] (fun t86 w_35 => k_9 t86 w_35) w_34) (fun t86_1 w_36 => 
   gd t79 true (fun k_10 w_37 => pur Try.prog (Op.unary .not t86_1) fun t87 => k_10 t87 w_37) (fun t87_1 w_38 => 
   pur Try.prog (pickS t79 t87_1 (.bool false)) fun t88 => 
   condS t88
    (pur Try.prog (Instr.fieldAt 23 t16 0) fun t90 => 
    rd Try.prog (Instr.loadAt 3 t90) (fun t91 => 
    pur Try.prog (Builtin.min_ #[3, 3] 3 #[v_first_4, t91]) fun t92 => 
    J_5 t92 w_38) w_38)
    (J_5 v_first_4 w_38)) w_36) w_33) w_31) w_29) w_27) w_25) w_23) w_21) w_19) w_17) w_15) w_14) w_13) w_12) w_12) w_12) w_11) w_10) w_10)
  (fun v_first_5 w_39 => ∀ _j : Fr, 
   pur Try.prog (binS .add 3 false true t60 (.int .i64 1)) fun t93 => 
   J_4 v_first_5 t93 w_39))
   (pur Try.prog (Instr.fieldAt 31 t6 0) fun t96 => 
 pur Try.prog (Instr.fieldAt 23 t96 1) fun t97 => 
 rd Try.prog (Instr.loadAt 3 t97) (fun t98 => 
 pur Try.prog (binS .lss 3 false false v_first_4 t98) fun t99 => 
 Q (.tuple #[v_first_4, t99]) (World.drew w_10)) (World.drew w_10))) [v_first, (.int .i64 0)] w_2)) w_2) [t20, (.int .i64 1)] w_1) w_1) w
theorem eq41 (v_t v_node v_l v_ahead : Value) (Q : Value → World → Prop) (w : World) : semF Try.prog 41 [v_t, v_node, v_l, v_ahead] Q w = S41 v_t v_node v_l v_ahead Q w := by kernel_rfl
theorem ref41 {v_t v_node v_l v_ahead : Value} {Q : Value → World → Prop} {w : World} (h : S41 v_t v_node v_l v_ahead Q w) : callS Try.prog 41 #[v_t, v_node, v_l, v_ahead] Q w :=
  callS_of mix (fun a w => Try.call41 a w) (by kernel_rfl) (by rw [eq41]; exact h)
-- (*commons/ltab.Table).claims
def S42 (v_t : Value) (Q : Value → World → Prop) (w : World) : Prop :=
 pur Try.prog (nilV v_t) fun t9 => 
 pur Try.prog (Instr.fieldAt 49 t9 2) fun t10 => 
 rd Try.prog (Instr.loadAt 32 t10) (fun t11 => 
 pur Try.prog (Builtin.len_ #[32] 3 #[t11]) fun t12 => 
 lp 2 (fun J => fun v_out t13 w_1 => ∀ _j : Fr, 
  pur Try.prog (binS .lss 3 false false t13 t12) fun t14 => 
  condS t14
   (jn 1 (fun J_1 => 
   pur Try.prog (Instr.indexAt 32 t11 t13) fun t15 => 
   rd Try.prog (Instr.loadAt 36 t15) (fun t16 => 
   act Try.prog (Instr.alloc 36 true (.tuple #[])) (fun t5 w_2 => 
   act Try.prog (thenU (Instr.storeAt 36 t5 t16)) (fun _ w_3 => 
   pur Try.prog (Instr.fieldAt 36 t5 1) fun t19 => 
   rd Try.prog (Instr.loadAt 3 t19) (fun t20 => 
   pur Try.prog (Instr.fieldAt 36 t5 2) fun t21 => 
   rd Try.prog (Instr.loadAt 31 t21) (fun t22 => 
   callS Try.prog 41 #[v_t, t20, t22, v_out] (fun t24 w_4 => 
   pur Try.prog (Instr.extract t24 0) fun t25 => 
   pur Try.prog (Instr.extract t24 1) fun t26 => 
   condS t26
    (rd Try.prog (Instr.loadAt 36 t5) (fun t29 => 
    callS Try.prog 49 #[t29, t25] (fun t31 w_5 => 
    act Try.prog (Instr.buildSlice 32 1 #[(0, t31)]) (fun t32 w_6 => 
    act Try.prog (Builtin.append_ #[32, 32] 32 #[v_out, t32]) (fun t33 w_7 => 
    J_1 t33 w_7) w_6) w_5) w_4) w_4)
    (J_1 v_out w_4)) w_3) w_3) w_3) w_2) w_1) w_1)
  (fun v_out_1 w_8 => ∀ _j : Fr, 
   pur Try.prog (binS .add 3 false true t13 (.int .i64 1)) fun t34 => 
   J v_out_1 t34 w_8))
   (Q v_out w_1)) [(.slice none 0 0), (.int .i64 0)] w) w
theorem eq42 (v_t : Value) (Q : Value → World → Prop) (w : World) : semF Try.prog 42 [v_t] Q w = S42 v_t Q w := by kernel_rfl
theorem ref42 {v_t : Value} {Q : Value → World → Prop} {w : World} (h : S42 v_t Q w) : callS Try.prog 42 #[v_t] Q w :=
  callS_of mix (fun a w => Try.call42 a w) (by kernel_rfl) (by rw [eq42]; exact h)
-- commons/mode.Join
def S43 (v_a v_b : Value) (Q : Value → World → Prop) (w : World) : Prop :=
 pur Try.prog (Builtin.max_ #[3, 3] 3 #[v_a, v_b]) fun t7 => 
 Q t7 w
theorem eq43 (v_a v_b : Value) (Q : Value → World → Prop) (w : World) : semF Try.prog 43 [v_a, v_b] Q w = S43 v_a v_b Q w := by kernel_rfl
theorem ref43 {v_a v_b : Value} {Q : Value → World → Prop} {w : World} (h : S43 v_a v_b Q w) : callS Try.prog 43 #[v_a, v_b] Q w :=
  callS_of mix (fun a w => Try.call43 a w) (by kernel_rfl) (by rw [eq43]; exact h)
-- commons/span.Meet
def S44 (v_a v_b : Value) (Q : Value → World → Prop) (w : World) : Prop :=
 act Try.prog (Instr.box 23 v_a) (fun t2 w_1 => 
 act Try.prog (Instr.box 23 v_b) (fun t3 w_2 => 
 act Try.prog (Instr.alloc 23 true (.tuple #[])) (fun t4 w_3 => 
 pur Try.prog (Instr.fieldAt 23 t2 0) fun t7 => 
 rd Try.prog (Instr.loadAt 3 t7) (fun t8 => 
 pur Try.prog (Instr.fieldAt 23 t3 0) fun t9 => 
 rd Try.prog (Instr.loadAt 3 t9) (fun t10 => 
 pur Try.prog (Builtin.max_ #[3, 3] 3 #[t8, t10]) fun t11 => 
 pur Try.prog (Instr.fieldAt 23 t2 1) fun t12 => 
 rd Try.prog (Instr.loadAt 3 t12) (fun t13 => 
 pur Try.prog (Instr.fieldAt 23 t3 1) fun t14 => 
 rd Try.prog (Instr.loadAt 3 t14) (fun t15 => 
 pur Try.prog (Builtin.min_ #[3, 3] 3 #[t13, t15]) fun t16 => 
 pur Try.prog (Instr.build 23 #[(0, t11), (1, t16)]) fun t17 => 
 act Try.prog (Instr.alloc 23 true (.tuple #[])) (fun t6 w_4 => 
 act Try.prog (thenU (Instr.storeAt 23 t6 t17)) (fun _ w_5 => 
 rd Try.prog (Instr.loadAt 23 t2) (fun t18 => 
 callS Try.prog 27 #[t18] (fun t19 w_6 => 
 pur Try.prog (Op.unary .not t19) fun t20 => 
 gd t20 false (fun k w_7 => rd Try.prog (Instr.loadAt 23 t3) (fun t22 => k t22 w_7) w_7) (fun t22_1 w_8 => 
 gd t20 false (fun k_1 w_9 => callS Try.prog 27 #[t22_1] (fun t23 w_10 => k_1 t23 w_10) w_9) (fun t23_1 w_11 => 
 gd t20 false (fun k_2 w_12 => pur Try.prog (Op.unary .not t23_1) fun t24 => k_2 t24 w_12) (fun t24_1 w_13 => 
 pur Try.prog (pickS t20 (.bool true) t24_1) fun t25 => 
 gd t25 false (fun k_3 w_14 => rd Try.prog (Instr.loadAt 23 t6) (fun t27 => k_3 t27 w_14) w_14) (fun t27_1 w_15 => 
 gd t25 false (fun k_4 w_16 => callS Try.prog 27 #[t27_1] (fun t28 w_17 => k_4 t28 w_17) w_16) (fun t28_1 w_18 => 
 gd t25 false (fun k_5 w_19 => pur Try.prog (Op.unary .not t28_1) fun t29 => k_5 t29 w_19) (fun t29_1 w_20 => 
 pur Try.prog (pickS t25 (.bool true) t29_1) fun t30 => 
 condS t30
  (pur Try.prog (Instr.build 23 #[]) fun t31 => 
  act Try.prog (thenU (Instr.storeAt 23 t4 t31)) (fun _ w_21 => 
  rd Try.prog (resL 23 t4) (fun r => Q (.tuple #[r, (.bool false)]) w_21) w_21) w_20)
  (rd Try.prog (Instr.loadAt 23 t6) (fun t32 => 
 act Try.prog (thenU (Instr.storeAt 23 t4 t32)) (fun _ w_22 => 
 rd Try.prog (resL 23 t4) (fun r_1 => Q (.tuple #[r_1, (.bool true)]) w_22) w_22) w_20) w_20)) w_18) w_15) w_13) w_11) w_8) w_6) w_5) w_5) w_4) w_3) w_3) w_3) w_3) w_3) w_2) w_1) w
theorem eq44 (v_a v_b : Value) (Q : Value → World → Prop) (w : World) : semF Try.prog 44 [v_a, v_b] Q w = S44 v_a v_b Q w := by kernel_rfl
theorem ref44 {v_a v_b : Value} {Q : Value → World → Prop} {w : World} (h : S44 v_a v_b Q w) : callS Try.prog 44 #[v_a, v_b] Q w :=
  callS_of mix (fun a w => Try.call44 a w) (by kernel_rfl) (by rw [eq44]; exact h)
-- slices.ContainsFunc[[]commons/imap.Part[int],commons/imap.Part[int]]
def S45 (v_s v_f : Value) (Q : Value → World → Prop) (w : World) : Prop :=
 callS Try.prog 58 #[v_s, v_f] (fun t7 w_1 => 
 pur Try.prog (binS .geq 3 false true t7 (.int .i64 0)) fun t8 => 
 Q t8 w_1) w
theorem eq45 (v_s v_f : Value) (Q : Value → World → Prop) (w : World) : semF Try.prog 45 [v_s, v_f] Q w = S45 v_s v_f Q w := by kernel_rfl
theorem ref45 {v_s v_f : Value} {Q : Value → World → Prop} {w : World} (h : S45 v_s v_f Q w) : callS Try.prog 45 #[v_s, v_f] Q w :=
  callS_of mix (fun a w => Try.call45 a w) (by kernel_rfl) (by rw [eq45]; exact h)
-- (*commons/ltab.Table).dead$1
def S46 (v_q : Value) (Q : Value → World → Prop) (w : World) : Prop :=
 act Try.prog (Instr.box 68 v_q) (fun t1 w_1 => 
 pur Try.prog (Instr.fieldAt 68 t1 1) fun t3 => 
 rd Try.prog (Instr.loadAt 3 t3) (fun t4 => 
 pur Try.prog (binS .eql 3 false true t4 (.int .i64 1)) fun t5 => 
 Q t5 w_1) w_1) w
theorem eq46 (v_q : Value) (Q : Value → World → Prop) (w : World) : semF Try.prog 46 [v_q] Q w = S46 v_q Q w := by kernel_rfl
theorem ref46 {v_q : Value} {Q : Value → World → Prop} {w : World} (h : S46 v_q Q w) : callS Try.prog 46 #[v_q] Q w :=
  callS_of mix (fun a w => Try.call46 a w) (by kernel_rfl) (by rw [eq46]; exact h)
-- (*commons/imap.Map[int]).lay
def S47 (v_m v_l : Value) (Q : Value → World → Prop) (w : World) : Prop :=
 callS Try.prog 59 #[v_l, (.func (.func 60) #[] #[])] (fun _ w_1 => 
 pur Try.prog (nilV v_m) fun t10 => 
 pur Try.prog (Instr.fieldAt 77 t10 0) fun t11 => 
 act Try.prog (thenU (Instr.storeAt 65 t11 (.slice none 0 0))) (fun _ w_2 => 
 pur Try.prog (Builtin.len_ #[65] 3 #[v_l]) fun t13 => 
 lp 1 (fun J => fun t14 w_3 => ∀ _j : Fr, 
  pur Try.prog (binS .lss 3 false false t14 t13) fun t15 => 
  condS t15
   (jn 0 (fun J_1 => 
   pur Try.prog (Instr.indexAt 65 v_l t14) fun t16 => 
   rd Try.prog (Instr.loadAt 68 t16) (fun t17 => 
   act Try.prog (Instr.alloc 68 true (.tuple #[])) (fun t5 w_4 => 
   act Try.prog (thenU (Instr.storeAt 68 t5 t17)) (fun _ w_5 => 
   pur Try.prog (nilV v_m) fun t19 => 
   pur Try.prog (Instr.fieldAt 77 t19 0) fun t20 => 
   rd Try.prog (Instr.loadAt 65 t20) (fun t21 => 
   pur Try.prog (Builtin.len_ #[65] 3 #[t21]) fun t22 => 
   pur Try.prog (binS .sub 3 false true t22 (.int .i64 1)) fun t23 => 
   pur Try.prog (binS .geq 3 false true t23 (.int .i64 0)) fun t25 => 
   gd t25 true (fun k w_6 => k v_m w_6) (fun t27_1 w_7 => 
   gd t25 true (fun k_1 w_8 => pur Try.prog (nilV t27_1) fun t28 => k_1 t28 w_8) (fun t28_1 w_9 => 
   gd t25 true (fun k_2 w_10 => pur Try.prog (Instr.fieldAt 77 t28_1 0) fun t29 => k_2 t29 w_10) (fun t29_1 w_11 => 
   gd t25 true (fun k_3 w_12 => rd Try.prog (Instr.loadAt 65 t29_1) (fun t30 => k_3 t30 w_12) w_12) (fun t30_1 w_13 => 
   gd t25 true (fun k_4 w_14 => k_4 t23 w_14) (fun t31_1 w_15 => 
   gd t25 true (fun k_5 w_16 => pur Try.prog (Instr.indexAt 65 t30_1 t31_1) fun t32 => k_5 t32 w_16) (fun t32_1 w_17 => 
   gd t25 true (fun k_6 w_18 => pur Try.prog (Instr.fieldAt 68 t32_1 0) fun t33 => k_6 t33 w_18) (fun t33_1 w_19 => 
   gd t25 true (fun k_7 w_20 => pur Try.prog (Instr.fieldAt 23 t33_1 1) fun t34 => k_7 t34 w_20) (fun t34_1 w_21 => 
   gd t25 true (fun k_8 w_22 => rd Try.prog (Instr.loadAt 3 t34_1) (fun t35 => k_8 t35 w_22) w_22) (fun t35_1 w_23 => 
   gd t25 true (fun k_9 w_24 => pur Try.prog (Instr.fieldAt 68 t5 0) fun t36 => k_9 t36 w_24) (fun t36_1 w_25 => 
   gd t25 true (fun k_10 w_26 => pur Try.prog (Instr.fieldAt 23 t36_1 0) fun t37 => k_10 t37 w_26) (fun t37_1 w_27 => 
   gd t25 true (fun k_11 w_28 => rd Try.prog (Instr.loadAt 3 t37_1) (fun t38 => k_11 t38 w_28) w_28) (fun t38_1 w_29 => 
   gd t25 true (fun k_12 w_30 => pur Try.prog (binS .eql 3 false false t35_1 t38_1) fun t39 => k_12 t39 w_30) (fun t39_1 w_31 => 
   pur Try.prog (pickS t25 t39_1 (.bool false)) fun t40 => 
   gd t40 true (fun k_13 w_32 => k_13 v_m w_32) (fun t42_1 w_33 => 
   gd t40 true (fun k_14 w_34 => pur Try.prog (nilV t42_1) fun t43 => k_14 t43 w_34) (fun t43_1 w_35 => 
   gd t40 true (fun k_15 w_36 => pur Try.prog (Instr.fieldAt 77 t43_1 0) fun t44 => k_15 t44 w_36) (fun t44_1 w_37 => 
   gd t40 true (fun k_16 w_38 => rd Try.prog (Instr.loadAt 65 t44_1) (fun t45 => k_16 t45 w_38) w_38) (fun t45_1 w_39 => 
   gd t40 true (fun k_17 w_40 => k_17 t23 w_40) (fun t46_1 w_41 => 
   gd t40 true (fun k_18 w_42 => pur Try.prog (Instr.indexAt 65 t45_1 t46_1) fun t47 => k_18 t47 w_42) (fun t47_1 w_43 => 
   gd t40 true (fun k_19 w_44 => pur Try.prog (Instr.fieldAt 68 t47_1 1) fun t48 => k_19 t48 w_44) (fun t48_1 w_45 => 
   gd t40 true (fun k_20 w_46 => rd Try.prog (Instr.loadAt 3 t48_1) (fun t49 => k_20 t49 w_46) w_46) (fun t49_1 w_47 => 
   gd t40 true (fun k_21 w_48 => pur Try.prog (Instr.fieldAt 68 t5 1) fun t50 => k_21 t50 w_48) (fun t50_1 w_49 => 
   gd t40 true (fun k_22 w_50 => rd Try.prog (Instr.loadAt 3 t50_1) (fun t51 => k_22 t51 w_50) w_50) (fun t51_1 w_51 => 
   gd t40 true (fun k_23 w_52 => pur Try.prog (binS .eql 3 false false t49_1 t51_1) fun t52 => k_23 t52 w_52) (fun t52_1 w_53 => 
   pur Try.prog (pickS t40 t52_1 (.bool false)) fun t53 => 
   condS t53
    (pur Try.prog (nilV v_m) fun t55 => 
    pur Try.prog (Instr.fieldAt 77 t55 0) fun t56 => 
    rd Try.prog (Instr.loadAt 65 t56) (fun t57 => 
    pur Try.prog (Instr.fieldAt 68 t5 0) fun t59 => 
    pur Try.prog (Instr.fieldAt 23 t59 1) fun t60 => 
    rd Try.prog (Instr.loadAt 3 t60) (fun t61 => 
    pur Try.prog (Instr.indexAt 65 t57 t23) fun t62 => 
    pur Try.prog (Instr.fieldAt 68 t62 0) fun t63 => 
    pur Try.prog (Instr.fieldAt 23 t63 1) fun t64 => 
    act Try.prog (thenU (Instr.storeAt 3 t64 t61)) (fun _ w_54 => 
    J_1  w_54) (World.drew w_53)) (World.drew w_53)) (World.drew w_53))
    (jn 0 (fun J_2 => 
     pur Try.prog (nilV v_m) fun t67 => 
     pur Try.prog (Instr.fieldAt 77 t67 0) fun t68 => 
     rd Try.prog (Instr.loadAt 68 t5) (fun t70 => 
     (rd Try.prog (Instr.loadAt 65 t68) (fun t69 => 
     act Try.prog (Instr.buildSlice 65 1 #[(0, t70)]) (fun t71 w_55 => 
     act Try.prog (Builtin.append_ #[65, 65] 65 #[t69, t71]) (fun t72 w_56 => 
     pur Try.prog (nilV v_m) fun t73 => 
     pur Try.prog (Instr.fieldAt 77 t73 0) fun t74 => 
     act Try.prog (thenU (Instr.storeAt 65 t74 t72)) (fun _ w_57 => 
     J_2  w_57) w_56) w_55) (World.drew w_53)) (World.drew w_53)
     ) ∧ (act Try.prog (Instr.buildSlice 65 1 #[(0, t70)]) (fun t71_1 w_58 => 
     rd Try.prog (Instr.loadAt 65 t68) (fun t69_1 => 
     act Try.prog (Builtin.append_ #[65, 65] 65 #[t69_1, t71_1]) (fun t72_1 w_59 => 
     pur Try.prog (nilV v_m) fun t73_1 => 
     pur Try.prog (Instr.fieldAt 77 t73_1 0) fun t74_1 => 
     act Try.prog (thenU (Instr.storeAt 65 t74_1 t72_1)) (fun _ w_60 => 
     J_2  w_60) w_59) w_58) w_58) (World.drew w_53))) (World.drew w_53))
    (fun  w_61 => ∀ _j : Fr, 
     J_1  w_61))) w_51) w_49) w_47) w_45) w_43) w_41) w_39) w_37) w_35) w_33) w_31) w_29) w_27) w_25) w_23) w_21) w_19) w_17) w_15) w_13) w_11) w_9) w_7) (World.drew w_5)) w_5) w_4) w_3) w_3)
  (fun  w_62 => ∀ _j : Fr, 
   pur Try.prog (binS .add 3 false true t14 (.int .i64 1)) fun t75 => 
   J t75 w_62))
   (Q (.tuple #[]) w_3)) [(.int .i64 0)] w_2) w_1) w
theorem eq47 (v_m v_l : Value) (Q : Value → World → Prop) (w : World) : semF Try.prog 47 [v_m, v_l] Q w = S47 v_m v_l Q w := by kernel_rfl
theorem ref47 {v_m v_l : Value} {Q : Value → World → Prop} {w : World} (h : S47 v_m v_l Q w) : callS Try.prog 47 #[v_m, v_l] Q w :=
  callS_of mix (fun a w => Try.call47 a w) (by kernel_rfl) (by rw [eq47]; exact h)
-- (*commons/imap.Map[int]).without
def S48 (v_m v_s : Value) (Q : Value → World → Prop) (w : World) : Prop :=
 act Try.prog (Instr.box 23 v_s) (fun t3 w_1 => 
 pur Try.prog (nilV v_m) fun t11 => 
 pur Try.prog (Instr.fieldAt 77 t11 0) fun t12 => 
 rd Try.prog (Instr.loadAt 65 t12) (fun t13 => 
 pur Try.prog (Builtin.len_ #[65] 3 #[t13]) fun t14 => 
 lp 2 (fun J => fun v_out t15 w_2 => ∀ _j : Fr, 
  pur Try.prog (binS .lss 3 false false t15 t14) fun t16 => 
  condS t16
   (pur Try.prog (Instr.indexAt 65 t13 t15) fun t17 => 
  rd Try.prog (Instr.loadAt 68 t17) (fun t18 => 
  act Try.prog (Instr.alloc 68 true (.tuple #[])) (fun t7 w_3 => 
  act Try.prog (thenU (Instr.storeAt 68 t7 t18)) (fun _ w_4 => 
  pur Try.prog (Instr.fieldAt 68 t7 0) fun t19 => 
  rd Try.prog (Instr.loadAt 23 t19) (fun t20 => 
  act Try.prog (Instr.buildSlice 94 1 #[(0, t20)]) (fun t21 w_5 => 
  rd Try.prog (Instr.loadAt 23 t3) (fun t22 => 
  act Try.prog (Instr.buildSlice 94 1 #[(0, t22)]) (fun t23 w_6 => 
  callS Try.prog 62 #[t21, t23] (fun t24 w_7 => 
  pur Try.prog (Builtin.len_ #[94] 3 #[t24]) fun t25 => 
  lp 2 (fun J_1 => fun v_out_1 t26 w_8 => ∀ _j : Fr, 
   pur Try.prog (binS .lss 3 false false t26 t25) fun t27 => 
   condS t27
    (pur Try.prog (Instr.indexAt 94 t24 t26) fun t28 => 
   rd Try.prog (Instr.loadAt 23 t28) (fun t29 => 
   act Try.prog (Instr.alloc 23 true (.tuple #[])) (fun t9 w_9 => 
   act Try.prog (thenU (Instr.storeAt 23 t9 t29)) (fun _ w_10 => 
   rd Try.prog (Instr.loadAt 23 t9) (fun t31 => 
   pur Try.prog (Instr.fieldAt 68 t7 1) fun t32 => 
   rd Try.prog (Instr.loadAt 3 t32) (fun t33 => 
   pur Try.prog (Instr.build 68 #[(0, t31), (1, t33)]) fun t34 => 
   act Try.prog (Instr.buildSlice 65 1 #[(0, t34)]) (fun t35 w_11 => 
   act Try.prog (Builtin.append_ #[65, 65] 65 #[v_out_1, t35]) (fun t36 w_12 => 
   pur Try.prog (binS .add 3 false true t26 (.int .i64 1)) fun t37 => 
   J_1 t36 t37 w_12) w_11) w_10) w_10) w_10) w_9) w_8) w_8)
    (pur Try.prog (binS .add 3 false true t15 (.int .i64 1)) fun t38 => 
  J v_out_1 t38 w_8)) [v_out, (.int .i64 0)] w_7) w_6) w_5) w_5) w_4) w_4) w_3) w_2) w_2)
   (Q v_out w_2)) [(.slice none 0 0), (.int .i64 0)] w_1) w_1) w
theorem eq48 (v_m v_s : Value) (Q : Value → World → Prop) (w : World) : semF Try.prog 48 [v_m, v_s] Q w = S48 v_m v_s Q w := by kernel_rfl
theorem ref48 {v_m v_s : Value} {Q : Value → World → Prop} {w : World} (h : S48 v_m v_s Q w) : callS Try.prog 48 #[v_m, v_s] Q w :=
  callS_of mix (fun a w => Try.call48 a w) (by kernel_rfl) (by rw [eq48]; exact h)
-- commons/ltab.claim
def S49 (v_w v_at : Value) (Q : Value → World → Prop) (w : World) : Prop :=
 act Try.prog (Instr.box 36 v_w) (fun t2 w_1 => 
 act Try.prog (Instr.alloc 36 true (.tuple #[])) (fun t4 w_2 => 
 pur Try.prog (binS .add 3 false true v_at (.int .i64 1)) fun t6 => 
 pur Try.prog (Instr.fieldAt 36 t2 2) fun t7 => 
 pur Try.prog (Instr.fieldAt 31 t7 0) fun t8 => 
 pur Try.prog (Instr.fieldAt 23 t8 1) fun t9 => 
 act Try.prog (thenU (Instr.storeAt 3 t9 t6)) (fun _ w_3 => 
 rd Try.prog (Instr.loadAt 36 t2) (fun t10 => 
 act Try.prog (thenU (Instr.storeAt 36 t4 t10)) (fun _ w_4 => 
 rd Try.prog (resL 36 t4) (fun r => Q r w_4) w_4) w_3) w_3) w_2) w_1) w
theorem eq49 (v_w v_at : Value) (Q : Value → World → Prop) (w : World) : semF Try.prog 49 [v_w, v_at] Q w = S49 v_w v_at Q w := by kernel_rfl
theorem ref49 {v_w v_at : Value} {Q : Value → World → Prop} {w : World} (h : S49 v_w v_at Q w) : callS Try.prog 49 #[v_w, v_at] Q w :=
  callS_of mix (fun a w => Try.call49 a w) (by kernel_rfl) (by rw [eq49]; exact h)
-- commons/span.Has
def S50 (v_s v_block : Value) (Q : Value → World → Prop) (w : World) : Prop :=
 act Try.prog (Instr.box 23 v_s) (fun t2 w_1 => 
 rd Try.prog (Instr.loadAt 23 t2) (fun t5 => 
 callS Try.prog 27 #[t5] (fun t6 w_2 => 
 gd t6 true (fun k w_3 => pur Try.prog (Instr.fieldAt 23 t2 0) fun t8 => k t8 w_3) (fun t8_1 w_4 => 
 gd t6 true (fun k_1 w_5 => rd Try.prog (Instr.loadAt 3 t8_1) (fun t9 => k_1 t9 w_5) w_5) (fun t9_1 w_6 => 
 gd t6 true (fun k_2 w_7 => k_2 v_block w_7) (fun t10_1 w_8 => 
 gd t6 true (fun k_3 w_9 => pur Try.prog (binS .leq 3 false false t9_1 t10_1) fun t11 => k_3 t11 w_9) (fun t11_1 w_10 => 
 pur Try.prog (pickS t6 t11_1 (.bool false)) fun t12 => 
 gd t12 true (fun k_4 w_11 => k_4 v_block w_11) (fun t14_1 w_12 => 
 gd t12 true (fun k_5 w_13 => pur Try.prog (Instr.fieldAt 23 t2 1) fun t15 => k_5 t15 w_13) (fun t15_1 w_14 => 
 gd t12 true (fun k_6 w_15 => rd Try.prog (Instr.loadAt 3 t15_1) (fun t16 => k_6 t16 w_15) w_15) (fun t16_1 w_16 => 
 gd t12 true (fun k_7 w_17 => pur Try.prog (binS .lss 3 false false t14_1 t16_1) fun t17 => k_7 t17 w_17) (fun t17_1 w_18 => 
 pur Try.prog (pickS t12 t17_1 (.bool false)) fun t18 => 
 Q t18 w_18) w_16) w_14) w_12) w_10) w_8) w_6) w_4) w_2) w_1) w_1) w
theorem eq50 (v_s v_block : Value) (Q : Value → World → Prop) (w : World) : semF Try.prog 50 [v_s, v_block] Q w = S50 v_s v_block Q w := by kernel_rfl
theorem ref50 {v_s v_block : Value} {Q : Value → World → Prop} {w : World} (h : S50 v_s v_block Q w) : callS Try.prog 50 #[v_s, v_block] Q w :=
  callS_of mix (fun a w => Try.call50 a w) (by kernel_rfl) (by rw [eq50]; exact h)
-- slices.Clone[[]commons/imap.Part[int],commons/imap.Part[int]]
def S51 (v_s : Value) (Q : Value → World → Prop) (w : World) : Prop :=
 rd Try.prog (binS .eql 65 false true v_s (.slice none 0 0)) (fun t4 => 
 condS t4
  (Q (.slice none 0 0) w)
  (act Try.prog (Instr.buildSlice 65 0 #[]) (fun t5 w_1 => 
 act Try.prog (Builtin.append_ #[65, 65] 65 #[t5, v_s]) (fun t7 w_2 => 
 Q t7 w_2) w_1) w)) w
theorem eq51 (v_s : Value) (Q : Value → World → Prop) (w : World) : semF Try.prog 51 [v_s] Q w = S51 v_s Q w := by kernel_rfl
theorem ref51 {v_s : Value} {Q : Value → World → Prop} {w : World} (h : S51 v_s Q w) : callS Try.prog 51 #[v_s] Q w :=
  callS_of mix (fun a w => Try.call51 a w) (by kernel_rfl) (by rw [eq51]; exact h)
-- slices.IndexFunc[[]commons/ltab.Wait,commons/ltab.Wait]
def S52 (v_s v_f : Value) (Q : Value → World → Prop) (w : World) : Prop :=
 pur Try.prog (Builtin.len_ #[32] 3 #[v_s]) fun t7 => 
 lp 1 (fun J => fun t8 w_1 => ∀ _j : Fr, 
  pur Try.prog (binS .lss 3 false false t8 t7) fun t9 => 
  condS t9
   (pur Try.prog (Instr.indexAt 32 v_s t8) fun t14 => 
  rd Try.prog (Instr.loadAt 36 t14) (fun t15 => 
  callF Try.prog v_f #[t15] (fun t16 w_2 => 
  condS t16
   (Q t8 w_2)
   (pur Try.prog (binS .add 3 false true t8 (.int .i64 1)) fun t18 => 
  J t18 w_2)) w_1) w_1)
   (Q (.int .i64 (-1)) w_1)) [(.int .i64 0)] w
theorem eq52 (v_s v_f : Value) (Q : Value → World → Prop) (w : World) : semF Try.prog 52 [v_s, v_f] Q w = S52 v_s v_f Q w := by kernel_rfl
theorem ref52 {v_s v_f : Value} {Q : Value → World → Prop} {w : World} (h : S52 v_s v_f Q w) : callS Try.prog 52 #[v_s, v_f] Q w :=
  callS_of mix (fun a w => Try.call52 a w) (by kernel_rfl) (by rw [eq52]; exact h)
-- commons/mode.Fit
def S53 (v_a v_b : Value) (Q : Value → World → Prop) (w : World) : Prop :=
 callS Try.prog 63 #[v_a] (fun t6 w_1 => 
 pur Try.prog (Op.unary .not t6) fun t7 => 
 gd t7 false (fun k w_2 => k v_b w_2) (fun t9_1 w_3 => 
 gd t7 false (fun k_1 w_4 => callS Try.prog 63 #[t9_1] (fun t10 w_5 => k_1 t10 w_5) w_4) (fun t10_1 w_6 => 
 gd t7 false (fun k_2 w_7 => pur Try.prog (Op.unary .not t10_1) fun t11 => k_2 t11 w_7) (fun t11_1 w_8 => 
 pur Try.prog (pickS t7 (.bool true) t11_1) fun t12 => 
 condS t12
  (Q (.bool false) w_8)
  (pur Try.prog (binS .eql 3 false true v_a (.int .i64 0)) fun t14 => 
 gd t14 false (fun k_3 w_9 => k_3 v_b w_9) (fun t16_1 w_10 => 
 gd t14 false (fun k_4 w_11 => pur Try.prog (binS .eql 3 false true t16_1 (.int .i64 0)) fun t17 => k_4 t17 w_11) (fun t17_1 w_12 => 
 pur Try.prog (pickS t14 (.bool true) t17_1) fun t18 => 
 gd t18 false (fun k_5 w_13 => k_5 v_a w_13) (fun t20_1 w_14 => 
 gd t18 false (fun k_6 w_15 => pur Try.prog (binS .eql 3 false true t20_1 (.int .i64 1)) fun t21 => k_6 t21 w_15) (fun t21_1 w_16 => 
 gd t18 false (fun k_7 w_17 => k_7 t21_1 w_17) (fun t22_1 w_18 => 
 gd t22_1 true (fun k_8 w_19 => k_8 v_b w_19) (fun t23_1 w_20 => 
 gd t22_1 true (fun k_9 w_21 => pur Try.prog (binS .eql 3 false true t23_1 (.int .i64 1)) fun t24 => k_9 t24 w_21) (fun t24_1 w_22 => 
 gd t18 false (fun k_10 w_23 => pur Try.prog (pickS t22_1 t24_1 (.bool false)) fun t25 => k_10 t25 w_23) (fun t25_1 w_24 => 
 pur Try.prog (pickS t18 (.bool true) t25_1) fun t26 => 
 Q t26 w_24) w_22) w_20) w_18) w_16) w_14) w_12) w_10) w_8)) w_6) w_3) w_1) w
theorem eq53 (v_a v_b : Value) (Q : Value → World → Prop) (w : World) : semF Try.prog 53 [v_a, v_b] Q w = S53 v_a v_b Q w := by kernel_rfl
theorem ref53 {v_a v_b : Value} {Q : Value → World → Prop} {w : World} (h : S53 v_a v_b Q w) : callS Try.prog 53 #[v_a, v_b] Q w :=
  callS_of mix (fun a w => Try.call53 a w) (by kernel_rfl) (by rw [eq53]; exact h)
-- commons/ltab.keeps
def S54 (v_asked v_held : Value) (Q : Value → World → Prop) (w : World) : Prop :=
 pur Try.prog (binS .eql 3 false true v_asked (.int .i64 1)) fun t6 => 
 gd t6 true (fun k w_1 => k v_held w_1) (fun t8_1 w_2 => 
 gd t6 true (fun k_1 w_3 => pur Try.prog (binS .eql 3 false true t8_1 (.int .i64 2)) fun t9 => k_1 t9 w_3) (fun t9_1 w_4 => 
 pur Try.prog (pickS t6 t9_1 (.bool false)) fun t10 => 
 condS t10
  (Q (.int .i64 1) w_4)
  (Q (.int .i64 0) w_4)) w_2) w
theorem eq54 (v_asked v_held : Value) (Q : Value → World → Prop) (w : World) : semF Try.prog 54 [v_asked, v_held] Q w = S54 v_asked v_held Q w := by kernel_rfl
theorem ref54 {v_asked v_held : Value} {Q : Value → World → Prop} {w : World} (h : S54 v_asked v_held Q w) : callS Try.prog 54 #[v_asked, v_held] Q w :=
  callS_of mix (fun a w => Try.call54 a w) (by kernel_rfl) (by rw [eq54]; exact h)
-- commons/mode.asked
def S55 (v_l : Value) (Q : Value → World → Prop) (w : World) : Prop :=
 callS Try.prog 20 #[] (fun t6 w_1 => 
 pur Try.prog (Builtin.len_ #[43] 3 #[v_l]) fun t8 => 
 lp 1 (fun J => fun t9 w_2 => ∀ _j : Fr, 
  pur Try.prog (binS .lss 3 false false t9 t8) fun t10 => 
  condS t10
   (jn 0 (fun J_1 => 
   pur Try.prog (Instr.indexAt 43 v_l t9) fun t11 => 
   rd Try.prog (Instr.loadAt 31 t11) (fun t12 => 
   act Try.prog (Instr.alloc 31 true (.tuple #[])) (fun t5 w_3 => 
   act Try.prog (thenU (Instr.storeAt 31 t5 t12)) (fun _ w_4 => 
   pur Try.prog (Instr.fieldAt 31 t5 1) fun t13 => 
   rd Try.prog (Instr.loadAt 3 t13) (fun t14 => 
   pur Try.prog (binS .eql 3 false true t14 (.int .i64 1)) fun t15 => 
   gd t15 false (fun k w_5 => pur Try.prog (Instr.fieldAt 31 t5 1) fun t17 => k t17 w_5) (fun t17_1 w_6 => 
   gd t15 false (fun k_1 w_7 => rd Try.prog (Instr.loadAt 3 t17_1) (fun t18 => k_1 t18 w_7) w_7) (fun t18_1 w_8 => 
   gd t15 false (fun k_2 w_9 => pur Try.prog (binS .eql 3 false true t18_1 (.int .i64 2)) fun t19 => k_2 t19 w_9) (fun t19_1 w_10 => 
   pur Try.prog (pickS t15 (.bool true) t19_1) fun t20 => 
   condS t20
    (rd Try.prog (Instr.loadAt 31 t5) (fun t22 => 
    callS Try.prog 25 #[t6, t22] (fun _ w_11 => 
    J_1  w_11) w_10) w_10)
    (J_1  w_10)) w_8) w_6) w_4) w_4) w_3) w_2) w_2)
  (fun  w_12 => ∀ _j : Fr, 
   pur Try.prog (binS .add 3 false true t9 (.int .i64 1)) fun t24 => 
   J t24 w_12))
   (Q t6 w_2)) [(.int .i64 0)] w_1) w
theorem eq55 (v_l : Value) (Q : Value → World → Prop) (w : World) : semF Try.prog 55 [v_l] Q w = S55 v_l Q w := by kernel_rfl
theorem ref55 {v_l : Value} {Q : Value → World → Prop} {w : World} (h : S55 v_l Q w) : callS Try.prog 55 #[v_l] Q w :=
  callS_of mix (fun a w => Try.call55 a w) (by kernel_rfl) (by rw [eq55]; exact h)
-- commons/mode.locks
def S56 (v_m : Value) (Q : Value → World → Prop) (w : World) : Prop :=
 callS Try.prog 34 #[v_m] (fun t7 w_1 => 
 pur Try.prog (Builtin.len_ #[65] 3 #[t7]) fun t8 => 
 lp 2 (fun J => fun v_out t9 w_2 => ∀ _j : Fr, 
  pur Try.prog (binS .lss 3 false false t9 t8) fun t10 => 
  condS t10
   (pur Try.prog (Instr.indexAt 65 t7 t9) fun t11 => 
  rd Try.prog (Instr.loadAt 68 t11) (fun t12 => 
  act Try.prog (Instr.alloc 68 true (.tuple #[])) (fun t5 w_3 => 
  act Try.prog (thenU (Instr.storeAt 68 t5 t12)) (fun _ w_4 => 
  pur Try.prog (Instr.fieldAt 68 t5 0) fun t14 => 
  rd Try.prog (Instr.loadAt 23 t14) (fun t15 => 
  pur Try.prog (Instr.fieldAt 68 t5 1) fun t16 => 
  rd Try.prog (Instr.loadAt 3 t16) (fun t17 => 
  pur Try.prog (Instr.build 31 #[(0, t15), (1, t17)]) fun t18 => 
  act Try.prog (Instr.buildSlice 43 1 #[(0, t18)]) (fun t19 w_5 => 
  act Try.prog (Builtin.append_ #[43, 43] 43 #[v_out, t19]) (fun t20 w_6 => 
  pur Try.prog (binS .add 3 false true t9 (.int .i64 1)) fun t21 => 
  J t20 t21 w_6) w_5) w_4) w_4) w_4) w_3) w_2) w_2)
   (Q v_out w_2)) [(.slice none 0 0), (.int .i64 0)] w_1) w
theorem eq56 (v_m : Value) (Q : Value → World → Prop) (w : World) : semF Try.prog 56 [v_m] Q w = S56 v_m Q w := by kernel_rfl
theorem ref56 {v_m : Value} {Q : Value → World → Prop} {w : World} (h : S56 v_m Q w) : callS Try.prog 56 #[v_m] Q w :=
  callS_of mix (fun a w => Try.call56 a w) (by kernel_rfl) (by rw [eq56]; exact h)
-- commons/mode.Covers
def S57 (v_a v_b : Value) (Q : Value → World → Prop) (w : World) : Prop :=
 callS Try.prog 63 #[v_a] (fun t6 w_1 => 
 gd t6 true (fun k w_2 => k v_b w_2) (fun t8_1 w_3 => 
 gd t6 true (fun k_1 w_4 => callS Try.prog 63 #[t8_1] (fun t9 w_5 => k_1 t9 w_5) w_4) (fun t9_1 w_6 => 
 pur Try.prog (pickS t6 t9_1 (.bool false)) fun t10 => 
 gd t10 true (fun k_2 w_7 => k_2 v_b w_7) (fun t12_1 w_8 => 
 gd t10 true (fun k_3 w_9 => k_3 v_a w_9) (fun t13_1 w_10 => 
 gd t10 true (fun k_4 w_11 => pur Try.prog (binS .leq 3 false false t12_1 t13_1) fun t14 => k_4 t14 w_11) (fun t14_1 w_12 => 
 pur Try.prog (pickS t10 t14_1 (.bool false)) fun t15 => 
 Q t15 w_12) w_10) w_8) w_6) w_3) w_1) w
theorem eq57 (v_a v_b : Value) (Q : Value → World → Prop) (w : World) : semF Try.prog 57 [v_a, v_b] Q w = S57 v_a v_b Q w := by kernel_rfl
theorem ref57 {v_a v_b : Value} {Q : Value → World → Prop} {w : World} (h : S57 v_a v_b Q w) : callS Try.prog 57 #[v_a, v_b] Q w :=
  callS_of mix (fun a w => Try.call57 a w) (by kernel_rfl) (by rw [eq57]; exact h)
-- slices.IndexFunc[[]commons/imap.Part[int],commons/imap.Part[int]]
def S58 (v_s v_f : Value) (Q : Value → World → Prop) (w : World) : Prop :=
 pur Try.prog (Builtin.len_ #[65] 3 #[v_s]) fun t7 => 
 lp 1 (fun J => fun t8 w_1 => ∀ _j : Fr, 
  pur Try.prog (binS .lss 3 false false t8 t7) fun t9 => 
  condS t9
   (pur Try.prog (Instr.indexAt 65 v_s t8) fun t14 => 
  rd Try.prog (Instr.loadAt 68 t14) (fun t15 => 
  callF Try.prog v_f #[t15] (fun t16 w_2 => 
  condS t16
   (Q t8 w_2)
   (pur Try.prog (binS .add 3 false true t8 (.int .i64 1)) fun t18 => 
  J t18 w_2)) w_1) w_1)
   (Q (.int .i64 (-1)) w_1)) [(.int .i64 0)] w
theorem eq58 (v_s v_f : Value) (Q : Value → World → Prop) (w : World) : semF Try.prog 58 [v_s, v_f] Q w = S58 v_s v_f Q w := by kernel_rfl
theorem ref58 {v_s v_f : Value} {Q : Value → World → Prop} {w : World} (h : S58 v_s v_f Q w) : callS Try.prog 58 #[v_s, v_f] Q w :=
  callS_of mix (fun a w => Try.call58 a w) (by kernel_rfl) (by rw [eq58]; exact h)
-- slices.SortFunc[[]commons/imap.Part[int],commons/imap.Part[int]]
def S59 (v_x v_cmp : Value) (Q : Value → World → Prop) (w : World) : Prop :=
 pur Try.prog (Builtin.len_ #[65] 3 #[v_x]) fun t6 => 
 pur Try.prog (convert 3 98 t6) fun t10 => 
 callS Try.prog 65 #[t10] (fun t11 w_1 => 
 callS Try.prog 64 #[v_x, (.int .i64 0), t6, t11, v_cmp] (fun _ w_2 => 
 Q (.tuple #[]) w_2) w_1) w
theorem eq59 (v_x v_cmp : Value) (Q : Value → World → Prop) (w : World) : semF Try.prog 59 [v_x, v_cmp] Q w = S59 v_x v_cmp Q w := by kernel_rfl
theorem ref59 {v_x v_cmp : Value} {Q : Value → World → Prop} {w : World} (h : S59 v_x v_cmp Q w) : callS Try.prog 59 #[v_x, v_cmp] Q w :=
  callS_of mix (fun a w => Try.call59 a w) (by kernel_rfl) (by rw [eq59]; exact h)
-- (*commons/imap.Map[int]).lay$1
def S60 (v_a v_b : Value) (Q : Value → World → Prop) (w : World) : Prop :=
 act Try.prog (Instr.box 68 v_a) (fun t2 w_1 => 
 act Try.prog (Instr.box 68 v_b) (fun t3 w_2 => 
 pur Try.prog (Instr.fieldAt 68 t2 0) fun t5 => 
 pur Try.prog (Instr.fieldAt 23 t5 0) fun t6 => 
 rd Try.prog (Instr.loadAt 3 t6) (fun t7 => 
 pur Try.prog (Instr.fieldAt 68 t3 0) fun t8 => 
 pur Try.prog (Instr.fieldAt 23 t8 0) fun t9 => 
 rd Try.prog (Instr.loadAt 3 t9) (fun t10 => 
 callS Try.prog 61 #[t7, t10] (fun t11 w_3 => 
 Q t11 w_3) w_2) w_2) w_2) w_1) w
theorem eq60 (v_a v_b : Value) (Q : Value → World → Prop) (w : World) : semF Try.prog 60 [v_a, v_b] Q w = S60 v_a v_b Q w := by kernel_rfl
theorem ref60 {v_a v_b : Value} {Q : Value → World → Prop} {w : World} (h : S60 v_a v_b Q w) : callS Try.prog 60 #[v_a, v_b] Q w :=
  callS_of mix (fun a w => Try.call60 a w) (by kernel_rfl) (by rw [eq60]; exact h)
-- cmp.Compare[int]
def S61 (v_x v_y : Value) (Q : Value → World → Prop) (w : World) : Prop :=
 callS Try.prog 66 #[v_x] (fun t8 w_1 => 
 callS Try.prog 66 #[v_y] (fun t10 w_2 => 
 condS t8
  (condS t10
   (Q (.int .i64 0) w_2)
   (Q (.int .i64 (-1)) w_2))
  (condS t10
  (Q (.int .i64 1) w_2)
  (pur Try.prog (binS .lss 3 false false v_x v_y) fun t16 => 
 condS t16
  (Q (.int .i64 (-1)) w_2)
  (pur Try.prog (binS .gtr 3 false false v_x v_y) fun t19 => 
 condS t19
  (Q (.int .i64 1) w_2)
  (Q (.int .i64 0) w_2))))) w_1) w
theorem eq61 (v_x v_y : Value) (Q : Value → World → Prop) (w : World) : semF Try.prog 61 [v_x, v_y] Q w = S61 v_x v_y Q w := by kernel_rfl
theorem ref61 {v_x v_y : Value} {Q : Value → World → Prop} {w : World} (h : S61 v_x v_y Q w) : callS Try.prog 61 #[v_x, v_y] Q w :=
  callS_of mix (fun a w => Try.call61 a w) (by kernel_rfl) (by rw [eq61]; exact h)
-- commons/span.Minus
def S62 (v_a v_b : Value) (Q : Value → World → Prop) (w : World) : Prop :=
 callS Try.prog 67 #[v_a] (fun t12 w_1 => 
 callS Try.prog 67 #[v_b] (fun t14 w_2 => 
 pur Try.prog (Builtin.len_ #[94] 3 #[t14]) fun t15 => 
 lp 2 (fun J => fun v_out t16 w_3 => ∀ _j : Fr, 
  pur Try.prog (binS .lss 3 false false t16 t15) fun t17 => 
  condS t17
   (pur Try.prog (Instr.indexAt 94 t14 t16) fun t18 => 
  rd Try.prog (Instr.loadAt 23 t18) (fun t19 => 
  act Try.prog (Instr.alloc 23 true (.tuple #[])) (fun t7 w_4 => 
  act Try.prog (thenU (Instr.storeAt 23 t7 t19)) (fun _ w_5 => 
  pur Try.prog (Builtin.len_ #[94] 3 #[v_out]) fun t21 => 
  lp 2 (fun J_1 => fun v_left t22 w_6 => ∀ _j : Fr, 
   pur Try.prog (binS .lss 3 false false t22 t21) fun t23 => 
   condS t23
    (jn 1 (fun J_2 => 
    pur Try.prog (Instr.indexAt 94 v_out t22) fun t24 => 
    rd Try.prog (Instr.loadAt 23 t24) (fun t25 => 
    act Try.prog (Instr.alloc 23 true (.tuple #[])) (fun t10 w_7 => 
    act Try.prog (thenU (Instr.storeAt 23 t10 t25)) (fun _ w_8 => 
    rd Try.prog (Instr.loadAt 23 t10) (fun t26 => 
    rd Try.prog (Instr.loadAt 23 t7) (fun t27 => 
    callS Try.prog 68 #[t26, t27] (fun t28 w_9 => 
    pur Try.prog (Op.unary .not t28) fun t29 => 
    condS t29
     (rd Try.prog (Instr.loadAt 23 t10) (fun t31 => 
     act Try.prog (Instr.buildSlice 94 1 #[(0, t31)]) (fun t32 w_10 => 
     act Try.prog (Builtin.append_ #[94, 94] 94 #[v_left, t32]) (fun t33 w_11 => 
     J_2 t33 w_11) w_10) w_9) w_9)
     (pur Try.prog (Instr.fieldAt 23 t10 0) fun t35 => 
    rd Try.prog (Instr.loadAt 3 t35) (fun t36 => 
    pur Try.prog (Instr.fieldAt 23 t7 0) fun t37 => 
    rd Try.prog (Instr.loadAt 3 t37) (fun t38 => 
    pur Try.prog (Instr.build 23 #[(0, t36), (1, t38)]) fun t39 => 
    pur Try.prog (Instr.fieldAt 23 t7 1) fun t40 => 
    rd Try.prog (Instr.loadAt 3 t40) (fun t41 => 
    pur Try.prog (Instr.fieldAt 23 t10 1) fun t42 => 
    rd Try.prog (Instr.loadAt 3 t42) (fun t43 => 
    pur Try.prog (Instr.build 23 #[(0, t41), (1, t43)]) fun t44 => 
    act Try.prog (Instr.buildSlice 94 2 #[(0, t39), (1, t44)]) (fun t45 w_12 => 
    act Try.prog (Builtin.append_ #[94, 94] 94 #[v_left, t45]) (fun t46 w_13 => 
    J_2 t46 w_13) w_12) w_9) w_9) w_9) w_9) w_9)) w_8) w_8) w_8) w_7) w_6) w_6)
   (fun v_left_1 w_14 => ∀ _j : Fr, 
    pur Try.prog (binS .add 3 false true t22 (.int .i64 1)) fun t47 => 
    J_1 v_left_1 t47 w_14))
    (callS Try.prog 67 #[v_left] (fun t49 w_15 => 
  pur Try.prog (binS .add 3 false true t16 (.int .i64 1)) fun t50 => 
  J t49 t50 w_15) w_6)) [(.slice none 0 0), (.int .i64 0)] w_5) w_4) w_3) w_3)
   (Q v_out w_3)) [t12, (.int .i64 0)] w_2) w_1) w
theorem eq62 (v_a v_b : Value) (Q : Value → World → Prop) (w : World) : semF Try.prog 62 [v_a, v_b] Q w = S62 v_a v_b Q w := by kernel_rfl
theorem ref62 {v_a v_b : Value} {Q : Value → World → Prop} {w : World} (h : S62 v_a v_b Q w) : callS Try.prog 62 #[v_a, v_b] Q w :=
  callS_of mix (fun a w => Try.call62 a w) (by kernel_rfl) (by rw [eq62]; exact h)
-- commons/mode.Valid
def S63 (v_m : Value) (Q : Value → World → Prop) (w : World) : Prop :=
 pur Try.prog (binS .geq 3 false true v_m (.int .i64 0)) fun t4 => 
 gd t4 true (fun k w_1 => k v_m w_1) (fun t6_1 w_2 => 
 gd t4 true (fun k_1 w_3 => pur Try.prog (binS .leq 3 false true t6_1 (.int .i64 2)) fun t7 => k_1 t7 w_3) (fun t7_1 w_4 => 
 pur Try.prog (pickS t4 t7_1 (.bool false)) fun t8 => 
 Q t8 w_4) w_2) w
theorem eq63 (v_m : Value) (Q : Value → World → Prop) (w : World) : semF Try.prog 63 [v_m] Q w = S63 v_m Q w := by kernel_rfl
theorem ref63 {v_m : Value} {Q : Value → World → Prop} {w : World} (h : S63 v_m Q w) : callS Try.prog 63 #[v_m] Q w :=
  callS_of mix (fun a w => Try.call63 a w) (by kernel_rfl) (by rw [eq63]; exact h)
-- cmp.isNaN[int]
def S66 (v_x : Value) (Q : Value → World → Prop) (w : World) : Prop :=
 pur Try.prog (binS .neq 3 false false v_x v_x) fun t5 => 
 Q t5 w
theorem eq66 (v_x : Value) (Q : Value → World → Prop) (w : World) : semF Try.prog 66 [v_x] Q w = S66 v_x Q w := by kernel_rfl
theorem ref66 {v_x : Value} {Q : Value → World → Prop} {w : World} (h : S66 v_x Q w) : callS Try.prog 66 #[v_x] Q w :=
  callS_of mix (fun a w => Try.call66 a w) (by kernel_rfl) (by rw [eq66]; exact h)
-- commons/span.Norm
def S67 (v_l : Value) (Q : Value → World → Prop) (w : World) : Prop :=
 callS Try.prog 80 #[v_l] (fun t8 w_1 => 
 callS Try.prog 79 #[t8, (.func (.func 81) #[] #[])] (fun t9 w_2 => 
 callS Try.prog 82 #[t9, (.func (.func 83) #[] #[])] (fun _ w_3 => 
 pur Try.prog (Builtin.len_ #[94] 3 #[t9]) fun t13 => 
 lp 2 (fun J => fun v_out t14 w_4 => ∀ _j : Fr, 
  pur Try.prog (binS .lss 3 false false t14 t13) fun t15 => 
  condS t15
   (jn 1 (fun J_1 => 
   pur Try.prog (Instr.indexAt 94 t9 t14) fun t16 => 
   rd Try.prog (Instr.loadAt 23 t16) (fun t17 => 
   act Try.prog (Instr.alloc 23 true (.tuple #[])) (fun t5 w_5 => 
   act Try.prog (thenU (Instr.storeAt 23 t5 t17)) (fun _ w_6 => 
   pur Try.prog (Builtin.len_ #[94] 3 #[v_out]) fun t19 => 
   pur Try.prog (binS .sub 3 false true t19 (.int .i64 1)) fun t20 => 
   pur Try.prog (binS .geq 3 false true t20 (.int .i64 0)) fun t22 => 
   gd t22 true (fun k w_7 => pur Try.prog (Instr.fieldAt 23 t5 0) fun t24 => k t24 w_7) (fun t24_1 w_8 => 
   gd t22 true (fun k_1 w_9 => rd Try.prog (Instr.loadAt 3 t24_1) (fun t25 => k_1 t25 w_9) w_9) (fun t25_1 w_10 => 
   gd t22 true (fun k_2 w_11 => k_2 v_out w_11) (fun t26_1 w_12 => 
   gd t22 true (fun k_3 w_13 => k_3 t20 w_13) (fun t27_1 w_14 => 
   gd t22 true (fun k_4 w_15 => pur Try.prog (Instr.indexAt 94 t26_1 t27_1) fun t28 => k_4 t28 w_15) (fun t28_1 w_16 => 
   gd t22 true (fun k_5 w_17 => pur Try.prog (Instr.fieldAt 23 t28_1 1) fun t29 => k_5 t29 w_17) (fun t29_1 w_18 => 
   gd t22 true (fun k_6 w_19 => rd Try.prog (Instr.loadAt 3 t29_1) (fun t30 => k_6 t30 w_19) w_19) (fun t30_1 w_20 => 
   gd t22 true (fun k_7 w_21 => pur Try.prog (binS .leq 3 false false t25_1 t30_1) fun t31 => k_7 t31 w_21) (fun t31_1 w_22 => 
   pur Try.prog (pickS t22 t31_1 (.bool false)) fun t32 => 
   condS t32
    (pur Try.prog (Instr.indexAt 94 v_out t20) fun t37 => 
    pur Try.prog (Instr.fieldAt 23 t37 1) fun t38 => 
    rd Try.prog (Instr.loadAt 3 t38) (fun t39 => 
    pur Try.prog (Instr.fieldAt 23 t5 1) fun t40 => 
    rd Try.prog (Instr.loadAt 3 t40) (fun t41 => 
    pur Try.prog (Builtin.max_ #[3, 3] 3 #[t39, t41]) fun t42 => 
    pur Try.prog (Instr.indexAt 94 v_out t20) fun t43 => 
    pur Try.prog (Instr.fieldAt 23 t43 1) fun t44 => 
    act Try.prog (thenU (Instr.storeAt 3 t44 t42)) (fun _ w_23 => 
    J_1 v_out w_23) (World.drew w_22)) (World.drew w_22)) (World.drew w_22))
    (rd Try.prog (Instr.loadAt 23 t5) (fun t46 => 
    act Try.prog (Instr.buildSlice 94 1 #[(0, t46)]) (fun t47 w_24 => 
    act Try.prog (Builtin.append_ #[94, 94] 94 #[v_out, t47]) (fun t48 w_25 => 
    J_1 t48 w_25) w_24) w_22) w_22)) w_20) w_18) w_16) w_14) w_12) w_10) w_8) (World.drew w_6)) w_5) w_4) w_4)
  (fun v_out_1 w_26 => ∀ _j : Fr, 
   pur Try.prog (binS .add 3 false true t14 (.int .i64 1)) fun t49 => 
   J v_out_1 t49 w_26))
   (Q v_out w_4)) [(.slice none 0 0), (.int .i64 0)] w_3) w_2) w_1) w
theorem eq67 (v_l : Value) (Q : Value → World → Prop) (w : World) : semF Try.prog 67 [v_l] Q w = S67 v_l Q w := by kernel_rfl
theorem ref67 {v_l : Value} {Q : Value → World → Prop} {w : World} (h : S67 v_l Q w) : callS Try.prog 67 #[v_l] Q w :=
  callS_of mix (fun a w => Try.call67 a w) (by kernel_rfl) (by rw [eq67]; exact h)
-- commons/span.Meets
def S68 (v_a v_b : Value) (Q : Value → World → Prop) (w : World) : Prop :=
 act Try.prog (Instr.box 23 v_a) (fun t2 w_1 => 
 act Try.prog (Instr.box 23 v_b) (fun t3 w_2 => 
 rd Try.prog (Instr.loadAt 23 t2) (fun t8 => 
 rd Try.prog (Instr.loadAt 23 t3) (fun t9 => 
 callS Try.prog 44 #[t8, t9] (fun t10 w_3 => 
 pur Try.prog (Instr.extract t10 0) fun t11 => 
 pur Try.prog (Instr.extract t10 1) fun t12 => 
 act Try.prog (Instr.alloc 23 true (.tuple #[])) (fun t5 w_4 => 
 act Try.prog (thenU (Instr.storeAt 23 t5 t11)) (fun _ w_5 => 
 Q t12 w_5) w_4) w_3) w_2) w_2) w_2) w_1) w
theorem eq68 (v_a v_b : Value) (Q : Value → World → Prop) (w : World) : semF Try.prog 68 [v_a, v_b] Q w = S68 v_a v_b Q w := by kernel_rfl
theorem ref68 {v_a v_b : Value} {Q : Value → World → Prop} {w : World} (h : S68 v_a v_b Q w) : callS Try.prog 68 #[v_a, v_b] Q w :=
  callS_of mix (fun a w => Try.call68 a w) (by kernel_rfl) (by rw [eq68]; exact h)
-- slices.DeleteFunc[[]commons/api.Span,commons/api.Span]
def S79 (v_s v_del : Value) (Q : Value → World → Prop) (w : World) : Prop :=
 callS Try.prog 90 #[v_s, v_del] (fun t10 w_1 => 
 pur Try.prog (binS .eql 3 false true t10 (.int .i64 (-1))) fun t12 => 
 condS t12
  (Q v_s w_1)
  (pur Try.prog (binS .add 3 false true t10 (.int .i64 1)) fun t15 => 
 lp 2 (fun J => fun v_i v_j w_2 => ∀ _j : Fr, 
  pur Try.prog (Builtin.len_ #[94] 3 #[v_s]) fun t18 => 
  pur Try.prog (binS .lss 3 false false v_j t18) fun t19 => 
  condS t19
   (jn 1 (fun J_1 => 
   pur Try.prog (Instr.indexAt 94 v_s v_j) fun t24 => 
   rd Try.prog (Instr.loadAt 23 t24) (fun t25 => 
   act Try.prog (Instr.alloc 23 true (.tuple #[])) (fun t7 w_3 => 
   act Try.prog (thenU (Instr.storeAt 23 t7 t25)) (fun _ w_4 => 
   rd Try.prog (Instr.loadAt 23 t7) (fun t27 => 
   callF Try.prog v_del #[t27] (fun t28 w_5 => 
   pur Try.prog (Op.unary .not t28) fun t29 => 
   condS t29
    (rd Try.prog (Instr.loadAt 23 t7) (fun t32 => 
    pur Try.prog (Instr.indexAt 94 v_s v_i) fun t33 => 
    act Try.prog (thenU (Instr.storeAt 23 t33 t32)) (fun _ w_6 => 
    pur Try.prog (binS .add 3 false true v_i (.int .i64 1)) fun t35 => 
    J_1 t35 w_6) w_5) w_5)
    (J_1 v_i w_5)) w_4) w_4) w_3) w_2) w_2)
  (fun v_i_1 w_7 => ∀ _j : Fr, 
   pur Try.prog (binS .add 3 false true v_j (.int .i64 1)) fun t21 => 
   J v_i_1 t21 w_7))
   (pur Try.prog (Instr.sliceAt 94 v_s (some v_i) none none) fun t38 => 
 act Try.prog (Builtin.clear_ #[94] 0 #[t38]) (fun _ w_8 => 
 pur Try.prog (Instr.sliceAt 94 v_s none (some v_i) none) fun t41 => 
 Q t41 w_8) w_2)) [t10, t15] w_1)) w
theorem eq79 (v_s v_del : Value) (Q : Value → World → Prop) (w : World) : semF Try.prog 79 [v_s, v_del] Q w = S79 v_s v_del Q w := by kernel_rfl
theorem ref79 {v_s v_del : Value} {Q : Value → World → Prop} {w : World} (h : S79 v_s v_del Q w) : callS Try.prog 79 #[v_s, v_del] Q w :=
  callS_of mix (fun a w => Try.call79 a w) (by kernel_rfl) (by rw [eq79]; exact h)
-- slices.Clone[[]commons/api.Span,commons/api.Span]
def S80 (v_s : Value) (Q : Value → World → Prop) (w : World) : Prop :=
 rd Try.prog (binS .eql 94 false true v_s (.slice none 0 0)) (fun t4 => 
 condS t4
  (Q (.slice none 0 0) w)
  (act Try.prog (Instr.buildSlice 94 0 #[]) (fun t5 w_1 => 
 act Try.prog (Builtin.append_ #[94, 94] 94 #[t5, v_s]) (fun t7 w_2 => 
 Q t7 w_2) w_1) w)) w
theorem eq80 (v_s : Value) (Q : Value → World → Prop) (w : World) : semF Try.prog 80 [v_s] Q w = S80 v_s Q w := by kernel_rfl
theorem ref80 {v_s : Value} {Q : Value → World → Prop} {w : World} (h : S80 v_s Q w) : callS Try.prog 80 #[v_s] Q w :=
  callS_of mix (fun a w => Try.call80 a w) (by kernel_rfl) (by rw [eq80]; exact h)
-- commons/span.Norm$1
def S81 (v_s : Value) (Q : Value → World → Prop) (w : World) : Prop :=
 act Try.prog (Instr.box 23 v_s) (fun t1 w_1 => 
 rd Try.prog (Instr.loadAt 23 t1) (fun t3 => 
 callS Try.prog 27 #[t3] (fun t4 w_2 => 
 pur Try.prog (Op.unary .not t4) fun t5 => 
 Q t5 w_2) w_1) w_1) w
theorem eq81 (v_s : Value) (Q : Value → World → Prop) (w : World) : semF Try.prog 81 [v_s] Q w = S81 v_s Q w := by kernel_rfl
theorem ref81 {v_s : Value} {Q : Value → World → Prop} {w : World} (h : S81 v_s Q w) : callS Try.prog 81 #[v_s] Q w :=
  callS_of mix (fun a w => Try.call81 a w) (by kernel_rfl) (by rw [eq81]; exact h)
-- slices.SortFunc[[]commons/api.Span,commons/api.Span]
def S82 (v_x v_cmp : Value) (Q : Value → World → Prop) (w : World) : Prop :=
 pur Try.prog (Builtin.len_ #[94] 3 #[v_x]) fun t6 => 
 pur Try.prog (convert 3 98 t6) fun t10 => 
 callS Try.prog 65 #[t10] (fun t11 w_1 => 
 callS Try.prog 91 #[v_x, (.int .i64 0), t6, t11, v_cmp] (fun _ w_2 => 
 Q (.tuple #[]) w_2) w_1) w
theorem eq82 (v_x v_cmp : Value) (Q : Value → World → Prop) (w : World) : semF Try.prog 82 [v_x, v_cmp] Q w = S82 v_x v_cmp Q w := by kernel_rfl
theorem ref82 {v_x v_cmp : Value} {Q : Value → World → Prop} {w : World} (h : S82 v_x v_cmp Q w) : callS Try.prog 82 #[v_x, v_cmp] Q w :=
  callS_of mix (fun a w => Try.call82 a w) (by kernel_rfl) (by rw [eq82]; exact h)
-- commons/span.Norm$2
def S83 (v_a v_b : Value) (Q : Value → World → Prop) (w : World) : Prop :=
 act Try.prog (Instr.box 23 v_a) (fun t2 w_1 => 
 act Try.prog (Instr.box 23 v_b) (fun t3 w_2 => 
 ∃ S : World → Prop, S (World.drew w_2) ∧ 
 pur Try.prog (Instr.fieldAt 23 t2 0) fun t5 => 
 hld Try.prog S (Instr.loadAt 3 t5) fun t6 => 
 pur Try.prog (Instr.fieldAt 23 t3 0) fun t7 => 
 hld Try.prog S (Instr.loadAt 3 t7) fun t8 => 
 callS Try.prog 61 #[t6, t8] (fun t9 w_3 => S w_3 ∧ 
 pur Try.prog (Instr.fieldAt 23 t2 1) fun t10 => 
 hld Try.prog S (Instr.loadAt 3 t10) fun t11 => 
 pur Try.prog (Instr.fieldAt 23 t3 1) fun t12 => 
 hld Try.prog S (Instr.loadAt 3 t12) fun t13 => 
 callS Try.prog 61 #[t11, t13] (fun t14 w_4 => S w_4 ∧ 
 act Try.prog (Instr.buildSlice 40 2 #[(0, t9), (1, t14)]) (fun t15 w_5 => S w_5 ∧ 
 callS Try.prog 84 #[t15] (fun t16 w_6 => S w_6 ∧ 
 Q t16 w_6) w_5) w_4) w_3) (World.drew w_2)) w_1) w
theorem eq83 (v_a v_b : Value) (Q : Value → World → Prop) (w : World) : semF Try.prog 83 [v_a, v_b] Q w = S83 v_a v_b Q w := by kernel_rfl
theorem ref83 {v_a v_b : Value} {Q : Value → World → Prop} {w : World} (h : S83 v_a v_b Q w) : callS Try.prog 83 #[v_a, v_b] Q w :=
  callS_of mix (fun a w => Try.call83 a w) (by kernel_rfl) (by rw [eq83]; exact h)
-- cmp.Or[int]
def S84 (v_vals : Value) (Q : Value → World → Prop) (w : World) : Prop :=
 pur Try.prog (Builtin.len_ #[40] 3 #[v_vals]) fun t7 => 
 lp 1 (fun J => fun t8 w_1 => ∀ _j : Fr, 
  pur Try.prog (binS .lss 3 false false t8 t7) fun t9 => 
  condS t9
   (pur Try.prog (Instr.indexAt 40 v_vals t8) fun t10 => 
  rd Try.prog (Instr.loadAt 3 t10) (fun t11 => 
  pur Try.prog (binS .neq 3 false false t11 (.int .i64 0)) fun t14 => 
  condS t14
   (Q t11 w_1)
   (pur Try.prog (binS .add 3 false true t8 (.int .i64 1)) fun t16 => 
  J t16 w_1)) w_1)
   (Q (.int .i64 0) w_1)) [(.int .i64 0)] w
theorem eq84 (v_vals : Value) (Q : Value → World → Prop) (w : World) : semF Try.prog 84 [v_vals] Q w = S84 v_vals Q w := by kernel_rfl
theorem ref84 {v_vals : Value} {Q : Value → World → Prop} {w : World} (h : S84 v_vals Q w) : callS Try.prog 84 #[v_vals] Q w :=
  callS_of mix (fun a w => Try.call84 a w) (by kernel_rfl) (by rw [eq84]; exact h)
-- slices.IndexFunc[[]commons/api.Span,commons/api.Span]
def S90 (v_s v_f : Value) (Q : Value → World → Prop) (w : World) : Prop :=
 pur Try.prog (Builtin.len_ #[94] 3 #[v_s]) fun t7 => 
 lp 1 (fun J => fun t8 w_1 => ∀ _j : Fr, 
  pur Try.prog (binS .lss 3 false false t8 t7) fun t9 => 
  condS t9
   (pur Try.prog (Instr.indexAt 94 v_s t8) fun t14 => 
  rd Try.prog (Instr.loadAt 23 t14) (fun t15 => 
  callF Try.prog v_f #[t15] (fun t16 w_2 => 
  condS t16
   (Q t8 w_2)
   (pur Try.prog (binS .add 3 false true t8 (.int .i64 1)) fun t18 => 
  J t18 w_2)) w_1) w_1)
   (Q (.int .i64 (-1)) w_1)) [(.int .i64 0)] w
theorem eq90 (v_s v_f : Value) (Q : Value → World → Prop) (w : World) : semF Try.prog 90 [v_s, v_f] Q w = S90 v_s v_f Q w := by kernel_rfl
theorem ref90 {v_s v_f : Value} {Q : Value → World → Prop} {w : World} (h : S90 v_s v_f Q w) : callS Try.prog 90 #[v_s, v_f] Q w :=
  callS_of mix (fun a w => Try.call90 a w) (by kernel_rfl) (by rw [eq90]; exact h)
end Go.Proofs.Ytiomanikpboclaa
