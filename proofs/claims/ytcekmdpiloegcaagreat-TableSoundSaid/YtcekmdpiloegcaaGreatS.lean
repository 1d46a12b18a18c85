/- The readings of the functions' code, printed by a program, each held equal to the one that is computed: for all arguments, all worlds.
   Conditions: none. -/
import Derived.Test.YtcekmdpiloegcaaGreatShC
import Derived.Test.YtcekmdpiloegcaaGreatProg
import Derived.KernelRfl
set_option linter.unusedSimpArgs false
set_option linter.unusedVariables false
namespace Go.Proofs.YtcekmdpiloegcaaGreat
open Go.Sh
set_option maxRecDepth 100000
theorem mix : Tryz.prog.follows .mixedOrders = true := by kernel_rfl

-- gosem.cut.init
def S2 (Q : Value → World → Prop) (w : World) : Prop :=
 callS Tryz.prog 1 #[] (fun _ w_1 => 
 Q (.tuple #[]) w_1) w
theorem eq2 (Q : Value → World → Prop) (w : World) : semF Tryz.prog 2 [] Q w = S2 Q w := by kernel_rfl
theorem ref2 {Q : Value → World → Prop} {w : World} (h : S2 Q w) : callS Tryz.prog 2 #[] Q w :=
  callS_of mix (fun a w => Tryz.call2 a w) (by kernel_rfl) (by rw [eq2]; exact h)
-- commons/commonslaw18.TableSound
def S3 (v_nodes v_l : Value) (Q : Value → World → Prop) (w : World) : Prop :=
 pur Tryz.prog (binS .lss 3 false true v_nodes (.int .i64 1)) fun t14 => 
 gd t14 false (fun k w_1 => k v_nodes w_1) (fun t16_1 w_2 => 
 gd t14 false (fun k_1 w_3 => pur Tryz.prog (binS .gtr 3 false true t16_1 (.int .i64 16)) fun t17 => k_1 t17 w_3) (fun t17_1 w_4 => 
 pur Tryz.prog (pickS t14 (.bool true) t17_1) fun t18 => 
 gd t18 false (fun k_2 w_5 => k_2 v_l w_5) (fun t20_1 w_6 => 
 gd t18 false (fun k_3 w_7 => pur Tryz.prog (Builtin.len_ #[22] 3 #[t20_1]) fun t21 => k_3 t21 w_7) (fun t21_1 w_8 => 
 gd t18 false (fun k_4 w_9 => pur Tryz.prog (binS .gtr 3 false true t21_1 (.int .i64 50)) fun t22 => k_4 t22 w_9) (fun t22_1 w_10 => 
 pur Tryz.prog (pickS t18 (.bool true) t22_1) fun t23 => 
 condS t23
  (callS Tryz.prog 4 #[] (fun t24 w_11 => 
  Q t24 w_11) w_10)
  (callS Tryz.prog 5 #[v_nodes] (fun t26 w_12 => 
 rd Tryz.prog (binS .eql 24 false true t26 (.pointer none)) (fun t28 => 
 condS t28
  (Q (.bool false) w_12)
  (lp 1 (fun J => fun v_i w_13 => ∀ _j : Fr, 
  pur Tryz.prog (Builtin.len_ #[22] 3 #[v_l]) fun t31 => 
  pur Tryz.prog (binS .lss 3 false false v_i t31) fun t32 => 
  condS t32
   (pur Tryz.prog (Instr.indexAt 22 v_l v_i) fun t37 => 
  rd Tryz.prog (Instr.loadAt 31 t37) (fun t38 => 
  act Tryz.prog (Instr.alloc 31 true (.tuple #[])) (fun t7 w_14 => 
  act Tryz.prog (thenU (Instr.storeAt 31 t7 t38)) (fun _ w_15 => 
  jn 0 (fun J_1 => 
   pur Tryz.prog (Instr.fieldAt 31 t7 0) fun t39 => 
   rd Tryz.prog (Instr.loadAt 3 t39) (fun t40 => 
   pur Tryz.prog (binS .eql 3 false true t40 (.int .i64 1)) fun t48 => 
   condS t48
    (pur Tryz.prog (Instr.fieldAt 31 t7 1) fun t50 => 
    rd Tryz.prog (Instr.loadAt 3 t50) (fun t51 => 
    pur Tryz.prog (Instr.fieldAt 31 t7 3) fun t52 => 
    rd Tryz.prog (Instr.loadAt 29 t52) (fun t53 => 
    callS Tryz.prog 6 #[t26, t51, t53] (fun _ w_16 => 
    J_1  w_16) w_15) w_15) w_15)
    (pur Tryz.prog (binS .eql 3 false true t40 (.int .i64 2)) fun t56 => 
    condS t56
     (pur Tryz.prog (Instr.fieldAt 31 t7 1) fun t58 => 
     rd Tryz.prog (Instr.loadAt 3 t58) (fun t59 => 
     pur Tryz.prog (Instr.fieldAt 31 t7 3) fun t60 => 
     pur Tryz.prog (Instr.fieldAt 29 t60 0) fun t61 => 
     rd Tryz.prog (Instr.loadAt 27 t61) (fun t62 => 
     pur Tryz.prog (Instr.fieldAt 31 t7 2) fun t63 => 
     rd Tryz.prog (Instr.loadAt 3 t63) (fun t64 => 
     callS Tryz.prog 7 #[t26, t59, t62, t64] (fun _ w_17 => 
     J_1  w_17) w_15) w_15) w_15) w_15)
     (pur Tryz.prog (binS .eql 3 false true t40 (.int .i64 3)) fun t67 => 
     condS t67
      (pur Tryz.prog (Instr.fieldAt 31 t7 2) fun t69 => 
      rd Tryz.prog (Instr.loadAt 3 t69) (fun t70 => 
      callS Tryz.prog 8 #[t26, t70] (fun _ w_18 => 
      J_1  w_18) w_15) w_15)
      (pur Tryz.prog (binS .eql 3 false true t40 (.int .i64 4)) fun t73 => 
      condS t73
       (pur Tryz.prog (Instr.fieldAt 31 t7 1) fun t75 => 
       rd Tryz.prog (Instr.loadAt 3 t75) (fun t76 => 
       callS Tryz.prog 9 #[t26, t76] (fun _ w_19 => 
       J_1  w_19) w_15) w_15)
       (pur Tryz.prog (Instr.fieldAt 31 t7 1) fun t42 => 
       rd Tryz.prog (Instr.loadAt 3 t42) (fun t43 => 
       pur Tryz.prog (Instr.fieldAt 31 t7 3) fun t44 => 
       rd Tryz.prog (Instr.loadAt 29 t44) (fun t45 => 
       callS Tryz.prog 10 #[t26, t43, t45] (fun _ w_20 => 
       J_1  w_20) w_15) w_15) w_15))))) w_15)
  (fun  w_21 => ∀ _j : Fr, 
   callS Tryz.prog 11 #[t26] (fun t79 w_22 => 
   pur Tryz.prog (Op.unary .not t79) fun t80 => 
   gd t80 false (fun k_5 w_23 => k_5 t26 w_23) (fun t82_1 w_24 => 
   gd t80 false (fun k_6 w_25 => k_6 v_nodes w_25) (fun t83_1 w_26 => 
   gd t80 false (fun k_7 w_27 => callS Tryz.prog 12 #[t82_1, t83_1] (fun t84 w_28 => k_7 t84 w_28) w_27) (fun t84_1 w_29 => 
   gd t80 false (fun k_8 w_30 => pur Tryz.prog (Op.unary .not t84_1) fun t85 => k_8 t85 w_30) (fun t85_1 w_31 => 
   pur Tryz.prog (pickS t80 (.bool true) t85_1) fun t86 => 
   condS t86
    (Q (.bool false) w_31)
    (pur Tryz.prog (binS .add 3 false true v_i (.int .i64 1)) fun t34 => 
  J t34 w_31)) w_29) w_26) w_24) w_22) w_21)) w_14) w_13) w_13)
   (lp 1 (fun J_2 => fun v_k w_32 => ∀ _j : Fr, 
  pur Tryz.prog (binS .lss 3 false true v_k (.int .i64 1000)) fun t88 => 
  gd t88 true (fun k_9 w_33 => k_9 t26 w_33) (fun t90_1 w_34 => 
  gd t88 true (fun k_10 w_35 => callS Tryz.prog 13 #[t90_1] (fun t91 w_36 => k_10 t91 w_36) w_35) (fun t91_1 w_37 => 
  gd t88 true (fun k_11 w_38 => pur Tryz.prog (Builtin.len_ #[35] 3 #[t91_1]) fun t92 => k_11 t92 w_38) (fun t92_1 w_39 => 
  gd t88 true (fun k_12 w_40 => pur Tryz.prog (binS .gtr 3 false true t92_1 (.int .i64 0)) fun t93 => k_12 t93 w_40) (fun t93_1 w_41 => 
  pur Tryz.prog (pickS t88 t93_1 (.bool false)) fun t94 => 
  condS t94
   (callS Tryz.prog 14 #[t26] (fun t98 w_42 => 
  pur Tryz.prog (Builtin.len_ #[44] 3 #[t98]) fun t100 => 
  pur Tryz.prog (binS .eql 3 false true t100 (.int .i64 0)) fun t101 => 
  condS t101
   (Q (.bool false) w_42)
   (lp 1 (fun J_3 => fun v_i_1 w_43 => ∀ _j : Fr, 
   pur Tryz.prog (Builtin.len_ #[44] 3 #[t98]) fun t104 => 
   pur Tryz.prog (binS .lss 3 false false v_i_1 t104) fun t105 => 
   condS t105
    (pur Tryz.prog (Instr.indexAt 44 t98 v_i_1) fun t112 => 
   pur Tryz.prog (Instr.fieldAt 47 t112 0) fun t113 => 
   rd Tryz.prog (Instr.loadAt 3 t113) (fun t114 => 
   pur Tryz.prog (Instr.indexAt 44 t98 v_i_1) fun t117 => 
   pur Tryz.prog (Instr.fieldAt 47 t117 1) fun t118 => 
   pur Tryz.prog (Instr.fieldAt 29 t118 0) fun t119 => 
   rd Tryz.prog (Instr.loadAt 27 t119) (fun t120 => 
   pur Tryz.prog (Instr.indexAt 44 t98 v_i_1) fun t123 => 
   pur Tryz.prog (Instr.fieldAt 47 t123 1) fun t124 => 
   pur Tryz.prog (Instr.fieldAt 29 t124 1) fun t125 => 
   rd Tryz.prog (Instr.loadAt 3 t125) (fun t126 => 
   callS Tryz.prog 7 #[t26, t114, t120, t126] (fun t127 w_44 => 
   pur Tryz.prog (Instr.extract t127 0) fun _ => 
   pur Tryz.prog (Instr.extract t127 1) fun t129 => 
   pur Tryz.prog (binS .neq 32 false true t129 (.int .i64 0)) fun t131 => 
   condS t131
    (Q (.bool false) w_44)
    (pur Tryz.prog (binS .add 3 false true v_i_1 (.int .i64 1)) fun t107 => 
   J_3 t107 w_44)) (World.drew w_43)) (World.drew w_43)) (World.drew w_43)) (World.drew w_43))
    (pur Tryz.prog (binS .add 3 false true v_k (.int .i64 1)) fun t96 => 
  J_2 t96 w_43)) [(.int .i64 0)] w_42)) w_41)
   (callS Tryz.prog 4 #[] (fun t132 w_45 => 
 gd t132 true (fun k_13 w_46 => k_13 t26 w_46) (fun t134_1 w_47 => 
 gd t132 true (fun k_14 w_48 => callS Tryz.prog 13 #[t134_1] (fun t135 w_49 => k_14 t135 w_49) w_48) (fun t135_1 w_50 => 
 gd t132 true (fun k_15 w_51 => pur Tryz.prog (Builtin.len_ #[35] 3 #[t135_1]) fun t136 => k_15 t136 w_51) (fun t136_1 w_52 => 
 gd t132 true (fun k_16 w_53 => pur Tryz.prog (binS .eql 3 false true t136_1 (.int .i64 0)) fun t137 => k_16 t137 w_53) (fun t137_1 w_54 => 
 pur Tryz.prog (pickS t132 t137_1 (.bool false)) fun t138 => 
 gd t138 true (fun k_17 w_55 => k_17 t26 w_55) (fun t140_1 w_56 => 
 gd t138 true (fun k_18 w_57 => k_18 v_nodes w_57) (fun t141_1 w_58 => 
 gd t138 true (fun k_19 w_59 => callS Tryz.prog 12 #[t140_1, t141_1] (fun t142 w_60 => k_19 t142 w_60) w_59) (fun t142_1 w_61 => 
 pur Tryz.prog (pickS t138 t142_1 (.bool false)) fun t143 => 
 Q t143 w_61) w_58) w_56) w_54) w_52) w_50) w_47) w_45) w_41)) w_39) w_37) w_34) w_32) [(.int .i64 0)] w_13)) [(.int .i64 0)] w_12)) w_12) w_10)) w_8) w_6) w_4) w_2) w
theorem eq3 (v_nodes v_l : Value) (Q : Value → World → Prop) (w : World) : semF Tryz.prog 3 [v_nodes, v_l] Q w = S3 v_nodes v_l Q w := by kernel_rfl
theorem ref3 {v_nodes v_l : Value} {Q : Value → World → Prop} {w : World} (h : S3 v_nodes v_l Q w) : callS Tryz.prog 3 #[v_nodes, v_l] Q w :=
  callS_of mix (fun a w => Tryz.call3 a w) (by kernel_rfl) (by rw [eq3]; exact h)
-- commons/commonslaw18.alive
def S4 (Q : Value → World → Prop) (w : World) : Prop :=
 callS Tryz.prog 5 #[(.int .i64 2)] (fun t11 w_1 => 
 rd Tryz.prog (binS .eql 24 false true t11 (.pointer none)) (fun t13 => 
 condS t13
  (Q (.bool false) w_1)
  (pur Tryz.prog (Instr.build 27 #[(1, (.int .i64 9))]) fun t16 => 
 pur Tryz.prog (Instr.build 29 #[(0, t16), (1, (.int .i64 2))]) fun t17 => 
 callS Tryz.prog 6 #[t11, (.int .i64 1), t17] (fun t18 w_2 => 
 pur Tryz.prog (Instr.extract t18 0) fun _ => 
 pur Tryz.prog (Instr.extract t18 1) fun t20 => 
 pur Tryz.prog (Instr.extract t18 2) fun t21 => 
 pur Tryz.prog (Instr.build 27 #[(0, (.int .i64 3)), (1, (.int .i64 5))]) fun t24 => 
 pur Tryz.prog (Instr.build 29 #[(0, t24), (1, (.int .i64 1))]) fun t25 => 
 callS Tryz.prog 6 #[t11, (.int .i64 2), t25] (fun t26 w_3 => 
 pur Tryz.prog (Instr.extract t26 0) fun t27 => 
 pur Tryz.prog (Instr.extract t26 1) fun t28 => 
 pur Tryz.prog (Instr.extract t26 2) fun t29 => 
 callS Tryz.prog 14 #[t11] (fun t31 w_4 => 
 pur Tryz.prog (Instr.build 27 #[(0, (.int .i64 3)), (1, (.int .i64 5))]) fun t34 => 
 callS Tryz.prog 7 #[t11, (.int .i64 1), t34, (.int .i64 1)] (fun t35 w_5 => 
 pur Tryz.prog (Instr.extract t35 0) fun t36 => 
 pur Tryz.prog (Instr.extract t35 1) fun t37 => 
 gd t20 true (fun k w_6 => k t21 w_6) (fun t40_1 w_7 => 
 gd t20 true (fun k_1 w_8 => pur Tryz.prog (binS .eql 32 false true t40_1 (.int .i64 0)) fun t41 => k_1 t41 w_8) (fun t41_1 w_9 => 
 pur Tryz.prog (pickS t20 t41_1 (.bool false)) fun t42 => 
 gd t42 true (fun k_2 w_10 => k_2 t27 w_10) (fun t44_1 w_11 => 
 gd t42 true (fun k_3 w_12 => pur Tryz.prog (binS .eql 3 false true t44_1 (.int .i64 1)) fun t45 => k_3 t45 w_12) (fun t45_1 w_13 => 
 pur Tryz.prog (pickS t42 t45_1 (.bool false)) fun t46 => 
 gd t46 true (fun k_4 w_14 => k_4 t28 w_14) (fun t48_1 w_15 => 
 gd t46 true (fun k_5 w_16 => pur Tryz.prog (Op.unary .not t48_1) fun t49 => k_5 t49 w_16) (fun t49_1 w_17 => 
 pur Tryz.prog (pickS t46 t49_1 (.bool false)) fun t50 => 
 gd t50 true (fun k_6 w_18 => k_6 t29 w_18) (fun t52_1 w_19 => 
 gd t50 true (fun k_7 w_20 => pur Tryz.prog (binS .eql 32 false true t52_1 (.int .i64 0)) fun t53 => k_7 t53 w_20) (fun t53_1 w_21 => 
 pur Tryz.prog (pickS t50 t53_1 (.bool false)) fun t54 => 
 gd t54 true (fun k_8 w_22 => k_8 t31 w_22) (fun t56_1 w_23 => 
 gd t54 true (fun k_9 w_24 => pur Tryz.prog (Builtin.len_ #[44] 3 #[t56_1]) fun t57 => k_9 t57 w_24) (fun t57_1 w_25 => 
 gd t54 true (fun k_10 w_26 => pur Tryz.prog (binS .eql 3 false true t57_1 (.int .i64 1)) fun t58 => k_10 t58 w_26) (fun t58_1 w_27 => 
 pur Tryz.prog (pickS t54 t58_1 (.bool false)) fun t59 => 
 gd t59 true (fun k_11 w_28 => k_11 t31 w_28) (fun t61_1 w_29 => 
 gd t59 true (fun k_12 w_30 => pur Tryz.prog (Instr.indexAt 44 t61_1 (.int .i64 0)) fun t62 => k_12 t62 w_30) (fun t62_1 w_31 => 
 gd t59 true (fun k_13 w_32 => rd Tryz.prog (Instr.loadAt 47 t62_1) (fun t63 => k_13 t63 w_32) w_32) (fun t63_1 w_33 => 
 gd t59 true (fun k_14 w_34 => pur Tryz.prog (Instr.build 27 #[(0, (.int .i64 3)), (1, (.int .i64 5))]) fun t64 => k_14 t64 w_34) (fun t64_1 w_35 => 
 gd t59 true (fun k_15 w_36 => pur Tryz.prog (Instr.build 29 #[(0, t64_1), (1, (.int .i64 1))]) fun t65 => k_15 t65 w_36) (fun t65_1 w_37 => 
 gd t59 true (fun k_16 w_38 => pur Tryz.prog (Instr.build 47 #[(0, (.int .i64 1)), (1, t65_1)]) fun t66 => k_16 t66 w_38) (fun t66_1 w_39 => 
 gd t59 true (fun k_17 w_40 => rd Tryz.prog (binS .eql 47 false false t63_1 t66_1) (fun t67 => k_17 t67 w_40) w_40) (fun t67_1 w_41 => 
 pur Tryz.prog (pickS t59 t67_1 (.bool false)) fun t68 => 
 gd t68 true (fun k_18 w_42 => k_18 t37 w_42) (fun t70_1 w_43 => 
 gd t68 true (fun k_19 w_44 => pur Tryz.prog (binS .eql 32 false true t70_1 (.int .i64 0)) fun t71 => k_19 t71 w_44) (fun t71_1 w_45 => 
 pur Tryz.prog (pickS t68 t71_1 (.bool false)) fun t72 => 
 gd t72 true (fun k_20 w_46 => k_20 t36 w_46) (fun t74_1 w_47 => 
 gd t72 true (fun k_21 w_48 => pur Tryz.prog (Builtin.len_ #[35] 3 #[t74_1]) fun t75 => k_21 t75 w_48) (fun t75_1 w_49 => 
 gd t72 true (fun k_22 w_50 => pur Tryz.prog (binS .eql 3 false true t75_1 (.int .i64 1)) fun t76 => k_22 t76 w_50) (fun t76_1 w_51 => 
 pur Tryz.prog (pickS t72 t76_1 (.bool false)) fun t77 => 
 gd t77 true (fun k_23 w_52 => k_23 t36 w_52) (fun t79_1 w_53 => 
 gd t77 true (fun k_24 w_54 => pur Tryz.prog (Instr.indexAt 35 t79_1 (.int .i64 0)) fun t80 => k_24 t80 w_54) (fun t80_1 w_55 => 
 gd t77 true (fun k_25 w_56 => pur Tryz.prog (Instr.fieldAt 50 t80_1 1) fun t81 => k_25 t81 w_56) (fun t81_1 w_57 => 
 gd t77 true (fun k_26 w_58 => rd Tryz.prog (Instr.loadAt 3 t81_1) (fun t82 => k_26 t82 w_58) w_58) (fun t82_1 w_59 => 
 gd t77 true (fun k_27 w_60 => pur Tryz.prog (binS .eql 3 false true t82_1 (.int .i64 2)) fun t83 => k_27 t83 w_60) (fun t83_1 w_61 => 
 pur Tryz.prog (pickS t77 t83_1 (.bool false)) fun t84 => 
 gd t84 true (fun k_28 w_62 => k_28 t11 w_62) (fun t86_1 w_63 => 
 gd t84 true (fun k_29 w_64 => callS Tryz.prog 11 #[t86_1] (fun t87 w_65 => k_29 t87 w_65) w_64) (fun t87_1 w_66 => 
 pur Tryz.prog (pickS t84 t87_1 (.bool false)) fun t88 => 
 Q t88 w_66) w_63) w_61) w_59) w_57) w_55) w_53) w_51) w_49) w_47) w_45) w_43) w_41) w_39) w_37) w_35) w_33) w_31) w_29) w_27) w_25) w_23) w_21) w_19) w_17) w_15) w_13) w_11) w_9) w_7) w_5) w_4) w_3) w_2) w_1)) w_1) w
theorem eq4 (Q : Value → World → Prop) (w : World) : semF Tryz.prog 4 [] Q w = S4 Q w := by kernel_rfl
theorem ref4 {Q : Value → World → Prop} {w : World} (h : S4 Q w) : callS Tryz.prog 4 #[] Q w :=
  callS_of mix (fun a w => Tryz.call4 a w) (by kernel_rfl) (by rw [eq4]; exact h)
-- commons/ltab.New
def S5 (v_nodes : Value) (Q : Value → World → Prop) (w : World) : Prop :=
 pur Tryz.prog (binS .lss 3 false true v_nodes (.int .i64 1)) fun t6 => 
 gd t6 false (fun k w_1 => k v_nodes w_1) (fun t8_1 w_2 => 
 gd t6 false (fun k_1 w_3 => pur Tryz.prog (binS .gtr 3 false true t8_1 (.int .i64 16)) fun t9 => k_1 t9 w_3) (fun t9_1 w_4 => 
 pur Tryz.prog (pickS t6 (.bool true) t9_1) fun t10 => 
 condS t10
  (Q (.pointer none) w_4)
  (pur Tryz.prog (Instr.build 54 #[(0, v_nodes)]) fun t12 => 
 act Tryz.prog (Instr.box 54 t12) (fun t13 w_5 => 
 lp 1 (fun J => fun t14 w_6 => ∀ _j : Fr, 
  pur Tryz.prog (binS .lss 3 false true t14 (.int .i64 17)) fun t15 => 
  condS t15
   (callS Tryz.prog 15 #[] (fun t19 w_7 => 
  pur Tryz.prog (nilV t13) fun t20 => 
  pur Tryz.prog (Instr.fieldAt 54 t20 1) fun t21 => 
  pur Tryz.prog (Instr.indexAt 52 t21 t14) fun t22 => 
  act Tryz.prog (thenU (Instr.storeAt 51 t22 t19)) (fun _ w_8 => 
  pur Tryz.prog (binS .add 3 false true t14 (.int .i64 1)) fun t23 => 
  J t23 w_8) w_7) (World.drew w_6))
   (Q t13 w_6)) [(.int .i64 0)] w_5) w_4)) w_2) w
theorem eq5 (v_nodes : Value) (Q : Value → World → Prop) (w : World) : semF Tryz.prog 5 [v_nodes] Q w = S5 v_nodes Q w := by kernel_rfl
theorem ref5 {v_nodes : Value} {Q : Value → World → Prop} {w : World} (h : S5 v_nodes Q w) : callS Tryz.prog 5 #[v_nodes] Q w :=
  callS_of mix (fun a w => Tryz.call5 a w) (by kernel_rfl) (by rw [eq5]; exact h)
-- (*commons/ltab.Table).Ask
def S6 (v_t v_node v_l : Value) (Q : Value → World → Prop) (w : World) : Prop :=
 act Tryz.prog (Instr.box 29 v_l) (fun t5 w_1 => 
 callS Tryz.prog 16 #[v_t, v_node] (fun t12 w_2 => 
 pur Tryz.prog (Op.unary .not t12) fun t13 => 
 gd t13 false (fun k w_3 => rd Tryz.prog (Instr.loadAt 29 t5) (fun t15 => k t15 w_3) w_3) (fun t15_1 w_4 => 
 gd t13 false (fun k_1 w_5 => callS Tryz.prog 17 #[t15_1] (fun t16 w_6 => k_1 t16 w_6) w_5) (fun t16_1 w_7 => 
 gd t13 false (fun k_2 w_8 => pur Tryz.prog (Op.unary .not t16_1) fun t17 => k_2 t17 w_8) (fun t17_1 w_9 => 
 pur Tryz.prog (pickS t13 (.bool true) t17_1) fun t18 => 
 condS t18
  (Q (.tuple #[(.int .i64 0), (.bool false), (.int .i64 1)]) w_9)
  (∃ S : World → Prop, S (World.drew w_9) ∧ 
  pur Tryz.prog (nilV v_t) fun t22 => 
  pur Tryz.prog (Instr.fieldAt 54 t22 1) fun t23 => 
  pur Tryz.prog (Instr.indexAt 52 t23 v_node) fun t24 => 
  hld Tryz.prog S (Instr.loadAt 51 t24) fun t25 => 
  hld Tryz.prog S (Instr.loadAt 29 t5) fun t26 => 
  act Tryz.prog (Instr.buildSlice 69 1 #[(0, t26)]) (fun t27 w_10 => S w_10 ∧ 
  callS Tryz.prog 18 #[t25, t27] (fun t28 w_11 => S w_11 ∧ 
  condS t28
   (Q (.tuple #[(.int .i64 0), (.bool true), (.int .i64 0)]) w_11)
   (rd Tryz.prog (Instr.loadAt 29 t5) (fun t32 => 
   callS Tryz.prog 19 #[v_t, v_node, t32] (fun t33 w_12 => 
   condS t33
    (pur Tryz.prog (nilV v_t) fun t36 => 
    pur Tryz.prog (Instr.fieldAt 54 t36 1) fun t37 => 
    pur Tryz.prog (Instr.indexAt 52 t37 v_node) fun t38 => 
    rd Tryz.prog (Instr.loadAt 51 t38) (fun t39 => 
    rd Tryz.prog (Instr.loadAt 29 t5) (fun t40 => 
    callS Tryz.prog 20 #[t39, t40] (fun _ w_13 => 
    Q (.tuple #[(.int .i64 0), (.bool true), (.int .i64 0)]) w_13) (World.drew w_12)) (World.drew w_12)) (World.drew w_12))
    (rd Tryz.prog (Instr.loadAt 29 t5) (fun t45 => 
    callS Tryz.prog 21 #[v_t, v_node, t45] (fun t46 w_14 => 
    condS t46
     (Q (.tuple #[(.int .i64 0), (.bool false), (.int .i64 33)]) w_14)
     (pur Tryz.prog (nilV v_t) fun t49 => 
     pur Tryz.prog (Instr.fieldAt 54 t49 2) fun t50 => 
     rd Tryz.prog (Instr.loadAt 35 t50) (fun t51 => 
     pur Tryz.prog (Builtin.len_ #[35] 3 #[t51]) fun t52 => 
     pur Tryz.prog (binS .geq 3 false true t52 (.int .i64 1000)) fun t53 => 
     condS t53
      (Q (.tuple #[(.int .i64 0), (.bool false), (.int .i64 10)]) w_14)
      (pur Tryz.prog (nilV v_t) fun t55 => 
 pur Tryz.prog (Instr.fieldAt 54 t55 3) fun t56 => 
 rd Tryz.prog (Instr.loadAt 3 t56) (fun t57 => 
 pur Tryz.prog (binS .add 3 false true t57 (.int .i64 1)) fun t58 => 
 pur Tryz.prog (nilV v_t) fun t59 => 
 pur Tryz.prog (Instr.fieldAt 54 t59 3) fun t60 => 
 act Tryz.prog (thenU (Instr.storeAt 3 t60 t58)) (fun _ w_15 => 
 jn 0 (fun J => 
  pur Tryz.prog (nilV v_t) fun t63 => 
  pur Tryz.prog (Instr.fieldAt 54 t63 2) fun t64 => 
  pur Tryz.prog (nilV v_t) fun t67 => 
  pur Tryz.prog (Instr.fieldAt 54 t67 3) fun t68 => 
  rd Tryz.prog (Instr.loadAt 3 t68) (fun t69 => 
  rd Tryz.prog (Instr.loadAt 29 t5) (fun t71 => 
  pur Tryz.prog (Instr.build 50 #[(0, t69), (1, v_node), (2, t71)]) fun t72 => 
  (rd Tryz.prog (Instr.loadAt 35 t64) (fun t65 => 
  act Tryz.prog (Instr.buildSlice 35 1 #[(0, t72)]) (fun t73 w_16 => 
  act Tryz.prog (Builtin.append_ #[35, 35] 35 #[t65, t73]) (fun t74 w_17 => 
  pur Tryz.prog (nilV v_t) fun t75 => 
  pur Tryz.prog (Instr.fieldAt 54 t75 2) fun t76 => 
  act Tryz.prog (thenU (Instr.storeAt 35 t76 t74)) (fun _ w_18 => 
  J  w_18) w_17) w_16) (World.drew w_15)) (World.drew w_15)
  ) ∧ (act Tryz.prog (Instr.buildSlice 35 1 #[(0, t72)]) (fun t73_1 w_19 => 
  rd Tryz.prog (Instr.loadAt 35 t64) (fun t65_1 => 
  act Tryz.prog (Builtin.append_ #[35, 35] 35 #[t65_1, t73_1]) (fun t74_1 w_20 => 
  pur Tryz.prog (nilV v_t) fun t75_1 => 
  pur Tryz.prog (Instr.fieldAt 54 t75_1 2) fun t76_1 => 
  act Tryz.prog (thenU (Instr.storeAt 35 t76_1 t74_1)) (fun _ w_21 => 
  J  w_21) w_20) w_19) w_19) (World.drew w_15))) (World.drew w_15)) (World.drew w_15))
 (fun  w_22 => ∀ _j : Fr, 
  pur Tryz.prog (nilV v_t) fun t78 => 
 pur Tryz.prog (Instr.fieldAt 54 t78 3) fun t79 => 
 rd Tryz.prog (Instr.loadAt 3 t79) (fun t80 => 
 Q (.tuple #[t80, (.bool false), (.int .i64 0)]) w_22) w_22)) w_14) w_14)) w_14)) w_12) w_12)) w_11) w_11)) w_10) (World.drew w_9))) w_7) w_4) w_2) w_1) w
theorem eq6 (v_t v_node v_l : Value) (Q : Value → World → Prop) (w : World) : semF Tryz.prog 6 [v_t, v_node, v_l] Q w = S6 v_t v_node v_l Q w := by kernel_rfl
theorem ref6 {v_t v_node v_l : Value} {Q : Value → World → Prop} {w : World} (h : S6 v_t v_node v_l Q w) : callS Tryz.prog 6 #[v_t, v_node, v_l] Q w :=
  callS_of mix (fun a w => Tryz.call6 a w) (by kernel_rfl) (by rw [eq6]; exact h)
-- (*commons/ltab.Table).Release
def S7 (v_t v_node v_s v_keep : Value) (Q : Value → World → Prop) (w : World) : Prop :=
 act Tryz.prog (Instr.box 27 v_s) (fun t6 w_1 => 
 callS Tryz.prog 16 #[v_t, v_node] (fun t14 w_2 => 
 pur Tryz.prog (Op.unary .not t14) fun t15 => 
 gd t15 false (fun k w_3 => rd Tryz.prog (Instr.loadAt 27 t6) (fun t17 => k t17 w_3) w_3) (fun t17_1 w_4 => 
 gd t15 false (fun k_1 w_5 => callS Tryz.prog 22 #[t17_1] (fun t18 w_6 => k_1 t18 w_6) w_5) (fun t18_1 w_7 => 
 gd t15 false (fun k_2 w_8 => pur Tryz.prog (Op.unary .not t18_1) fun t19 => k_2 t19 w_8) (fun t19_1 w_9 => 
 pur Tryz.prog (pickS t15 (.bool true) t19_1) fun t20 => 
 gd t20 false (fun k_3 w_10 => k_3 v_keep w_10) (fun t22_1 w_11 => 
 gd t20 false (fun k_4 w_12 => pur Tryz.prog (binS .neq 3 false true t22_1 (.int .i64 0)) fun t23 => k_4 t23 w_12) (fun t23_1 w_13 => 
 gd t20 false (fun k_5 w_14 => k_5 t23_1 w_14) (fun t24_1 w_15 => 
 gd t24_1 true (fun k_6 w_16 => k_6 v_keep w_16) (fun t25_1 w_17 => 
 gd t24_1 true (fun k_7 w_18 => pur Tryz.prog (binS .neq 3 false true t25_1 (.int .i64 1)) fun t26 => k_7 t26 w_18) (fun t26_1 w_19 => 
 gd t20 false (fun k_8 w_20 => pur Tryz.prog (pickS t24_1 t26_1 (.bool false)) fun t27 => k_8 t27 w_20) (fun t27_1 w_21 => 
 pur Tryz.prog (pickS t20 (.bool true) t27_1) fun t28 => 
 condS t28
  (Q (.tuple #[(.slice none 0 0), (.int .i64 1)]) w_21)
  (pur Tryz.prog (nilV v_t) fun t31 => 
 pur Tryz.prog (Instr.fieldAt 54 t31 1) fun t32 => 
 pur Tryz.prog (Instr.indexAt 52 t32 v_node) fun t33 => 
 rd Tryz.prog (Instr.loadAt 51 t33) (fun t34 => 
 rd Tryz.prog (Instr.loadAt 27 t6) (fun t35 => 
 callS Tryz.prog 23 #[t34, t35] (fun t36 w_22 => 
 pur Tryz.prog (Builtin.len_ #[62] 3 #[t36]) fun t37 => 
 lp 1 (fun J => fun t38 w_23 => ∀ _j : Fr, 
  pur Tryz.prog (binS .lss 3 false false t38 t37) fun t39 => 
  condS t39
   (jn 0 (fun J_1 => 
   pur Tryz.prog (Instr.indexAt 62 t36 t38) fun t40 => 
   rd Tryz.prog (Instr.loadAt 65 t40) (fun t41 => 
   act Tryz.prog (Instr.alloc 65 true (.tuple #[])) (fun t11 w_24 => 
   act Tryz.prog (thenU (Instr.storeAt 65 t11 t41)) (fun _ w_25 => 
   pur Tryz.prog (Instr.fieldAt 65 t11 1) fun t53 => 
   rd Tryz.prog (Instr.loadAt 3 t53) (fun t54 => 
   pur Tryz.prog (binS .leq 3 false false t54 v_keep) fun t56 => 
   condS t56
    (J_1  w_25)
    (pur Tryz.prog (binS .eql 3 false true v_keep (.int .i64 0)) fun t59 => 
    condS t59
     (pur Tryz.prog (nilV v_t) fun t62 => 
     pur Tryz.prog (Instr.fieldAt 54 t62 1) fun t63 => 
     pur Tryz.prog (Instr.indexAt 52 t63 v_node) fun t64 => 
     rd Tryz.prog (Instr.loadAt 51 t64) (fun t65 => 
     pur Tryz.prog (Instr.fieldAt 65 t11 0) fun t66 => 
     rd Tryz.prog (Instr.loadAt 27 t66) (fun t67 => 
     callS Tryz.prog 24 #[t65, t67] (fun _ w_26 => 
     J_1  w_26) (World.drew w_25)) (World.drew w_25)) (World.drew w_25))
     (pur Tryz.prog (nilV v_t) fun t44 => 
     pur Tryz.prog (Instr.fieldAt 54 t44 1) fun t45 => 
     pur Tryz.prog (Instr.indexAt 52 t45 v_node) fun t46 => 
     rd Tryz.prog (Instr.loadAt 51 t46) (fun t47 => 
     pur Tryz.prog (Instr.fieldAt 65 t11 0) fun t48 => 
     rd Tryz.prog (Instr.loadAt 27 t48) (fun t49 => 
     callS Tryz.prog 25 #[t47, t49, v_keep] (fun _ w_27 => 
     J_1  w_27) (World.drew w_25)) (World.drew w_25)) (World.drew w_25)))) w_25) w_24) w_23) w_23)
  (fun  w_28 => ∀ _j : Fr, 
   pur Tryz.prog (binS .add 3 false true t38 (.int .i64 1)) fun t69 => 
   J t69 w_28))
   (callS Tryz.prog 26 #[v_t] (fun t71 w_29 => 
 Q (.tuple #[t71, (.int .i64 0)]) w_29) w_23)) [(.int .i64 0)] w_22) (World.drew w_21)) (World.drew w_21)) (World.drew w_21))) w_19) w_17) w_15) w_13) w_11) w_9) w_7) w_4) w_2) w_1) w
theorem eq7 (v_t v_node v_s v_keep : Value) (Q : Value → World → Prop) (w : World) : semF Tryz.prog 7 [v_t, v_node, v_s, v_keep] Q w = S7 v_t v_node v_s v_keep Q w := by kernel_rfl
theorem ref7 {v_t v_node v_s v_keep : Value} {Q : Value → World → Prop} {w : World} (h : S7 v_t v_node v_s v_keep Q w) : callS Tryz.prog 7 #[v_t, v_node, v_s, v_keep] Q w :=
  callS_of mix (fun a w => Tryz.call7 a w) (by kernel_rfl) (by rw [eq7]; exact h)
-- (*commons/ltab.Table).Cancel
def S8 (v_t v_id : Value) (Q : Value → World → Prop) (w : World) : Prop :=
 act Tryz.prog (Instr.box 3 v_id) (fun t3 w_1 => 
 rd Tryz.prog (binS .eql 24 false true v_t (.pointer none)) (fun t8 => 
 condS t8
  (Q (.tuple #[(.slice none 0 0), (.bool false)]) w_1)
  (pur Tryz.prog (nilV v_t) fun t10 => 
 pur Tryz.prog (Instr.fieldAt 54 t10 2) fun t11 => 
 rd Tryz.prog (Instr.loadAt 35 t11) (fun t12 => 
 pur Tryz.prog (Builtin.len_ #[35] 3 #[t12]) fun t13 => 
 pur Tryz.prog (nilV v_t) fun t16 => 
 pur Tryz.prog (Instr.fieldAt 54 t16 2) fun t17 => 
 rd Tryz.prog (Instr.loadAt 35 t17) (fun t18 => 
 pur Tryz.prog (pure (.func (.func 28) #[] #[t3])) fun t19 => 
 callS Tryz.prog 27 #[t18, t19] (fun t20 w_2 => 
 pur Tryz.prog (nilV v_t) fun t21 => 
 pur Tryz.prog (Instr.fieldAt 54 t21 2) fun t22 => 
 act Tryz.prog (thenU (Instr.storeAt 35 t22 t20)) (fun _ w_3 => 
 pur Tryz.prog (nilV v_t) fun t24 => 
 pur Tryz.prog (Instr.fieldAt 54 t24 2) fun t25 => 
 rd Tryz.prog (Instr.loadAt 35 t25) (fun t26 => 
 pur Tryz.prog (Builtin.len_ #[35] 3 #[t26]) fun t27 => 
 pur Tryz.prog (binS .eql 3 false false t27 t13) fun t29 => 
 condS t29
  (Q (.tuple #[(.slice none 0 0), (.bool false)]) w_3)
  (callS Tryz.prog 26 #[v_t] (fun t31 w_4 => 
 Q (.tuple #[t31, (.bool true)]) w_4) w_3)) w_3) w_2) w_1) w_1) w_1)) w_1) w
theorem eq8 (v_t v_id : Value) (Q : Value → World → Prop) (w : World) : semF Tryz.prog 8 [v_t, v_id] Q w = S8 v_t v_id Q w := by kernel_rfl
theorem ref8 {v_t v_id : Value} {Q : Value → World → Prop} {w : World} (h : S8 v_t v_id Q w) : callS Tryz.prog 8 #[v_t, v_id] Q w :=
  callS_of mix (fun a w => Tryz.call8 a w) (by kernel_rfl) (by rw [eq8]; exact h)
-- (*commons/ltab.Table).Drop
def S9 (v_t v_node : Value) (Q : Value → World → Prop) (w : World) : Prop :=
 act Tryz.prog (Instr.box 3 v_node) (fun t3 w_1 => 
 rd Tryz.prog (Instr.loadAt 3 t3) (fun t6 => 
 callS Tryz.prog 16 #[v_t, t6] (fun t7 w_2 => 
 pur Tryz.prog (Op.unary .not t7) fun t8 => 
 condS t8
  (Q (.slice none 0 0) w_2)
  (jn 0 (fun J => 
  pur Tryz.prog (nilV v_t) fun t12 => 
  pur Tryz.prog (Instr.fieldAt 54 t12 1) fun t13 => 
  (rd Tryz.prog (Instr.loadAt 3 t3) (fun t10 => 
  callS Tryz.prog 15 #[] (fun t11 w_3 => 
  pur Tryz.prog (Instr.indexAt 52 t13 t10) fun t14 => 
  act Tryz.prog (thenU (Instr.storeAt 51 t14 t11)) (fun _ w_4 => 
  J  w_4) w_3) (World.drew w_2)) (World.drew w_2)
  ) ∧ (callS Tryz.prog 15 #[] (fun t11_1 w_5 => 
  rd Tryz.prog (Instr.loadAt 3 t3) (fun t10_1 => 
  pur Tryz.prog (Instr.indexAt 52 t13 t10_1) fun t14_1 => 
  act Tryz.prog (thenU (Instr.storeAt 51 t14_1 t11_1)) (fun _ w_6 => 
  J  w_6) w_5) w_5) (World.drew w_2)))
 (fun  w_7 => ∀ _j : Fr, 
  pur Tryz.prog (nilV v_t) fun t17 => 
 pur Tryz.prog (Instr.fieldAt 54 t17 2) fun t18 => 
 rd Tryz.prog (Instr.loadAt 35 t18) (fun t19 => 
 pur Tryz.prog (pure (.func (.func 29) #[] #[t3])) fun t20 => 
 callS Tryz.prog 27 #[t19, t20] (fun t21 w_8 => 
 pur Tryz.prog (nilV v_t) fun t22 => 
 pur Tryz.prog (Instr.fieldAt 54 t22 2) fun t23 => 
 act Tryz.prog (thenU (Instr.storeAt 35 t23 t21)) (fun _ w_9 => 
 callS Tryz.prog 26 #[v_t] (fun t25 w_10 => 
 Q t25 w_10) w_9) w_8) w_7) w_7))) w_1) w_1) w
theorem eq9 (v_t v_node : Value) (Q : Value → World → Prop) (w : World) : semF Tryz.prog 9 [v_t, v_node] Q w = S9 v_t v_node Q w := by kernel_rfl
theorem ref9 {v_t v_node : Value} {Q : Value → World → Prop} {w : World} (h : S9 v_t v_node Q w) : callS Tryz.prog 9 #[v_t, v_node] Q w :=
  callS_of mix (fun a w => Tryz.call9 a w) (by kernel_rfl) (by rw [eq9]; exact h)
-- (*commons/ltab.Table).Force
def S10 (v_t v_node v_l : Value) (Q : Value → World → Prop) (w : World) : Prop :=
 act Tryz.prog (Instr.box 29 v_l) (fun t5 w_1 => 
 callS Tryz.prog 16 #[v_t, v_node] (fun t10 w_2 => 
 pur Tryz.prog (Op.unary .not t10) fun t11 => 
 gd t11 false (fun k w_3 => rd Tryz.prog (Instr.loadAt 29 t5) (fun t13 => k t13 w_3) w_3) (fun t13_1 w_4 => 
 gd t11 false (fun k_1 w_5 => callS Tryz.prog 17 #[t13_1] (fun t14 w_6 => k_1 t14 w_6) w_5) (fun t14_1 w_7 => 
 gd t11 false (fun k_2 w_8 => pur Tryz.prog (Op.unary .not t14_1) fun t15 => k_2 t15 w_8) (fun t15_1 w_9 => 
 pur Tryz.prog (pickS t11 (.bool true) t15_1) fun t16 => 
 condS t16
  (Q (.int .i64 1) w_9)
  (rd Tryz.prog (Instr.loadAt 29 t5) (fun t20 => 
  callS Tryz.prog 30 #[v_t, v_node, t20] (fun t21 w_10 => 
  pur Tryz.prog (Op.unary .not t21) fun t22 => 
  condS t22
   (Q (.int .i64 8) w_10)
   (pur Tryz.prog (nilV v_t) fun t25 => 
 pur Tryz.prog (Instr.fieldAt 54 t25 1) fun t26 => 
 pur Tryz.prog (Instr.indexAt 52 t26 v_node) fun t27 => 
 rd Tryz.prog (Instr.loadAt 51 t27) (fun t28 => 
 rd Tryz.prog (Instr.loadAt 29 t5) (fun t29 => 
 callS Tryz.prog 20 #[t28, t29] (fun _ w_11 => 
 Q (.int .i64 0) w_11) (World.drew w_10)) (World.drew w_10)) (World.drew w_10))) w_9) w_9)) w_7) w_4) w_2) w_1) w
theorem eq10 (v_t v_node v_l : Value) (Q : Value → World → Prop) (w : World) : semF Tryz.prog 10 [v_t, v_node, v_l] Q w = S10 v_t v_node v_l Q w := by kernel_rfl
theorem ref10 {v_t v_node v_l : Value} {Q : Value → World → Prop} {w : World} (h : S10 v_t v_node v_l Q w) : callS Tryz.prog 10 #[v_t, v_node, v_l] Q w :=
  callS_of mix (fun a w => Tryz.call10 a w) (by kernel_rfl) (by rw [eq10]; exact h)
-- (*commons/ltab.Table).Sound
def S11 (v_t : Value) (Q : Value → World → Prop) (w : World) : Prop :=
 rd Tryz.prog (binS .eql 24 false true v_t (.pointer none)) (fun t7 => 
 condS t7
  (Q (.bool true) w)
  (lp 1 (fun J => fun v_node w_1 => ∀ _j : Fr, 
  pur Tryz.prog (nilV v_t) fun t10 => 
  pur Tryz.prog (Instr.fieldAt 54 t10 0) fun t11 => 
  rd Tryz.prog (Instr.loadAt 3 t11) (fun t12 => 
  pur Tryz.prog (binS .leq 3 false false v_node t12) fun t13 => 
  condS t13
   (callS Tryz.prog 31 #[v_t, v_node] (fun t18 w_2 => 
  pur Tryz.prog (Builtin.len_ #[69] 3 #[t18]) fun t19 => 
  lp 1 (fun J_1 => fun t20 w_3 => ∀ _j : Fr, 
   pur Tryz.prog (binS .lss 3 false false t20 t19) fun t21 => 
   condS t21
    (pur Tryz.prog (Instr.indexAt 69 t18 t20) fun t22 => 
   rd Tryz.prog (Instr.loadAt 29 t22) (fun t23 => 
   act Tryz.prog (Instr.alloc 29 true (.tuple #[])) (fun t5 w_4 => 
   act Tryz.prog (thenU (Instr.storeAt 29 t5 t23)) (fun _ w_5 => 
   rd Tryz.prog (Instr.loadAt 29 t5) (fun t26 => 
   callS Tryz.prog 30 #[v_t, v_node, t26] (fun t27 w_6 => 
   pur Tryz.prog (Op.unary .not t27) fun t28 => 
   condS t28
    (Q (.bool false) w_6)
    (pur Tryz.prog (binS .add 3 false true t20 (.int .i64 1)) fun t29 => 
   J_1 t29 w_6)) w_5) w_5) w_4) w_3) w_3)
    (pur Tryz.prog (binS .add 3 false true v_node (.int .i64 1)) fun t15 => 
  J t15 w_3)) [(.int .i64 0)] w_2) w_1)
   (Q (.bool true) w_1)) w_1) [(.int .i64 1)] w)) w
theorem eq11 (v_t : Value) (Q : Value → World → Prop) (w : World) : semF Tryz.prog 11 [v_t] Q w = S11 v_t Q w := by kernel_rfl
theorem ref11 {v_t : Value} {Q : Value → World → Prop} {w : World} (h : S11 v_t Q w) : callS Tryz.prog 11 #[v_t] Q w :=
  callS_of mix (fun a w => Tryz.call11 a w) (by kernel_rfl) (by rw [eq11]; exact h)
-- commons/commonslaw18.fits
def S12 (v_t v_nodes : Value) (Q : Value → World → Prop) (w : World) : Prop :=
 lp 1 (fun J => fun v_a w_1 => ∀ _j : Fr, 
  pur Tryz.prog (binS .leq 3 false false v_a v_nodes) fun t11 => 
  condS t11
   (callS Tryz.prog 31 #[v_t, v_a] (fun t16 w_2 => 
  lp 1 (fun J_1 => fun v_i w_3 => ∀ _j : Fr, 
   pur Tryz.prog (Builtin.len_ #[69] 3 #[t16]) fun t19 => 
   pur Tryz.prog (binS .lss 3 false false v_i t19) fun t20 => 
   condS t20
    (pur Tryz.prog (binS .add 3 false true v_a (.int .i64 1)) fun t24 => 
   lp 1 (fun J_2 => fun v_b w_4 => ∀ _j : Fr, 
    pur Tryz.prog (binS .leq 3 false false v_b v_nodes) fun t27 => 
    condS t27
     (∃ S : World → Prop, S (World.drew w_4) ∧ 
    pur Tryz.prog (Instr.indexAt 69 t16 v_i) fun t32 => 
    pur Tryz.prog (Instr.fieldAt 29 t32 1) fun t33 => 
    hld Tryz.prog S (Instr.loadAt 3 t33) fun t34 => 
    pur Tryz.prog (Instr.indexAt 69 t16 v_i) fun t39 => 
    pur Tryz.prog (Instr.fieldAt 29 t39 0) fun t40 => 
    pur Tryz.prog (Instr.fieldAt 27 t40 0) fun t41 => 
    hld Tryz.prog S (Instr.loadAt 3 t41) fun t42 => 
    callS Tryz.prog 33 #[v_t, v_b, t42] (fun t43 w_5 => S w_5 ∧ 
    callS Tryz.prog 32 #[t34, t43] (fun t44 w_6 => S w_6 ∧ 
    pur Tryz.prog (Op.unary .not t44) fun t45 => 
    gd t45 false (fun k w_7 => k t16 w_7) (fun t47_1 w_8 => 
    gd t45 false (fun k_1 w_9 => k_1 v_i w_9) (fun t48_1 w_10 => 
    gd t45 false (fun k_2 w_11 => pur Tryz.prog (Instr.indexAt 69 t47_1 t48_1) fun t49 => k_2 t49 w_11) (fun t49_1 w_12 => 
    gd t45 false (fun k_3 w_13 => pur Tryz.prog (Instr.fieldAt 29 t49_1 1) fun t50 => k_3 t50 w_13) (fun t50_1 w_14 => 
    gd t45 false (fun k_4 w_15 => hld Tryz.prog S (Instr.loadAt 3 t50_1) fun t51 => k_4 t51 w_15) (fun t51_1 w_16 => 
    gd t45 false (fun k_5 w_17 => k_5 v_t w_17) (fun t52_1 w_18 => 
    gd t45 false (fun k_6 w_19 => k_6 v_b w_19) (fun t53_1 w_20 => 
    gd t45 false (fun k_7 w_21 => k_7 t16 w_21) (fun t54_1 w_22 => 
    gd t45 false (fun k_8 w_23 => k_8 v_i w_23) (fun t55_1 w_24 => 
    gd t45 false (fun k_9 w_25 => pur Tryz.prog (Instr.indexAt 69 t54_1 t55_1) fun t56 => k_9 t56 w_25) (fun t56_1 w_26 => 
    gd t45 false (fun k_10 w_27 => pur Tryz.prog (Instr.fieldAt 29 t56_1 0) fun t57 => k_10 t57 w_27) (fun t57_1 w_28 => 
    gd t45 false (fun k_11 w_29 => pur Tryz.prog (Instr.fieldAt 27 t57_1 1) fun t58 => k_11 t58 w_29) (fun t58_1 w_30 => 
    gd t45 false (fun k_12 w_31 => hld Tryz.prog S (Instr.loadAt 3 t58_1) fun t59 => k_12 t59 w_31) (fun t59_1 w_32 => 
    gd t45 false (fun k_13 w_33 => pur Tryz.prog (binS .sub 3 false true t59_1 (.int .i64 1)) fun t60 => k_13 t60 w_33) (fun t60_1 w_34 => 
    gd t45 false (fun k_14 w_35 => callS Tryz.prog 33 #[t52_1, t53_1, t60_1] (fun t61 w_36 => S w_36 ∧ k_14 t61 w_36) w_35) (fun t61_1 w_37 => 
    gd t45 false (fun k_15 w_38 => callS Tryz.prog 32 #[t51_1, t61_1] (fun t62 w_39 => S w_39 ∧ k_15 t62 w_39) w_38) (fun t62_1 w_40 => 
    gd t45 false (fun k_16 w_41 => pur Tryz.prog (Op.unary .not t62_1) fun t63 => k_16 t63 w_41) (fun t63_1 w_42 => 
    pur Tryz.prog (pickS t45 (.bool true) t63_1) fun t64 => 
    condS t64
     (Q (.bool false) w_42)
     (pur Tryz.prog (binS .add 3 false true v_b (.int .i64 1)) fun t29 => 
    J_2 t29 w_42)) w_40) w_37) w_34) w_32) w_30) w_28) w_26) w_24) w_22) w_20) w_18) w_16) w_14) w_12) w_10) w_8) w_6) w_5) (World.drew w_4))
     (pur Tryz.prog (binS .add 3 false true v_i (.int .i64 1)) fun t22 => 
   J_1 t22 w_4)) [t24] w_3)
    (pur Tryz.prog (binS .add 3 false true v_a (.int .i64 1)) fun t13 => 
  J t13 w_3)) [(.int .i64 0)] w_2) w_1)
   (Q (.bool true) w_1)) [(.int .i64 1)] w
theorem eq12 (v_t v_nodes : Value) (Q : Value → World → Prop) (w : World) : semF Tryz.prog 12 [v_t, v_nodes] Q w = S12 v_t v_nodes Q w := by kernel_rfl
theorem ref12 {v_t v_nodes : Value} {Q : Value → World → Prop} {w : World} (h : S12 v_t v_nodes Q w) : callS Tryz.prog 12 #[v_t, v_nodes] Q w :=
  callS_of mix (fun a w => Tryz.call12 a w) (by kernel_rfl) (by rw [eq12]; exact h)
-- (*commons/ltab.Table).Waits
def S13 (v_t : Value) (Q : Value → World → Prop) (w : World) : Prop :=
 rd Tryz.prog (binS .eql 24 false true v_t (.pointer none)) (fun t4 => 
 condS t4
  (Q (.slice none 0 0) w)
  (pur Tryz.prog (nilV v_t) fun t6 => 
 pur Tryz.prog (Instr.fieldAt 54 t6 2) fun t7 => 
 rd Tryz.prog (Instr.loadAt 35 t7) (fun t8 => 
 callS Tryz.prog 34 #[t8] (fun t9 w_1 => 
 Q t9 w_1) w) w)) w
theorem eq13 (v_t : Value) (Q : Value → World → Prop) (w : World) : semF Tryz.prog 13 [v_t] Q w = S13 v_t Q w := by kernel_rfl
theorem ref13 {v_t : Value} {Q : Value → World → Prop} {w : World} (h : S13 v_t Q w) : callS Tryz.prog 13 #[v_t] Q w :=
  callS_of mix (fun a w => Tryz.call13 a w) (by kernel_rfl) (by rw [eq13]; exact h)
-- (*commons/ltab.Table).Revokes
def S14 (v_t : Value) (Q : Value → World → Prop) (w : World) : Prop :=
 rd Tryz.prog (binS .eql 24 false true v_t (.pointer none)) (fun t12 => 
 condS t12
  (Q (.slice none 0 0) w)
  (act Tryz.prog (Instr.alloc 52 true (.tuple #[])) (fun t4 w_1 => 
 lp 1 (fun J => fun t13 w_2 => ∀ _j : Fr, 
  pur Tryz.prog (binS .lss 3 false true t13 (.int .i64 17)) fun t14 => 
  condS t14
   (callS Tryz.prog 15 #[] (fun t17 w_3 => 
  pur Tryz.prog (Instr.indexAt 52 t4 t13) fun t18 => 
  act Tryz.prog (thenU (Instr.storeAt 51 t18 t17)) (fun _ w_4 => 
  pur Tryz.prog (binS .add 3 false true t13 (.int .i64 1)) fun t19 => 
  J t19 w_4) w_3) w_2)
   (pur Tryz.prog (nilV v_t) fun t21 => 
 pur Tryz.prog (Instr.fieldAt 54 t21 2) fun t22 => 
 rd Tryz.prog (Instr.loadAt 35 t22) (fun t23 => 
 pur Tryz.prog (Builtin.len_ #[35] 3 #[t23]) fun t24 => 
 lp 2 (fun J_1 => fun v_out t25 w_5 => ∀ _j : Fr, 
  pur Tryz.prog (binS .lss 3 false false t25 t24) fun t26 => 
  condS t26
   (pur Tryz.prog (Instr.indexAt 35 t23 t25) fun t27 => 
  rd Tryz.prog (Instr.loadAt 50 t27) (fun t28 => 
  act Tryz.prog (Instr.alloc 50 true (.tuple #[])) (fun t7 w_6 => 
  act Tryz.prog (thenU (Instr.storeAt 50 t7 t28)) (fun _ w_7 => 
  lp 2 (fun J_2 => fun v_out_1 v_node w_8 => ∀ _j : Fr, 
   pur Tryz.prog (nilV v_t) fun t31 => 
   pur Tryz.prog (Instr.fieldAt 54 t31 0) fun t32 => 
   rd Tryz.prog (Instr.loadAt 3 t32) (fun t33 => 
   pur Tryz.prog (binS .leq 3 false false v_node t33) fun t34 => 
   condS t34
    (jn 1 (fun J_3 => 
    pur Tryz.prog (Instr.fieldAt 50 t7 1) fun t38 => 
    rd Tryz.prog (Instr.loadAt 3 t38) (fun t39 => 
    pur Tryz.prog (binS .eql 3 false false v_node t39) fun t40 => 
    condS t40
     (J_3 v_out_1 w_8)
     (pur Tryz.prog (Instr.fieldAt 50 t7 2) fun t43 => 
    rd Tryz.prog (Instr.loadAt 29 t43) (fun t44 => 
    pur Tryz.prog (Instr.indexAt 52 t4 v_node) fun t46 => 
    rd Tryz.prog (Instr.loadAt 51 t46) (fun t47 => 
    callS Tryz.prog 35 #[v_t, v_node, t44, t47] (fun t48 w_9 => 
    pur Tryz.prog (Builtin.len_ #[69] 3 #[t48]) fun t49 => 
    lp 2 (fun J_4 => fun v_out_2 t50 w_10 => ∀ _j : Fr, 
     pur Tryz.prog (binS .lss 3 false false t50 t49) fun t51 => 
     condS t51
      (pur Tryz.prog (Instr.indexAt 69 t48 t50) fun t52 => 
     rd Tryz.prog (Instr.loadAt 29 t52) (fun t53 => 
     act Tryz.prog (Instr.alloc 29 true (.tuple #[])) (fun t10 w_11 => 
     act Tryz.prog (thenU (Instr.storeAt 29 t10 t53)) (fun _ w_12 => 
     rd Tryz.prog (Instr.loadAt 29 t10) (fun t56 => 
     pur Tryz.prog (Instr.build 47 #[(0, v_node), (1, t56)]) fun t57 => 
     act Tryz.prog (Instr.buildSlice 44 1 #[(0, t57)]) (fun t58 w_13 => 
     act Tryz.prog (Builtin.append_ #[44, 44] 44 #[v_out_2, t58]) (fun t59 w_14 => 
     pur Tryz.prog (Instr.indexAt 52 t4 v_node) fun t61 => 
     rd Tryz.prog (Instr.loadAt 51 t61) (fun t62 => 
     pur Tryz.prog (Instr.fieldAt 29 t10 0) fun t63 => 
     rd Tryz.prog (Instr.loadAt 27 t63) (fun t64 => 
     pur Tryz.prog (Instr.fieldAt 29 t10 1) fun t65 => 
     rd Tryz.prog (Instr.loadAt 3 t65) (fun t66 => 
     pur Tryz.prog (binS .add 3 false true t66 (.int .i64 1)) fun t67 => 
     callS Tryz.prog 25 #[t62, t64, t67] (fun _ w_15 => 
     pur Tryz.prog (binS .add 3 false true t50 (.int .i64 1)) fun t69 => 
     J_4 t59 t69 w_15) (World.drew w_14)) (World.drew w_14)) (World.drew w_14)) (World.drew w_14)) w_13) w_12) w_12) w_11) w_10) w_10)
      (J_3 v_out_2 w_10)) [v_out_1, (.int .i64 0)] w_9) (World.drew w_8)) (World.drew w_8)) (World.drew w_8))) w_8)
   (fun v_out_3 w_16 => ∀ _j : Fr, 
    pur Tryz.prog (binS .add 3 false true v_node (.int .i64 1)) fun t36 => 
    J_2 v_out_3 t36 w_16))
    (pur Tryz.prog (binS .add 3 false true t25 (.int .i64 1)) fun t70 => 
  J_1 v_out_1 t70 w_8)) w_8) [v_out, (.int .i64 1)] w_7) w_6) w_5) w_5)
   (Q v_out w_5)) [(.slice none 0 0), (.int .i64 0)] w_2) w_2)) [(.int .i64 0)] w_1) w)) w
theorem eq14 (v_t : Value) (Q : Value → World → Prop) (w : World) : semF Tryz.prog 14 [v_t] Q w = S14 v_t Q w := by kernel_rfl
theorem ref14 {v_t : Value} {Q : Value → World → Prop} {w : World} (h : S14 v_t Q w) : callS Tryz.prog 14 #[v_t] Q w :=
  callS_of mix (fun a w => Tryz.call14 a w) (by kernel_rfl) (by rw [eq14]; exact h)
-- commons/imap.New[int]
def S15 (Q : Value → World → Prop) (w : World) : Prop :=
 pur Tryz.prog (Instr.build 76 #[]) fun t1 => 
 act Tryz.prog (Instr.box 76 t1) (fun t2 w_1 => 
 Q t2 w_1) w
theorem eq15 (Q : Value → World → Prop) (w : World) : semF Tryz.prog 15 [] Q w = S15 Q w := by kernel_rfl
theorem ref15 {Q : Value → World → Prop} {w : World} (h : S15 Q w) : callS Tryz.prog 15 #[] Q w :=
  callS_of mix (fun a w => Tryz.call15 a w) (by kernel_rfl) (by rw [eq15]; exact h)
-- (*commons/ltab.Table).is
def S16 (v_t v_node : Value) (Q : Value → World → Prop) (w : World) : Prop :=
 rd Tryz.prog (binS .neq 24 false true v_t (.pointer none)) (fun t6 => 
 gd t6 true (fun k w_1 => k v_node w_1) (fun t8_1 w_2 => 
 gd t6 true (fun k_1 w_3 => pur Tryz.prog (binS .geq 3 false true t8_1 (.int .i64 1)) fun t9 => k_1 t9 w_3) (fun t9_1 w_4 => 
 pur Tryz.prog (pickS t6 t9_1 (.bool false)) fun t10 => 
 gd t10 true (fun k_2 w_5 => k_2 v_node w_5) (fun t12_1 w_6 => 
 gd t10 true (fun k_3 w_7 => k_3 v_t w_7) (fun t13_1 w_8 => 
 gd t10 true (fun k_4 w_9 => pur Tryz.prog (nilV t13_1) fun t14 => k_4 t14 w_9) (fun t14_1 w_10 => 
 gd t10 true (fun k_5 w_11 => pur Tryz.prog (Instr.fieldAt 54 t14_1 0) fun t15 => k_5 t15 w_11) (fun t15_1 w_12 => 
 gd t10 true (fun k_6 w_13 => rd Tryz.prog (Instr.loadAt 3 t15_1) (fun t16 => k_6 t16 w_13) w_13) (fun t16_1 w_14 => 
 gd t10 true (fun k_7 w_15 => pur Tryz.prog (binS .leq 3 false false t12_1 t16_1) fun t17 => k_7 t17 w_15) (fun t17_1 w_16 => 
 pur Tryz.prog (pickS t10 t17_1 (.bool false)) fun t18 => 
 Q t18 w_16) w_14) w_12) w_10) w_8) w_6) w_4) w_2) w) w
theorem eq16 (v_t v_node : Value) (Q : Value → World → Prop) (w : World) : semF Tryz.prog 16 [v_t, v_node] Q w = S16 v_t v_node Q w := by kernel_rfl
theorem ref16 {v_t v_node : Value} {Q : Value → World → Prop} {w : World} (h : S16 v_t v_node Q w) : callS Tryz.prog 16 #[v_t, v_node] Q w :=
  callS_of mix (fun a w => Tryz.call16 a w) (by kernel_rfl) (by rw [eq16]; exact h)
-- commons/ltab.right
def S17 (v_l : Value) (Q : Value → World → Prop) (w : World) : Prop :=
 act Tryz.prog (Instr.box 29 v_l) (fun t1 w_1 => 
 pur Tryz.prog (Instr.fieldAt 29 t1 0) fun t3 => 
 rd Tryz.prog (Instr.loadAt 27 t3) (fun t4 => 
 callS Tryz.prog 22 #[t4] (fun t5 w_2 => 
 gd t5 true (fun k w_3 => pur Tryz.prog (Instr.fieldAt 29 t1 0) fun t7 => k t7 w_3) (fun t7_1 w_4 => 
 gd t5 true (fun k_1 w_5 => pur Tryz.prog (Instr.fieldAt 27 t7_1 1) fun t8 => k_1 t8 w_5) (fun t8_1 w_6 => 
 gd t5 true (fun k_2 w_7 => rd Tryz.prog (Instr.loadAt 3 t8_1) (fun t9 => k_2 t9 w_7) w_7) (fun t9_1 w_8 => 
 gd t5 true (fun k_3 w_9 => pur Tryz.prog (binS .leq 3 false true t9_1 (.int .i64 4096)) fun t10 => k_3 t10 w_9) (fun t10_1 w_10 => 
 pur Tryz.prog (pickS t5 t10_1 (.bool false)) fun t11 => 
 gd t11 true (fun k_4 w_11 => pur Tryz.prog (Instr.fieldAt 29 t1 1) fun t13 => k_4 t13 w_11) (fun t13_1 w_12 => 
 gd t11 true (fun k_5 w_13 => rd Tryz.prog (Instr.loadAt 3 t13_1) (fun t14 => k_5 t14 w_13) w_13) (fun t14_1 w_14 => 
 gd t11 true (fun k_6 w_15 => pur Tryz.prog (binS .eql 3 false true t14_1 (.int .i64 1)) fun t15 => k_6 t15 w_15) (fun t15_1 w_16 => 
 gd t11 true (fun k_7 w_17 => k_7 t15_1 w_17) (fun t16_1 w_18 => 
 gd t16_1 false (fun k_8 w_19 => pur Tryz.prog (Instr.fieldAt 29 t1 1) fun t17 => k_8 t17 w_19) (fun t17_1 w_20 => 
 gd t16_1 false (fun k_9 w_21 => rd Tryz.prog (Instr.loadAt 3 t17_1) (fun t18 => k_9 t18 w_21) w_21) (fun t18_1 w_22 => 
 gd t16_1 false (fun k_10 w_23 => pur Tryz.prog (binS .eql 3 false true t18_1 (.int .i64 2)) fun t19 => k_10 t19 w_23) (fun t19_1 w_24 => 
 gd t11 true (fun k_11 w_25 => pur Tryz.prog (pickS t16_1 (.bool true) t19_1) fun t20 => k_11 t20 w_25) (fun t20_1 w_26 => 
 pur Tryz.prog (pickS t11 t20_1 (.bool false)) fun t21 => 
 Q t21 w_26) w_24) w_22) w_20) w_18) w_16) w_14) w_12) w_10) w_8) w_6) w_4) w_2) w_1) w_1) w
theorem eq17 (v_l : Value) (Q : Value → World → Prop) (w : World) : semF Tryz.prog 17 [v_l] Q w = S17 v_l Q w := by kernel_rfl
theorem ref17 {v_l : Value} {Q : Value → World → Prop} {w : World} (h : S17 v_l Q w) : callS Tryz.prog 17 #[v_l] Q w :=
  callS_of mix (fun a w => Tryz.call17 a w) (by kernel_rfl) (by rw [eq17]; exact h)
-- commons/mode.Has
def S18 (v_held v_l : Value) (Q : Value → World → Prop) (w : World) : Prop :=
 callS Tryz.prog 36 #[v_held, v_l] (fun t7 w_1 => 
 pur Tryz.prog (Builtin.len_ #[69] 3 #[t7]) fun t8 => 
 pur Tryz.prog (binS .eql 3 false true t8 (.int .i64 0)) fun t9 => 
 Q t9 w_1) w
theorem eq18 (v_held v_l : Value) (Q : Value → World → Prop) (w : World) : semF Tryz.prog 18 [v_held, v_l] Q w = S18 v_held v_l Q w := by kernel_rfl
theorem ref18 {v_held v_l : Value} {Q : Value → World → Prop} {w : World} (h : S18 v_held v_l Q w) : callS Tryz.prog 18 #[v_held, v_l] Q w :=
  callS_of mix (fun a w => Tryz.call18 a w) (by kernel_rfl) (by rw [eq18]; exact h)
-- (*commons/ltab.Table).free
def S19 (v_t v_node v_l : Value) (Q : Value → World → Prop) (w : World) : Prop :=
 act Tryz.prog (Instr.box 29 v_l) (fun t5 w_1 => 
 ∃ S : World → Prop, S (World.drew w_1) ∧ 
 hld Tryz.prog S (Instr.loadAt 29 t5) fun t12 => 
 callS Tryz.prog 38 #[v_t] (fun t14 w_2 => S w_2 ∧ 
 callS Tryz.prog 37 #[v_t, v_node, t12, t14] (fun t15 w_3 => S w_3 ∧ 
 pur Tryz.prog (Instr.extract t15 0) fun _ => 
 pur Tryz.prog (Instr.extract t15 1) fun t17 => 
 pur Tryz.prog (Op.unary .not t17) fun t19 => 
 Q t19 w_3) w_2) (World.drew w_1)) w
theorem eq19 (v_t v_node v_l : Value) (Q : Value → World → Prop) (w : World) : semF Tryz.prog 19 [v_t, v_node, v_l] Q w = S19 v_t v_node v_l Q w := by kernel_rfl
theorem ref19 {v_t v_node v_l : Value} {Q : Value → World → Prop} {w : World} (h : S19 v_t v_node v_l Q w) : callS Tryz.prog 19 #[v_t, v_node, v_l] Q w :=
  callS_of mix (fun a w => Tryz.call19 a w) (by kernel_rfl) (by rw [eq19]; exact h)
-- commons/mode.Raise
def S20 (v_m v_l : Value) (Q : Value → World → Prop) (w : World) : Prop :=
 act Tryz.prog (Instr.box 29 v_l) (fun t3 w_1 => 
 pur Tryz.prog (Instr.fieldAt 29 t3 0) fun t8 => 
 rd Tryz.prog (Instr.loadAt 27 t8) (fun t9 => 
 callS Tryz.prog 23 #[v_m, t9] (fun t10 w_2 => 
 pur Tryz.prog (Instr.fieldAt 29 t3 0) fun t12 => 
 rd Tryz.prog (Instr.loadAt 27 t12) (fun t13 => 
 pur Tryz.prog (Instr.fieldAt 29 t3 1) fun t14 => 
 rd Tryz.prog (Instr.loadAt 3 t14) (fun t15 => 
 callS Tryz.prog 25 #[v_m, t13, t15] (fun _ w_3 => 
 pur Tryz.prog (Builtin.len_ #[62] 3 #[t10]) fun t18 => 
 lp 1 (fun J => fun t19 w_4 => ∀ _j : Fr, 
  pur Tryz.prog (binS .lss 3 false false t19 t18) fun t20 => 
  condS t20
   (pur Tryz.prog (Instr.indexAt 62 t10 t19) fun t21 => 
  rd Tryz.prog (Instr.loadAt 65 t21) (fun t22 => 
  act Tryz.prog (Instr.alloc 65 true (.tuple #[])) (fun t6 w_5 => 
  act Tryz.prog (thenU (Instr.storeAt 65 t6 t22)) (fun _ w_6 => 
  ∃ S : World → Prop, S (World.drew w_6) ∧ 
  pur Tryz.prog (Instr.fieldAt 65 t6 0) fun t24 => 
  hld Tryz.prog S (Instr.loadAt 27 t24) fun t25 => 
  pur Tryz.prog (Instr.fieldAt 65 t6 1) fun t26 => 
  hld Tryz.prog S (Instr.loadAt 3 t26) fun t27 => 
  pur Tryz.prog (Instr.fieldAt 29 t3 1) fun t28 => 
  hld Tryz.prog S (Instr.loadAt 3 t28) fun t29 => 
  callS Tryz.prog 39 #[t27, t29] (fun t30 w_7 => S w_7 ∧ 
  callS Tryz.prog 25 #[v_m, t25, t30] (fun _ w_8 => S w_8 ∧ 
  pur Tryz.prog (binS .add 3 false true t19 (.int .i64 1)) fun t32 => 
  J t32 w_8) w_7) (World.drew w_6)) w_5) w_4) w_4)
   (Q (.tuple #[]) w_4)) [(.int .i64 0)] w_3) w_2) w_2) w_2) w_1) w_1) w
theorem eq20 (v_m v_l : Value) (Q : Value → World → Prop) (w : World) : semF Tryz.prog 20 [v_m, v_l] Q w = S20 v_m v_l Q w := by kernel_rfl
theorem ref20 {v_m v_l : Value} {Q : Value → World → Prop} {w : World} (h : S20 v_m v_l Q w) : callS Tryz.prog 20 #[v_m, v_l] Q w :=
  callS_of mix (fun a w => Tryz.call20 a w) (by kernel_rfl) (by rw [eq20]; exact h)
-- (*commons/ltab.Table).dead
def S21 (v_t v_node v_l : Value) (Q : Value → World → Prop) (w : World) : Prop :=
 act Tryz.prog (Instr.box 29 v_l) (fun t5 w_1 => 
 pur Tryz.prog (Instr.fieldAt 29 t5 1) fun t13 => 
 rd Tryz.prog (Instr.loadAt 3 t13) (fun t14 => 
 pur Tryz.prog (binS .neq 3 false true t14 (.int .i64 2)) fun t15 => 
 condS t15
  (Q (.bool false) w_1)
  (pur Tryz.prog (nilV v_t) fun t17 => 
 pur Tryz.prog (Instr.fieldAt 54 t17 2) fun t18 => 
 rd Tryz.prog (Instr.loadAt 35 t18) (fun t19 => 
 pur Tryz.prog (Builtin.len_ #[35] 3 #[t19]) fun t20 => 
 lp 1 (fun J => fun t21 w_2 => ∀ _j : Fr, 
  pur Tryz.prog (binS .lss 3 false false t21 t20) fun t22 => 
  condS t22
   (jn 0 (fun J_1 => 
   pur Tryz.prog (Instr.indexAt 35 t19 t21) fun t23 => 
   rd Tryz.prog (Instr.loadAt 50 t23) (fun t24 => 
   act Tryz.prog (Instr.alloc 50 true (.tuple #[])) (fun t8 w_3 => 
   act Tryz.prog (thenU (Instr.storeAt 50 t8 t24)) (fun _ w_4 => 
   pur Tryz.prog (Instr.fieldAt 50 t8 1) fun t25 => 
   rd Tryz.prog (Instr.loadAt 3 t25) (fun t26 => 
   pur Tryz.prog (binS .eql 3 false false t26 v_node) fun t28 => 
   gd t28 false (fun k w_5 => pur Tryz.prog (Instr.fieldAt 50 t8 2) fun t30 => k t30 w_5) (fun t30_1 w_6 => 
   gd t28 false (fun k_1 w_7 => pur Tryz.prog (Instr.fieldAt 29 t30_1 1) fun t31 => k_1 t31 w_7) (fun t31_1 w_8 => 
   gd t28 false (fun k_2 w_9 => rd Tryz.prog (Instr.loadAt 3 t31_1) (fun t32 => k_2 t32 w_9) w_9) (fun t32_1 w_10 => 
   gd t28 false (fun k_3 w_11 => pur Tryz.prog (binS .neq 3 false true t32_1 (.int .i64 2)) fun t33 => k_3 t33 w_11) (fun t33_1 w_12 => 
   pur Tryz.prog (pickS t28 (.bool true) t33_1) fun t34 => 
   condS t34
    (J_1  w_12)
    (pur Tryz.prog (Instr.fieldAt 50 t8 1) fun t36 => 
   rd Tryz.prog (Instr.loadAt 3 t36) (fun t37 => 
   pur Tryz.prog (nilV v_t) fun t38 => 
   pur Tryz.prog (Instr.fieldAt 54 t38 1) fun t39 => 
   pur Tryz.prog (Instr.indexAt 52 t39 t37) fun t40 => 
   rd Tryz.prog (Instr.loadAt 51 t40) (fun t41 => 
   pur Tryz.prog (Instr.fieldAt 29 t5 0) fun t42 => 
   rd Tryz.prog (Instr.loadAt 27 t42) (fun t43 => 
   callS Tryz.prog 23 #[t41, t43] (fun t44 w_13 => 
   pur Tryz.prog (Builtin.len_ #[62] 3 #[t44]) fun t45 => 
   lp 1 (fun J_2 => fun t46 w_14 => ∀ _j : Fr, 
    pur Tryz.prog (binS .lss 3 false false t46 t45) fun t47 => 
    condS t47
     (jn 0 (fun J_3 => 
     pur Tryz.prog (Instr.indexAt 62 t44 t46) fun t48 => 
     rd Tryz.prog (Instr.loadAt 65 t48) (fun t49 => 
     act Tryz.prog (Instr.alloc 65 true (.tuple #[])) (fun t10 w_15 => 
     act Tryz.prog (thenU (Instr.storeAt 65 t10 t49)) (fun _ w_16 => 
     pur Tryz.prog (Instr.fieldAt 65 t10 0) fun t51 => 
     rd Tryz.prog (Instr.loadAt 27 t51) (fun t52 => 
     pur Tryz.prog (Instr.fieldAt 50 t8 2) fun t53 => 
     pur Tryz.prog (Instr.fieldAt 29 t53 0) fun t54 => 
     rd Tryz.prog (Instr.loadAt 27 t54) (fun t55 => 
     callS Tryz.prog 40 #[t52, t55] (fun t56 w_17 => 
     pur Tryz.prog (Instr.extract t56 0) fun t57 => 
     pur Tryz.prog (Instr.extract t56 1) fun t58 => 
     act Tryz.prog (Instr.alloc 27 true (.tuple #[])) (fun t11 w_18 => 
     act Tryz.prog (thenU (Instr.storeAt 27 t11 t57)) (fun _ w_19 => 
     pur Tryz.prog (Op.unary .not t58) fun t60 => 
     gd t60 false (fun k_4 w_20 => pur Tryz.prog (Instr.fieldAt 65 t10 1) fun t62 => k_4 t62 w_20) (fun t62_1 w_21 => 
     gd t60 false (fun k_5 w_22 => rd Tryz.prog (Instr.loadAt 3 t62_1) (fun t63 => k_5 t63 w_22) w_22) (fun t63_1 w_23 => 
     gd t60 false (fun k_6 w_24 => pur Tryz.prog (binS .neq 3 false true t63_1 (.int .i64 1)) fun t64 => k_6 t64 w_24) (fun t64_1 w_25 => 
     pur Tryz.prog (pickS t60 (.bool true) t64_1) fun t65 => 
     condS t65
      (J_3  w_25)
      (pur Tryz.prog (nilV v_t) fun t68 => 
     pur Tryz.prog (Instr.fieldAt 54 t68 1) fun t69 => 
     pur Tryz.prog (Instr.indexAt 52 t69 v_node) fun t70 => 
     rd Tryz.prog (Instr.loadAt 51 t70) (fun t71 => 
     rd Tryz.prog (Instr.loadAt 27 t11) (fun t72 => 
     callS Tryz.prog 23 #[t71, t72] (fun t73 w_26 => 
     callS Tryz.prog 41 #[t73, (.func (.func 42) #[] #[])] (fun t74 w_27 => 
     condS t74
      (Q (.bool true) w_27)
      (J_3  w_27)) w_26) (World.drew w_25)) (World.drew w_25)) (World.drew w_25))) w_23) w_21) w_19) w_18) w_17) w_16) w_16) w_16) w_15) w_14) w_14)
    (fun  w_28 => ∀ _j : Fr, 
     pur Tryz.prog (binS .add 3 false true t46 (.int .i64 1)) fun t75 => 
     J_2 t75 w_28))
     (J_1  w_14)) [(.int .i64 0)] w_13) (World.drew w_12)) (World.drew w_12)) (World.drew w_12)) (World.drew w_12))) w_10) w_8) w_6) w_4) w_4) w_3) w_2) w_2)
  (fun  w_29 => ∀ _j : Fr, 
   pur Tryz.prog (binS .add 3 false true t21 (.int .i64 1)) fun t76 => 
   J t76 w_29))
   (Q (.bool false) w_2)) [(.int .i64 0)] w_1) w_1)) w_1) w
theorem eq21 (v_t v_node v_l : Value) (Q : Value → World → Prop) (w : World) : semF Tryz.prog 21 [v_t, v_node, v_l] Q w = S21 v_t v_node v_l Q w := by kernel_rfl
theorem ref21 {v_t v_node v_l : Value} {Q : Value → World → Prop} {w : World} (h : S21 v_t v_node v_l Q w) : callS Tryz.prog 21 #[v_t, v_node, v_l] Q w :=
  callS_of mix (fun a w => Tryz.call21 a w) (by kernel_rfl) (by rw [eq21]; exact h)
-- commons/span.Valid
def S22 (v_s : Value) (Q : Value → World → Prop) (w : World) : Prop :=
 act Tryz.prog (Instr.box 27 v_s) (fun t1 w_1 => 
 pur Tryz.prog (Instr.fieldAt 27 t1 0) fun t3 => 
 rd Tryz.prog (Instr.loadAt 3 t3) (fun t4 => 
 pur Tryz.prog (binS .geq 3 false true t4 (.int .i64 0)) fun t5 => 
 gd t5 true (fun k w_2 => pur Tryz.prog (Instr.fieldAt 27 t1 0) fun t7 => k t7 w_2) (fun t7_1 w_3 => 
 gd t5 true (fun k_1 w_4 => rd Tryz.prog (Instr.loadAt 3 t7_1) (fun t8 => k_1 t8 w_4) w_4) (fun t8_1 w_5 => 
 gd t5 true (fun k_2 w_6 => pur Tryz.prog (Instr.fieldAt 27 t1 1) fun t9 => k_2 t9 w_6) (fun t9_1 w_7 => 
 gd t5 true (fun k_3 w_8 => rd Tryz.prog (Instr.loadAt 3 t9_1) (fun t10 => k_3 t10 w_8) w_8) (fun t10_1 w_9 => 
 gd t5 true (fun k_4 w_10 => pur Tryz.prog (binS .lss 3 false false t8_1 t10_1) fun t11 => k_4 t11 w_10) (fun t11_1 w_11 => 
 pur Tryz.prog (pickS t5 t11_1 (.bool false)) fun t12 => 
 Q t12 w_11) w_9) w_7) w_5) w_3) w_1) w_1) w
theorem eq22 (v_s : Value) (Q : Value → World → Prop) (w : World) : semF Tryz.prog 22 [v_s] Q w = S22 v_s Q w := by kernel_rfl
theorem ref22 {v_s : Value} {Q : Value → World → Prop} {w : World} (h : S22 v_s Q w) : callS Tryz.prog 22 #[v_s] Q w :=
  callS_of mix (fun a w => Tryz.call22 a w) (by kernel_rfl) (by rw [eq22]; exact h)
-- (*commons/imap.Map[int]).Parts
def S23 (v_m v_s : Value) (Q : Value → World → Prop) (w : World) : Prop :=
 act Tryz.prog (Instr.box 27 v_s) (fun t3 w_1 => 
 rd Tryz.prog (binS .eql 51 false true v_m (.pointer none)) (fun t11 => 
 condS t11
  (Q (.slice none 0 0) w_1)
  (pur Tryz.prog (nilV v_m) fun t13 => 
 pur Tryz.prog (Instr.fieldAt 76 t13 0) fun t14 => 
 rd Tryz.prog (Instr.loadAt 62 t14) (fun t15 => 
 pur Tryz.prog (Builtin.len_ #[62] 3 #[t15]) fun t16 => 
 lp 2 (fun J => fun v_out t17 w_2 => ∀ _j : Fr, 
  pur Tryz.prog (binS .lss 3 false false t17 t16) fun t18 => 
  condS t18
   (jn 1 (fun J_1 => 
   pur Tryz.prog (Instr.indexAt 62 t15 t17) fun t19 => 
   rd Tryz.prog (Instr.loadAt 65 t19) (fun t20 => 
   act Tryz.prog (Instr.alloc 65 true (.tuple #[])) (fun t7 w_3 => 
   act Tryz.prog (thenU (Instr.storeAt 65 t7 t20)) (fun _ w_4 => 
   pur Tryz.prog (Instr.fieldAt 65 t7 0) fun t22 => 
   rd Tryz.prog (Instr.loadAt 27 t22) (fun t23 => 
   rd Tryz.prog (Instr.loadAt 27 t3) (fun t24 => 
   callS Tryz.prog 40 #[t23, t24] (fun t25 w_5 => 
   pur Tryz.prog (Instr.extract t25 0) fun t26 => 
   pur Tryz.prog (Instr.extract t25 1) fun t27 => 
   act Tryz.prog (Instr.alloc 27 true (.tuple #[])) (fun t8 w_6 => 
   act Tryz.prog (thenU (Instr.storeAt 27 t8 t26)) (fun _ w_7 => 
   condS t27
    (rd Tryz.prog (Instr.loadAt 27 t8) (fun t30 => 
    pur Tryz.prog (Instr.fieldAt 65 t7 1) fun t31 => 
    rd Tryz.prog (Instr.loadAt 3 t31) (fun t32 => 
    pur Tryz.prog (Instr.build 65 #[(0, t30), (1, t32)]) fun t33 => 
    act Tryz.prog (Instr.buildSlice 62 1 #[(0, t33)]) (fun t34 w_8 => 
    act Tryz.prog (Builtin.append_ #[62, 62] 62 #[v_out, t34]) (fun t35 w_9 => 
    J_1 t35 w_9) w_8) w_7) w_7) w_7)
    (J_1 v_out w_7)) w_6) w_5) w_4) w_4) w_4) w_3) w_2) w_2)
  (fun v_out_1 w_10 => ∀ _j : Fr, 
   pur Tryz.prog (binS .add 3 false true t17 (.int .i64 1)) fun t36 => 
   J v_out_1 t36 w_10))
   (Q v_out w_2)) [(.slice none 0 0), (.int .i64 0)] w_1) w_1)) w_1) w
theorem eq23 (v_m v_s : Value) (Q : Value → World → Prop) (w : World) : semF Tryz.prog 23 [v_m, v_s] Q w = S23 v_m v_s Q w := by kernel_rfl
theorem ref23 {v_m v_s : Value} {Q : Value → World → Prop} {w : World} (h : S23 v_m v_s Q w) : callS Tryz.prog 23 #[v_m, v_s] Q w :=
  callS_of mix (fun a w => Tryz.call23 a w) (by kernel_rfl) (by rw [eq23]; exact h)
-- (*commons/imap.Map[int]).Clear
def S24 (v_m v_s : Value) (Q : Value → World → Prop) (w : World) : Prop :=
 act Tryz.prog (Instr.box 27 v_s) (fun t3 w_1 => 
 rd Tryz.prog (binS .eql 51 false true v_m (.pointer none)) (fun t6 => 
 gd t6 false (fun k w_2 => rd Tryz.prog (Instr.loadAt 27 t3) (fun t8 => k t8 w_2) w_2) (fun t8_1 w_3 => 
 gd t6 false (fun k_1 w_4 => callS Tryz.prog 22 #[t8_1] (fun t9 w_5 => k_1 t9 w_5) w_4) (fun t9_1 w_6 => 
 gd t6 false (fun k_2 w_7 => pur Tryz.prog (Op.unary .not t9_1) fun t10 => k_2 t10 w_7) (fun t10_1 w_8 => 
 pur Tryz.prog (pickS t6 (.bool true) t10_1) fun t11 => 
 condS t11
  (Q (.bool false) w_8)
  (rd Tryz.prog (Instr.loadAt 27 t3) (fun t14 => 
 callS Tryz.prog 44 #[v_m, t14] (fun t15 w_9 => 
 callS Tryz.prog 43 #[v_m, t15] (fun _ w_10 => 
 Q (.bool true) w_10) w_9) w_8) w_8)) w_6) w_3) w_1) w_1) w
theorem eq24 (v_m v_s : Value) (Q : Value → World → Prop) (w : World) : semF Tryz.prog 24 [v_m, v_s] Q w = S24 v_m v_s Q w := by kernel_rfl
theorem ref24 {v_m v_s : Value} {Q : Value → World → Prop} {w : World} (h : S24 v_m v_s Q w) : callS Tryz.prog 24 #[v_m, v_s] Q w :=
  callS_of mix (fun a w => Tryz.call24 a w) (by kernel_rfl) (by rw [eq24]; exact h)
-- (*commons/imap.Map[int]).Set
def S25 (v_m v_s v_v : Value) (Q : Value → World → Prop) (w : World) : Prop :=
 act Tryz.prog (Instr.box 27 v_s) (fun t4 w_1 => 
 rd Tryz.prog (binS .eql 51 false true v_m (.pointer none)) (fun t8 => 
 gd t8 false (fun k w_2 => rd Tryz.prog (Instr.loadAt 27 t4) (fun t10 => k t10 w_2) w_2) (fun t10_1 w_3 => 
 gd t8 false (fun k_1 w_4 => callS Tryz.prog 22 #[t10_1] (fun t11 w_5 => k_1 t11 w_5) w_4) (fun t11_1 w_6 => 
 gd t8 false (fun k_2 w_7 => pur Tryz.prog (Op.unary .not t11_1) fun t12 => k_2 t12 w_7) (fun t12_1 w_8 => 
 pur Tryz.prog (pickS t8 (.bool true) t12_1) fun t13 => 
 condS t13
  (Q (.bool false) w_8)
  (jn 0 (fun J => 
  ∃ S : World → Prop, S (World.drew w_8) ∧ 
 hld Tryz.prog S (Instr.loadAt 27 t4) fun t16 => 
  hld Tryz.prog S (Instr.loadAt 27 t4) fun t18 => 
  pur Tryz.prog (Instr.build 65 #[(0, t18), (1, v_v)]) fun t20 => 
  (callS Tryz.prog 44 #[v_m, t16] (fun t17 w_9 => S w_9 ∧ 
  act Tryz.prog (Instr.buildSlice 62 1 #[(0, t20)]) (fun t21 w_10 => S w_10 ∧ 
  act Tryz.prog (Builtin.append_ #[62, 62] 62 #[t17, t21]) (fun t22 w_11 => S w_11 ∧ 
  callS Tryz.prog 43 #[v_m, t22] (fun _ w_12 => S w_12 ∧ 
  J  w_12) w_11) w_10) w_9) (World.drew w_8)
  ) ∧ (act Tryz.prog (Instr.buildSlice 62 1 #[(0, t20)]) (fun t21_1 w_13 => S w_13 ∧ 
  callS Tryz.prog 44 #[v_m, t16] (fun t17_1 w_14 => S w_14 ∧ 
  act Tryz.prog (Builtin.append_ #[62, 62] 62 #[t17_1, t21_1]) (fun t22_1 w_15 => S w_15 ∧ 
  callS Tryz.prog 43 #[v_m, t22_1] (fun _ w_16 => S w_16 ∧ 
  J  w_16) w_15) w_14) w_13) (World.drew w_8)))
 (fun  w_17 => ∀ _j : Fr, 
  Q (.bool true) w_17))) w_6) w_3) w_1) w_1) w
theorem eq25 (v_m v_s v_v : Value) (Q : Value → World → Prop) (w : World) : semF Tryz.prog 25 [v_m, v_s, v_v] Q w = S25 v_m v_s v_v Q w := by kernel_rfl
theorem ref25 {v_m v_s v_v : Value} {Q : Value → World → Prop} {w : World} (h : S25 v_m v_s v_v Q w) : callS Tryz.prog 25 #[v_m, v_s, v_v] Q w :=
  callS_of mix (fun a w => Tryz.call25 a w) (by kernel_rfl) (by rw [eq25]; exact h)
-- (*commons/ltab.Table).grant
def S26 (v_t : Value) (Q : Value → World → Prop) (w : World) : Prop :=
 pur Tryz.prog (nilV v_t) fun t11 => 
 pur Tryz.prog (Instr.fieldAt 54 t11 2) fun t12 => 
 rd Tryz.prog (Instr.loadAt 35 t12) (fun t13 => 
 pur Tryz.prog (Builtin.len_ #[35] 3 #[t13]) fun t14 => 
 lp 4 (fun J => fun v_out v_left v_claims t15 w_1 => ∀ _j : Fr, 
  pur Tryz.prog (binS .lss 3 false false t15 t14) fun t16 => 
  condS t16
   (jn 3 (fun J_1 => 
   pur Tryz.prog (Instr.indexAt 35 t13 t15) fun t17 => 
   rd Tryz.prog (Instr.loadAt 50 t17) (fun t18 => 
   act Tryz.prog (Instr.alloc 50 true (.tuple #[])) (fun t7 w_2 => 
   act Tryz.prog (thenU (Instr.storeAt 50 t7 t18)) (fun _ w_3 => 
   pur Tryz.prog (Instr.fieldAt 50 t7 1) fun t21 => 
   rd Tryz.prog (Instr.loadAt 3 t21) (fun t22 => 
   pur Tryz.prog (Instr.fieldAt 50 t7 2) fun t23 => 
   rd Tryz.prog (Instr.loadAt 29 t23) (fun t24 => 
   callS Tryz.prog 37 #[v_t, t22, t24, v_claims] (fun t26 w_4 => 
   pur Tryz.prog (Instr.extract t26 0) fun t27 => 
   pur Tryz.prog (Instr.extract t26 1) fun t28 => 
   condS t28
    (∃ S : World → Prop, S (World.drew w_4) ∧ 
    hld Tryz.prog S (Instr.loadAt 50 t7) fun t31 => 
    act Tryz.prog (Instr.buildSlice 35 1 #[(0, t31)]) (fun t32 w_5 => S w_5 ∧ 
    act Tryz.prog (Builtin.append_ #[35, 35] 35 #[v_left, t32]) (fun t33 w_6 => S w_6 ∧ 
    hld Tryz.prog S (Instr.loadAt 50 t7) fun t35 => 
    callS Tryz.prog 45 #[t35, t27] (fun t37 w_7 => S w_7 ∧ 
    act Tryz.prog (Instr.buildSlice 35 1 #[(0, t37)]) (fun t38 w_8 => S w_8 ∧ 
    act Tryz.prog (Builtin.append_ #[35, 35] 35 #[v_claims, t38]) (fun t39 w_9 => S w_9 ∧ 
    J_1 v_out t33 t39 w_9) w_8) w_7) w_6) w_5) (World.drew w_4))
    (pur Tryz.prog (Instr.fieldAt 50 t7 1) fun t41 => 
    rd Tryz.prog (Instr.loadAt 3 t41) (fun t42 => 
    pur Tryz.prog (nilV v_t) fun t43 => 
    pur Tryz.prog (Instr.fieldAt 54 t43 1) fun t44 => 
    pur Tryz.prog (Instr.indexAt 52 t44 t42) fun t45 => 
    rd Tryz.prog (Instr.loadAt 51 t45) (fun t46 => 
    pur Tryz.prog (Instr.fieldAt 50 t7 2) fun t47 => 
    rd Tryz.prog (Instr.loadAt 29 t47) (fun t48 => 
    callS Tryz.prog 20 #[t46, t48] (fun _ w_10 => 
    rd Tryz.prog (Instr.loadAt 50 t7) (fun t51 => 
    act Tryz.prog (Instr.buildSlice 35 1 #[(0, t51)]) (fun t52 w_11 => 
    act Tryz.prog (Builtin.append_ #[35, 35] 35 #[v_out, t52]) (fun t53 w_12 => 
    J_1 t53 v_left v_claims w_12) w_11) w_10) w_10) (World.drew w_4)) (World.drew w_4)) (World.drew w_4)) (World.drew w_4))) w_3) w_3) w_3) w_2) w_1) w_1)
  (fun v_out_1 v_left_1 v_claims_1 w_13 => ∀ _j : Fr, 
   pur Tryz.prog (binS .add 3 false true t15 (.int .i64 1)) fun t54 => 
   J v_out_1 v_left_1 v_claims_1 t54 w_13))
   (pur Tryz.prog (nilV v_t) fun t57 => 
 pur Tryz.prog (Instr.fieldAt 54 t57 2) fun t58 => 
 act Tryz.prog (thenU (Instr.storeAt 35 t58 v_left)) (fun _ w_14 => 
 Q v_out w_14) w_1)) [(.slice none 0 0), (.slice none 0 0), (.slice none 0 0), (.int .i64 0)] w) w
theorem eq26 (v_t : Value) (Q : Value → World → Prop) (w : World) : semF Tryz.prog 26 [v_t] Q w = S26 v_t Q w := by kernel_rfl
theorem ref26 {v_t : Value} {Q : Value → World → Prop} {w : World} (h : S26 v_t Q w) : callS Tryz.prog 26 #[v_t] Q w :=
  callS_of mix (fun a w => Tryz.call26 a w) (by kernel_rfl) (by rw [eq26]; exact h)
-- slices.DeleteFunc[[]commons/ltab.Wait,commons/ltab.Wait]
def S27 (v_s v_del : Value) (Q : Value → World → Prop) (w : World) : Prop :=
 callS Tryz.prog 46 #[v_s, v_del] (fun t10 w_1 => 
 pur Tryz.prog (binS .eql 3 false true t10 (.int .i64 (-1))) fun t12 => 
 condS t12
  (Q v_s w_1)
  (pur Tryz.prog (binS .add 3 false true t10 (.int .i64 1)) fun t15 => 
 lp 2 (fun J => fun v_i v_j w_2 => ∀ _j : Fr, 
  pur Tryz.prog (Builtin.len_ #[35] 3 #[v_s]) fun t18 => 
  pur Tryz.prog (binS .lss 3 false false v_j t18) fun t19 => 
  condS t19
   (jn 1 (fun J_1 => 
   pur Tryz.prog (Instr.indexAt 35 v_s v_j) fun t24 => 
   rd Tryz.prog (Instr.loadAt 50 t24) (fun t25 => 
   act Tryz.prog (Instr.alloc 50 true (.tuple #[])) (fun t7 w_3 => 
   act Tryz.prog (thenU (Instr.storeAt 50 t7 t25)) (fun _ w_4 => 
   rd Tryz.prog (Instr.loadAt 50 t7) (fun t27 => 
   callF Tryz.prog v_del #[t27] (fun t28 w_5 => 
   pur Tryz.prog (Op.unary .not t28) fun t29 => 
   condS t29
    (rd Tryz.prog (Instr.loadAt 50 t7) (fun t32 => 
    pur Tryz.prog (Instr.indexAt 35 v_s v_i) fun t33 => 
    act Tryz.prog (thenU (Instr.storeAt 50 t33 t32)) (fun _ w_6 => 
    pur Tryz.prog (binS .add 3 false true v_i (.int .i64 1)) fun t35 => 
    J_1 t35 w_6) w_5) w_5)
    (J_1 v_i w_5)) w_4) w_4) w_3) w_2) w_2)
  (fun v_i_1 w_7 => ∀ _j : Fr, 
   pur Tryz.prog (binS .add 3 false true v_j (.int .i64 1)) fun t21 => 
   J v_i_1 t21 w_7))
   (pur Tryz.prog (Instr.sliceAt 35 v_s (some v_i) none none) fun t38 => 
 act Tryz.prog (Builtin.clear_ #[35] 0 #[t38]) (fun _ w_8 => 
 pur Tryz.prog (Instr.sliceAt 35 v_s none (some v_i) none) fun t41 => 
 Q t41 w_8) w_2)) [t10, t15] w_1)) w
theorem eq27 (v_s v_del : Value) (Q : Value → World → Prop) (w : World) : semF Tryz.prog 27 [v_s, v_del] Q w = S27 v_s v_del Q w := by kernel_rfl
theorem ref27 {v_s v_del : Value} {Q : Value → World → Prop} {w : World} (h : S27 v_s v_del Q w) : callS Tryz.prog 27 #[v_s, v_del] Q w :=
  callS_of mix (fun a w => Tryz.call27 a w) (by kernel_rfl) (by rw [eq27]; exact h)
-- (*commons/ltab.Table).Cancel$1
def S28 (v_w t1 : Value) (Q : Value → World → Prop) (w : World) : Prop :=
 act Tryz.prog (Instr.box 50 v_w) (fun t2 w_1 => 
 pur Tryz.prog (Instr.fieldAt 50 t2 0) fun t4 => 
 rd Tryz.prog (Instr.loadAt 3 t4) (fun t5 => 
 rd Tryz.prog (Instr.loadAt 3 t1) (fun t6 => 
 pur Tryz.prog (binS .eql 3 false false t5 t6) fun t7 => 
 Q t7 w_1) w_1) w_1) w
theorem eq28 (v_w t1 : Value) (Q : Value → World → Prop) (w : World) : semF Tryz.prog 28 [v_w, t1] Q w = S28 v_w t1 Q w := by kernel_rfl
theorem ref28 {v_w t1 : Value} {Q : Value → World → Prop} {w : World} (h : S28 v_w t1 Q w) : callS Tryz.prog 28 #[v_w, t1] Q w :=
  callS_of mix (fun a w => Tryz.call28 a w) (by kernel_rfl) (by rw [eq28]; exact h)
-- (*commons/ltab.Table).Drop$1
def S29 (v_w t1 : Value) (Q : Value → World → Prop) (w : World) : Prop :=
 act Tryz.prog (Instr.box 50 v_w) (fun t2 w_1 => 
 pur Tryz.prog (Instr.fieldAt 50 t2 1) fun t4 => 
 rd Tryz.prog (Instr.loadAt 3 t4) (fun t5 => 
 rd Tryz.prog (Instr.loadAt 3 t1) (fun t6 => 
 pur Tryz.prog (binS .eql 3 false false t5 t6) fun t7 => 
 Q t7 w_1) w_1) w_1) w
theorem eq29 (v_w t1 : Value) (Q : Value → World → Prop) (w : World) : semF Tryz.prog 29 [v_w, t1] Q w = S29 v_w t1 Q w := by kernel_rfl
theorem ref29 {v_w t1 : Value} {Q : Value → World → Prop} {w : World} (h : S29 v_w t1 Q w) : callS Tryz.prog 29 #[v_w, t1] Q w :=
  callS_of mix (fun a w => Tryz.call29 a w) (by kernel_rfl) (by rw [eq29]; exact h)
-- (*commons/ltab.Table).fits
def S30 (v_t v_node v_l : Value) (Q : Value → World → Prop) (w : World) : Prop :=
 act Tryz.prog (Instr.box 29 v_l) (fun t5 w_1 => 
 lp 1 (fun J => fun v_other w_2 => ∀ _j : Fr, 
  pur Tryz.prog (nilV v_t) fun t12 => 
  pur Tryz.prog (Instr.fieldAt 54 t12 0) fun t13 => 
  rd Tryz.prog (Instr.loadAt 3 t13) (fun t14 => 
  pur Tryz.prog (binS .leq 3 false false v_other t14) fun t15 => 
  condS t15
   (jn 0 (fun J_1 => 
   pur Tryz.prog (binS .eql 3 false false v_other v_node) fun t20 => 
   condS t20
    (J_1  w_2)
    (pur Tryz.prog (nilV v_t) fun t23 => 
   pur Tryz.prog (Instr.fieldAt 54 t23 1) fun t24 => 
   pur Tryz.prog (Instr.indexAt 52 t24 v_other) fun t25 => 
   rd Tryz.prog (Instr.loadAt 51 t25) (fun t26 => 
   pur Tryz.prog (Instr.fieldAt 29 t5 0) fun t27 => 
   rd Tryz.prog (Instr.loadAt 27 t27) (fun t28 => 
   callS Tryz.prog 23 #[t26, t28] (fun t29 w_3 => 
   pur Tryz.prog (Builtin.len_ #[62] 3 #[t29]) fun t30 => 
   lp 1 (fun J_2 => fun t31 w_4 => ∀ _j : Fr, 
    pur Tryz.prog (binS .lss 3 false false t31 t30) fun t32 => 
    condS t32
     (pur Tryz.prog (Instr.indexAt 62 t29 t31) fun t33 => 
    rd Tryz.prog (Instr.loadAt 65 t33) (fun t34 => 
    act Tryz.prog (Instr.alloc 65 true (.tuple #[])) (fun t9 w_5 => 
    act Tryz.prog (thenU (Instr.storeAt 65 t9 t34)) (fun _ w_6 => 
    pur Tryz.prog (Instr.fieldAt 65 t9 1) fun t35 => 
    rd Tryz.prog (Instr.loadAt 3 t35) (fun t36 => 
    pur Tryz.prog (Instr.fieldAt 29 t5 1) fun t37 => 
    rd Tryz.prog (Instr.loadAt 3 t37) (fun t38 => 
    callS Tryz.prog 47 #[t36, t38] (fun t39 w_7 => 
    pur Tryz.prog (Op.unary .not t39) fun t40 => 
    condS t40
     (Q (.bool false) w_7)
     (pur Tryz.prog (binS .add 3 false true t31 (.int .i64 1)) fun t41 => 
    J_2 t41 w_7)) w_6) w_6) w_6) w_5) w_4) w_4)
     (J_1  w_4)) [(.int .i64 0)] w_3) (World.drew w_2)) (World.drew w_2)) (World.drew w_2)))
  (fun  w_8 => ∀ _j : Fr, 
   pur Tryz.prog (binS .add 3 false true v_other (.int .i64 1)) fun t17 => 
   J t17 w_8))
   (Q (.bool true) w_2)) w_2) [(.int .i64 1)] w_1) w
theorem eq30 (v_t v_node v_l : Value) (Q : Value → World → Prop) (w : World) : semF Tryz.prog 30 [v_t, v_node, v_l] Q w = S30 v_t v_node v_l Q w := by kernel_rfl
theorem ref30 {v_t v_node v_l : Value} {Q : Value → World → Prop} {w : World} (h : S30 v_t v_node v_l Q w) : callS Tryz.prog 30 #[v_t, v_node, v_l] Q w :=
  callS_of mix (fun a w => Tryz.call30 a w) (by kernel_rfl) (by rw [eq30]; exact h)
-- (*commons/ltab.Table).Holds
def S31 (v_t v_node : Value) (Q : Value → World → Prop) (w : World) : Prop :=
 callS Tryz.prog 16 #[v_t, v_node] (fun t10 w_1 => 
 pur Tryz.prog (Op.unary .not t10) fun t11 => 
 condS t11
  (Q (.slice none 0 0) w_1)
  (pur Tryz.prog (nilV v_t) fun t14 => 
 pur Tryz.prog (Instr.fieldAt 54 t14 1) fun t15 => 
 pur Tryz.prog (Instr.indexAt 52 t15 v_node) fun t16 => 
 rd Tryz.prog (Instr.loadAt 51 t16) (fun t17 => 
 callS Tryz.prog 48 #[t17] (fun t18 w_2 => 
 pur Tryz.prog (Builtin.len_ #[62] 3 #[t18]) fun t19 => 
 lp 2 (fun J => fun v_out t20 w_3 => ∀ _j : Fr, 
  pur Tryz.prog (binS .lss 3 false false t20 t19) fun t21 => 
  condS t21
   (pur Tryz.prog (Instr.indexAt 62 t18 t20) fun t22 => 
  rd Tryz.prog (Instr.loadAt 65 t22) (fun t23 => 
  act Tryz.prog (Instr.alloc 65 true (.tuple #[])) (fun t7 w_4 => 
  act Tryz.prog (thenU (Instr.storeAt 65 t7 t23)) (fun _ w_5 => 
  pur Tryz.prog (Instr.fieldAt 65 t7 0) fun t25 => 
  rd Tryz.prog (Instr.loadAt 27 t25) (fun t26 => 
  pur Tryz.prog (Instr.fieldAt 65 t7 1) fun t27 => 
  rd Tryz.prog (Instr.loadAt 3 t27) (fun t28 => 
  pur Tryz.prog (Instr.build 29 #[(0, t26), (1, t28)]) fun t29 => 
  act Tryz.prog (Instr.buildSlice 69 1 #[(0, t29)]) (fun t30 w_6 => 
  act Tryz.prog (Builtin.append_ #[69, 69] 69 #[v_out, t30]) (fun t31 w_7 => 
  pur Tryz.prog (binS .add 3 false true t20 (.int .i64 1)) fun t32 => 
  J t31 t32 w_7) w_6) w_5) w_5) w_5) w_4) w_3) w_3)
   (Q v_out w_3)) [(.slice none 0 0), (.int .i64 0)] w_2) w_1) w_1)) w
theorem eq31 (v_t v_node : Value) (Q : Value → World → Prop) (w : World) : semF Tryz.prog 31 [v_t, v_node] Q w = S31 v_t v_node Q w := by kernel_rfl
theorem ref31 {v_t v_node : Value} {Q : Value → World → Prop} {w : World} (h : S31 v_t v_node Q w) : callS Tryz.prog 31 #[v_t, v_node] Q w :=
  callS_of mix (fun a w => Tryz.call31 a w) (by kernel_rfl) (by rw [eq31]; exact h)
-- commons/commonsref14.Fit
def S32 (v_a v_b : Value) (Q : Value → World → Prop) (w : World) : Prop :=
 callS Tryz.prog 49 #[v_a] (fun t6 w_1 => 
 gd t6 true (fun k w_2 => k v_b w_2) (fun t8_1 w_3 => 
 gd t6 true (fun k_1 w_4 => callS Tryz.prog 49 #[t8_1] (fun t9 w_5 => k_1 t9 w_5) w_4) (fun t9_1 w_6 => 
 pur Tryz.prog (pickS t6 t9_1 (.bool false)) fun t10 => 
 gd t10 true (fun k_2 w_7 => k_2 v_a w_7) (fun t12_1 w_8 => 
 gd t10 true (fun k_3 w_9 => pur Tryz.prog (binS .eql 3 false true t12_1 (.int .i64 0)) fun t13 => k_3 t13 w_9) (fun t13_1 w_10 => 
 gd t10 true (fun k_4 w_11 => k_4 t13_1 w_11) (fun t14_1 w_12 => 
 gd t14_1 false (fun k_5 w_13 => k_5 v_b w_13) (fun t15_1 w_14 => 
 gd t14_1 false (fun k_6 w_15 => pur Tryz.prog (binS .eql 3 false true t15_1 (.int .i64 0)) fun t16 => k_6 t16 w_15) (fun t16_1 w_16 => 
 gd t10 true (fun k_7 w_17 => pur Tryz.prog (pickS t14_1 (.bool true) t16_1) fun t17 => k_7 t17 w_17) (fun t17_1 w_18 => 
 gd t10 true (fun k_8 w_19 => k_8 t17_1 w_19) (fun t18_1 w_20 => 
 gd t18_1 false (fun k_9 w_21 => k_9 v_a w_21) (fun t19_1 w_22 => 
 gd t18_1 false (fun k_10 w_23 => pur Tryz.prog (binS .eql 3 false true t19_1 (.int .i64 1)) fun t20 => k_10 t20 w_23) (fun t20_1 w_24 => 
 gd t18_1 false (fun k_11 w_25 => k_11 t20_1 w_25) (fun t21_1 w_26 => 
 gd t21_1 true (fun k_12 w_27 => k_12 v_b w_27) (fun t22_1 w_28 => 
 gd t21_1 true (fun k_13 w_29 => pur Tryz.prog (binS .eql 3 false true t22_1 (.int .i64 1)) fun t23 => k_13 t23 w_29) (fun t23_1 w_30 => 
 gd t18_1 false (fun k_14 w_31 => pur Tryz.prog (pickS t21_1 t23_1 (.bool false)) fun t24 => k_14 t24 w_31) (fun t24_1 w_32 => 
 gd t10 true (fun k_15 w_33 => pur Tryz.prog (pickS t18_1 (.bool true) t24_1) fun t25 => k_15 t25 w_33) (fun t25_1 w_34 => 
 pur Tryz.prog (pickS t10 t25_1 (.bool false)) fun t26 => 
 Q t26 w_34) w_32) w_30) w_28) w_26) w_24) w_22) w_20) w_18) w_16) w_14) w_12) w_10) w_8) w_6) w_3) w_1) w
theorem eq32 (v_a v_b : Value) (Q : Value → World → Prop) (w : World) : semF Tryz.prog 32 [v_a, v_b] Q w = S32 v_a v_b Q w := by kernel_rfl
theorem ref32 {v_a v_b : Value} {Q : Value → World → Prop} {w : World} (h : S32 v_a v_b Q w) : callS Tryz.prog 32 #[v_a, v_b] Q w :=
  callS_of mix (fun a w => Tryz.call32 a w) (by kernel_rfl) (by rw [eq32]; exact h)
-- (*commons/ltab.Table).Mode
def S33 (v_t v_node v_block : Value) (Q : Value → World → Prop) (w : World) : Prop :=
 callS Tryz.prog 16 #[v_t, v_node] (fun t11 w_1 => 
 pur Tryz.prog (Op.unary .not t11) fun t12 => 
 condS t12
  (Q (.int .i64 0) w_1)
  (pur Tryz.prog (nilV v_t) fun t16 => 
 pur Tryz.prog (Instr.fieldAt 54 t16 1) fun t17 => 
 pur Tryz.prog (Instr.indexAt 52 t17 v_node) fun t18 => 
 rd Tryz.prog (Instr.loadAt 51 t18) (fun t19 => 
 callS Tryz.prog 50 #[t19, v_block] (fun t21 w_2 => 
 pur Tryz.prog (Instr.extract t21 0) fun t22 => 
 pur Tryz.prog (Instr.extract t21 1) fun _ => 
 Q t22 w_2) w_1) w_1)) w
theorem eq33 (v_t v_node v_block : Value) (Q : Value → World → Prop) (w : World) : semF Tryz.prog 33 [v_t, v_node, v_block] Q w = S33 v_t v_node v_block Q w := by kernel_rfl
theorem ref33 {v_t v_node v_block : Value} {Q : Value → World → Prop} {w : World} (h : S33 v_t v_node v_block Q w) : callS Tryz.prog 33 #[v_t, v_node, v_block] Q w :=
  callS_of mix (fun a w => Tryz.call33 a w) (by kernel_rfl) (by rw [eq33]; exact h)
-- slices.Clone[[]commons/ltab.Wait,commons/ltab.Wait]
def S34 (v_s : Value) (Q : Value → World → Prop) (w : World) : Prop :=
 rd Tryz.prog (binS .eql 35 false true v_s (.slice none 0 0)) (fun t4 => 
 condS t4
  (Q (.slice none 0 0) w)
  (act Tryz.prog (Instr.buildSlice 35 0 #[]) (fun t5 w_1 => 
 act Tryz.prog (Builtin.append_ #[35, 35] 35 #[t5, v_s]) (fun t7 w_2 => 
 Q t7 w_2) w_1) w)) w
theorem eq34 (v_s : Value) (Q : Value → World → Prop) (w : World) : semF Tryz.prog 34 [v_s] Q w = S34 v_s Q w := by kernel_rfl
theorem ref34 {v_s : Value} {Q : Value → World → Prop} {w : World} (h : S34 v_s Q w) : callS Tryz.prog 34 #[v_s] Q w :=
  callS_of mix (fun a w => Tryz.call34 a w) (by kernel_rfl) (by rw [eq34]; exact h)
-- (*commons/ltab.Table).revoked
def S35 (v_t v_node v_l v_told : Value) (Q : Value → World → Prop) (w : World) : Prop :=
 act Tryz.prog (Instr.box 29 v_l) (fun t6 w_1 => 
 callS Tryz.prog 15 #[] (fun t18 w_2 => 
 pur Tryz.prog (nilV v_t) fun t21 => 
 pur Tryz.prog (Instr.fieldAt 54 t21 1) fun t22 => 
 pur Tryz.prog (Instr.indexAt 52 t22 v_node) fun t23 => 
 rd Tryz.prog (Instr.loadAt 51 t23) (fun t24 => 
 pur Tryz.prog (Instr.fieldAt 29 t6 0) fun t25 => 
 rd Tryz.prog (Instr.loadAt 27 t25) (fun t26 => 
 callS Tryz.prog 23 #[t24, t26] (fun t27 w_3 => 
 pur Tryz.prog (Builtin.len_ #[62] 3 #[t27]) fun t28 => 
 lp 1 (fun J => fun t29 w_4 => ∀ _j : Fr, 
  pur Tryz.prog (binS .lss 3 false false t29 t28) fun t30 => 
  condS t30
   (jn 0 (fun J_1 => 
   pur Tryz.prog (Instr.indexAt 62 t27 t29) fun t31 => 
   rd Tryz.prog (Instr.loadAt 65 t31) (fun t32 => 
   act Tryz.prog (Instr.alloc 65 true (.tuple #[])) (fun t11 w_5 => 
   act Tryz.prog (thenU (Instr.storeAt 65 t11 t32)) (fun _ w_6 => 
   pur Tryz.prog (Instr.fieldAt 65 t11 1) fun t33 => 
   rd Tryz.prog (Instr.loadAt 3 t33) (fun t34 => 
   pur Tryz.prog (Instr.fieldAt 29 t6 1) fun t35 => 
   rd Tryz.prog (Instr.loadAt 3 t35) (fun t36 => 
   callS Tryz.prog 47 #[t34, t36] (fun t37 w_7 => 
   condS t37
    (J_1  w_7)
    (pur Tryz.prog (Instr.fieldAt 29 t6 1) fun t38 => 
   rd Tryz.prog (Instr.loadAt 3 t38) (fun t39 => 
   pur Tryz.prog (Instr.fieldAt 65 t11 1) fun t40 => 
   rd Tryz.prog (Instr.loadAt 3 t40) (fun t41 => 
   callS Tryz.prog 51 #[t39, t41] (fun t42 w_8 => 
   pur Tryz.prog (Instr.fieldAt 65 t11 0) fun t44 => 
   rd Tryz.prog (Instr.loadAt 27 t44) (fun t45 => 
   callS Tryz.prog 25 #[t18, t45, t42] (fun _ w_9 => 
   pur Tryz.prog (Instr.fieldAt 65 t11 0) fun t49 => 
   rd Tryz.prog (Instr.loadAt 27 t49) (fun t50 => 
   callS Tryz.prog 23 #[v_told, t50] (fun t51 w_10 => 
   pur Tryz.prog (Builtin.len_ #[62] 3 #[t51]) fun t52 => 
   lp 1 (fun J_2 => fun t53 w_11 => ∀ _j : Fr, 
    pur Tryz.prog (binS .lss 3 false false t53 t52) fun t54 => 
    condS t54
     (jn 0 (fun J_3 => 
     pur Tryz.prog (Instr.indexAt 62 t51 t53) fun t55 => 
     rd Tryz.prog (Instr.loadAt 65 t55) (fun t56 => 
     act Tryz.prog (Instr.alloc 65 true (.tuple #[])) (fun t14 w_12 => 
     act Tryz.prog (thenU (Instr.storeAt 65 t14 t56)) (fun _ w_13 => 
     pur Tryz.prog (Instr.fieldAt 65 t14 1) fun t57 => 
     rd Tryz.prog (Instr.loadAt 3 t57) (fun t58 => 
     pur Tryz.prog (binS .add 3 false true t42 (.int .i64 1)) fun t60 => 
     pur Tryz.prog (binS .leq 3 false false t58 t60) fun t61 => 
     condS t61
      (pur Tryz.prog (Instr.fieldAt 65 t14 0) fun t63 => 
      rd Tryz.prog (Instr.loadAt 27 t63) (fun t64 => 
      callS Tryz.prog 24 #[t18, t64] (fun _ w_14 => 
      J_3  w_14) w_13) w_13)
      (J_3  w_13)) w_13) w_12) w_11) w_11)
    (fun  w_15 => ∀ _j : Fr, 
     pur Tryz.prog (binS .add 3 false true t53 (.int .i64 1)) fun t66 => 
     J_2 t66 w_15))
     (J_1  w_11)) [(.int .i64 0)] w_10) w_9) w_9) w_8) w_8) w_7) w_7) w_7)) w_6) w_6) w_6) w_5) w_4) w_4)
  (fun  w_16 => ∀ _j : Fr, 
   pur Tryz.prog (binS .add 3 false true t29 (.int .i64 1)) fun t67 => 
   J t67 w_16))
   (callS Tryz.prog 48 #[t18] (fun t69 w_17 => 
 pur Tryz.prog (Builtin.len_ #[62] 3 #[t69]) fun t70 => 
 lp 2 (fun J_4 => fun v_out t71 w_18 => ∀ _j : Fr, 
  pur Tryz.prog (binS .lss 3 false false t71 t70) fun t72 => 
  condS t72
   (pur Tryz.prog (Instr.indexAt 62 t69 t71) fun t73 => 
  rd Tryz.prog (Instr.loadAt 65 t73) (fun t74 => 
  act Tryz.prog (Instr.alloc 65 true (.tuple #[])) (fun t17 w_19 => 
  act Tryz.prog (thenU (Instr.storeAt 65 t17 t74)) (fun _ w_20 => 
  pur Tryz.prog (Instr.fieldAt 65 t17 0) fun t76 => 
  rd Tryz.prog (Instr.loadAt 27 t76) (fun t77 => 
  pur Tryz.prog (Instr.fieldAt 65 t17 1) fun t78 => 
  rd Tryz.prog (Instr.loadAt 3 t78) (fun t79 => 
  pur Tryz.prog (Instr.build 29 #[(0, t77), (1, t79)]) fun t80 => 
  act Tryz.prog (Instr.buildSlice 69 1 #[(0, t80)]) (fun t81 w_21 => 
  act Tryz.prog (Builtin.append_ #[69, 69] 69 #[v_out, t81]) (fun t82 w_22 => 
  pur Tryz.prog (binS .add 3 false true t71 (.int .i64 1)) fun t83 => 
  J_4 t82 t83 w_22) w_21) w_20) w_20) w_20) w_19) w_18) w_18)
   (Q v_out w_18)) [(.slice none 0 0), (.int .i64 0)] w_17) w_4)) [(.int .i64 0)] w_3) (World.drew w_2)) (World.drew w_2)) (World.drew w_2)) w_1) w
theorem eq35 (v_t v_node v_l v_told : Value) (Q : Value → World → Prop) (w : World) : semF Tryz.prog 35 [v_t, v_node, v_l, v_told] Q w = S35 v_t v_node v_l v_told Q w := by kernel_rfl
theorem ref35 {v_t v_node v_l v_told : Value} {Q : Value → World → Prop} {w : World} (h : S35 v_t v_node v_l v_told Q w) : callS Tryz.prog 35 #[v_t, v_node, v_l, v_told] Q w :=
  callS_of mix (fun a w => Tryz.call35 a w) (by kernel_rfl) (by rw [eq35]; exact h)
-- commons/mode.Needs
def S36 (v_held v_l : Value) (Q : Value → World → Prop) (w : World) : Prop :=
 callS Tryz.prog 52 #[v_l] (fun t11 w_1 => 
 callS Tryz.prog 53 #[t11] (fun t13 w_2 => 
 pur Tryz.prog (Builtin.len_ #[69] 3 #[t13]) fun t14 => 
 lp 1 (fun J => fun t15 w_3 => ∀ _j : Fr, 
  pur Tryz.prog (binS .lss 3 false false t15 t14) fun t16 => 
  condS t16
   (pur Tryz.prog (Instr.indexAt 69 t13 t15) fun t17 => 
  rd Tryz.prog (Instr.loadAt 29 t17) (fun t18 => 
  act Tryz.prog (Instr.alloc 29 true (.tuple #[])) (fun t7 w_4 => 
  act Tryz.prog (thenU (Instr.storeAt 29 t7 t18)) (fun _ w_5 => 
  pur Tryz.prog (Instr.fieldAt 29 t7 0) fun t20 => 
  rd Tryz.prog (Instr.loadAt 27 t20) (fun t21 => 
  callS Tryz.prog 23 #[v_held, t21] (fun t22 w_6 => 
  pur Tryz.prog (Builtin.len_ #[62] 3 #[t22]) fun t23 => 
  lp 1 (fun J_1 => fun t24 w_7 => ∀ _j : Fr, 
   pur Tryz.prog (binS .lss 3 false false t24 t23) fun t25 => 
   condS t25
    (jn 0 (fun J_2 => 
    pur Tryz.prog (Instr.indexAt 62 t22 t24) fun t26 => 
    rd Tryz.prog (Instr.loadAt 65 t26) (fun t27 => 
    act Tryz.prog (Instr.alloc 65 true (.tuple #[])) (fun t9 w_8 => 
    act Tryz.prog (thenU (Instr.storeAt 65 t9 t27)) (fun _ w_9 => 
    pur Tryz.prog (Instr.fieldAt 65 t9 1) fun t28 => 
    rd Tryz.prog (Instr.loadAt 3 t28) (fun t29 => 
    pur Tryz.prog (Instr.fieldAt 29 t7 1) fun t30 => 
    rd Tryz.prog (Instr.loadAt 3 t30) (fun t31 => 
    callS Tryz.prog 54 #[t29, t31] (fun t32 w_10 => 
    condS t32
     (pur Tryz.prog (Instr.fieldAt 65 t9 0) fun t34 => 
     rd Tryz.prog (Instr.loadAt 27 t34) (fun t35 => 
     callS Tryz.prog 24 #[t11, t35] (fun _ w_11 => 
     J_2  w_11) w_10) w_10)
     (J_2  w_10)) w_9) w_9) w_9) w_8) w_7) w_7)
   (fun  w_12 => ∀ _j : Fr, 
    pur Tryz.prog (binS .add 3 false true t24 (.int .i64 1)) fun t37 => 
    J_1 t37 w_12))
    (pur Tryz.prog (binS .add 3 false true t15 (.int .i64 1)) fun t38 => 
  J t38 w_7)) [(.int .i64 0)] w_6) w_5) w_5) w_4) w_3) w_3)
   (callS Tryz.prog 53 #[t11] (fun t40 w_13 => 
 Q t40 w_13) w_3)) [(.int .i64 0)] w_2) w_1) w
theorem eq36 (v_held v_l : Value) (Q : Value → World → Prop) (w : World) : semF Tryz.prog 36 [v_held, v_l] Q w = S36 v_held v_l Q w := by kernel_rfl
theorem ref36 {v_held v_l : Value} {Q : Value → World → Prop} {w : World} (h : S36 v_held v_l Q w) : callS Tryz.prog 36 #[v_held, v_l] Q w :=
  callS_of mix (fun a w => Tryz.call36 a w) (by kernel_rfl) (by rw [eq36]; exact h)
-- (*commons/ltab.Table).hinders
def S37 (v_t v_node v_l v_ahead : Value) (Q : Value → World → Prop) (w : World) : Prop :=
 act Tryz.prog (Instr.box 29 v_l) (fun t6 w_1 => 
 pur Tryz.prog (Instr.fieldAt 29 t6 0) fun t18 => 
 pur Tryz.prog (Instr.fieldAt 27 t18 1) fun t19 => 
 rd Tryz.prog (Instr.loadAt 3 t19) (fun t20 => 
 lp 2 (fun J => fun v_first v_other w_2 => ∀ _j : Fr, 
  pur Tryz.prog (nilV v_t) fun t23 => 
  pur Tryz.prog (Instr.fieldAt 54 t23 0) fun t24 => 
  rd Tryz.prog (Instr.loadAt 3 t24) (fun t25 => 
  pur Tryz.prog (binS .leq 3 false false v_other t25) fun t26 => 
  condS t26
   (jn 1 (fun J_1 => 
   pur Tryz.prog (binS .eql 3 false false v_other v_node) fun t31 => 
   condS t31
    (J_1 v_first w_2)
    (pur Tryz.prog (nilV v_t) fun t34 => 
   pur Tryz.prog (Instr.fieldAt 54 t34 1) fun t35 => 
   pur Tryz.prog (Instr.indexAt 52 t35 v_other) fun t36 => 
   rd Tryz.prog (Instr.loadAt 51 t36) (fun t37 => 
   pur Tryz.prog (Instr.fieldAt 29 t6 0) fun t38 => 
   rd Tryz.prog (Instr.loadAt 27 t38) (fun t39 => 
   callS Tryz.prog 23 #[t37, t39] (fun t40 w_3 => 
   pur Tryz.prog (Builtin.len_ #[62] 3 #[t40]) fun t41 => 
   lp 2 (fun J_2 => fun v_first_1 t42 w_4 => ∀ _j : Fr, 
    pur Tryz.prog (binS .lss 3 false false t42 t41) fun t43 => 
    condS t43
     (jn 1 (fun J_3 => 
     pur Tryz.prog (Instr.indexAt 62 t40 t42) fun t44 => 
     rd Tryz.prog (Instr.loadAt 65 t44) (fun t45 => 
     act Tryz.prog (Instr.alloc 65 true (.tuple #[])) (fun t13 w_5 => 
     act Tryz.prog (thenU (Instr.storeAt 65 t13 t45)) (fun _ w_6 => 
     pur Tryz.prog (Instr.fieldAt 65 t13 1) fun t46 => 
     rd Tryz.prog (Instr.loadAt 3 t46) (fun t47 => 
     pur Tryz.prog (Instr.fieldAt 29 t6 1) fun t48 => 
     rd Tryz.prog (Instr.loadAt 3 t48) (fun t49 => 
     callS Tryz.prog 47 #[t47, t49] (fun t50 w_7 => 
     pur Tryz.prog (Op.unary .not t50) fun t51 => 
     condS t51
      (pur Tryz.prog (Instr.fieldAt 65 t13 0) fun t53 => 
      pur Tryz.prog (Instr.fieldAt 27 t53 0) fun t54 => 
      rd Tryz.prog (Instr.loadAt 3 t54) (fun t55 => 
      pur Tryz.prog (Builtin.min_ #[3, 3] 3 #[v_first_1, t55]) fun t56 => 
      J_3 t56 w_7) w_7)
      (J_3 v_first_1 w_7)) w_6) w_6) w_6) w_5) w_4) w_4)
    (fun v_first_2 w_8 => ∀ _j : Fr, 
     pur Tryz.prog (binS .add 3 false true t42 (.int .i64 1)) fun t57 => 
     J_2 v_first_2 t57 w_8))
     (J_1 v_first_1 w_4)) [v_first, (.int .i64 0)] w_3) (World.drew w_2)) (World.drew w_2)) (World.drew w_2)))
  (fun v_first_3 w_9 => ∀ _j : Fr, 
   pur Tryz.prog (binS .add 3 false true v_other (.int .i64 1)) fun t28 => 
   J v_first_3 t28 w_9))
   (pur Tryz.prog (Builtin.len_ #[35] 3 #[v_ahead]) fun t59 => 
 lp 2 (fun J_4 => fun v_first_4 t60 w_10 => ∀ _j : Fr, 
  pur Tryz.prog (binS .lss 3 false false t60 t59) fun t61 => 
  condS t61
   (jn 1 (fun J_5 => 
   pur Tryz.prog (Instr.indexAt 35 v_ahead t60) fun t62 => 
   rd Tryz.prog (Instr.loadAt 50 t62) (fun t63 => 
   act Tryz.prog (Instr.alloc 50 true (.tuple #[])) (fun t15 w_11 => 
   act Tryz.prog (thenU (Instr.storeAt 50 t15 t63)) (fun _ w_12 => 
   pur Tryz.prog (Instr.fieldAt 50 t15 2) fun t65 => 
   pur Tryz.prog (Instr.fieldAt 29 t65 0) fun t66 => 
   rd Tryz.prog (Instr.loadAt 27 t66) (fun t67 => 
   pur Tryz.prog (Instr.fieldAt 29 t6 0) fun t68 => 
   rd Tryz.prog (Instr.loadAt 27 t68) (fun t69 => 
   callS Tryz.prog 40 #[t67, t69] (fun t70 w_13 => 
   pur Tryz.prog (Instr.extract t70 0) fun t71 => 
   pur Tryz.prog (Instr.extract t70 1) fun t72 => 
   act Tryz.prog (Instr.alloc 27 true (.tuple #[])) (fun t16 w_14 => 
   act Tryz.prog (thenU (Instr.storeAt 27 t16 t71)) (fun _ w_15 => 
   gd t72 true (fun k w_16 => pur Tryz.prog (Instr.fieldAt 50 t15 1) fun t75 => k t75 w_16) (fun t75_1 w_17 => 
   gd t72 true (fun k_1 w_18 => rd Tryz.prog (Instr.loadAt 3 t75_1) (fun t76 => k_1 t76 w_18) w_18) (fun t76_1 w_19 => 
   gd t72 true (fun k_2 w_20 => k_2 v_node w_20) (fun t77_1 w_21 => 
   gd t72 true (fun k_3 w_22 => pur Tryz.prog (binS .neq 3 false false t76_1 t77_1) fun t78 => k_3 t78 w_22) (fun t78_1 w_23 => 
   pur Tryz.prog (pickS t72 t78_1 (.bool false)) fun t79 => 
   gd t79 true (fun k_4 w_24 => pur Tryz.prog (Instr.fieldAt 50 t15 2) fun t81 => k_4 t81 w_24) (fun t81_1 w_25 => 
   gd t79 true (fun k_5 w_26 => pur Tryz.prog (Instr.fieldAt 29 t81_1 1) fun t82 => k_5 t82 w_26) (fun t82_1 w_27 => 
   gd t79 true (fun k_6 w_28 => rd Tryz.prog (Instr.loadAt 3 t82_1) (fun t83 => k_6 t83 w_28) w_28) (fun t83_1 w_29 => 
   gd t79 true (fun k_7 w_30 => pur Tryz.prog (Instr.fieldAt 29 t6 1) fun t84 => k_7 t84 w_30) (fun t84_1 w_31 => 
   gd t79 true (fun k_8 w_32 => rd Tryz.prog (Instr.loadAt 3 t84_1) (fun t85 => k_8 t85 w_32) w_32) (fun t85_1 w_33 => 
   gd t79 true (fun k_9 w_34 => callS Tryz.prog 47 #[t83_1, t85_1] (fun t86 w_35 => k_9 t86 w_35) w_34) (fun t86_1 w_36 => 
   gd t79 true (fun k_10 w_37 => pur Tryz.prog (Op.unary .not t86_1) fun t87 => k_10 t87 w_37) (fun t87_1 w_38 => 
   pur Tryz.prog (pickS t79 t87_1 (.bool false)) fun t88 => 
   condS t88
    (pur Tryz.prog (Instr.fieldAt 27 t16 0) fun t90 => 
    rd Tryz.prog (Instr.loadAt 3 t90) (fun t91 => 
    pur Tryz.prog (Builtin.min_ #[3, 3] 3 #[v_first_4, t91]) fun t92 => 
    J_5 t92 w_38) w_38)
    (J_5 v_first_4 w_38)) w_36) w_33) w_31) w_29) w_27) w_25) w_23) w_21) w_19) w_17) w_15) w_14) w_13) w_12) w_12) w_12) w_11) w_10) w_10)
  (fun v_first_5 w_39 => ∀ _j : Fr, 
   pur Tryz.prog (binS .add 3 false true t60 (.int .i64 1)) fun t93 => 
   J_4 v_first_5 t93 w_39))
   (pur Tryz.prog (Instr.fieldAt 29 t6 0) fun t96 => 
 pur Tryz.prog (Instr.fieldAt 27 t96 1) fun t97 => 
 rd Tryz.prog (Instr.loadAt 3 t97) (fun t98 => 
 pur Tryz.prog (binS .lss 3 false false v_first_4 t98) fun t99 => 
 Q (.tuple #[v_first_4, t99]) (World.drew w_10)) (World.drew w_10))) [v_first, (.int .i64 0)] w_2)) w_2) [t20, (.int .i64 1)] w_1) w_1) w
theorem eq37 (v_t v_node v_l v_ahead : Value) (Q : Value → World → Prop) (w : World) : semF Tryz.prog 37 [v_t, v_node, v_l, v_ahead] Q w = S37 v_t v_node v_l v_ahead Q w := by kernel_rfl
theorem ref37 {v_t v_node v_l v_ahead : Value} {Q : Value → World → Prop} {w : World} (h : S37 v_t v_node v_l v_ahead Q w) : callS Tryz.prog 37 #[v_t, v_node, v_l, v_ahead] Q w :=
  callS_of mix (fun a w => Tryz.call37 a w) (by kernel_rfl) (by rw [eq37]; exact h)
-- (*commons/ltab.Table).claims
def S38 (v_t : Value) (Q : Value → World → Prop) (w : World) : Prop :=
 pur Tryz.prog (nilV v_t) fun t9 => 
 pur Tryz.prog (Instr.fieldAt 54 t9 2) fun t10 => 
 rd Tryz.prog (Instr.loadAt 35 t10) (fun t11 => 
 pur Tryz.prog (Builtin.len_ #[35] 3 #[t11]) fun t12 => 
 lp 2 (fun J => fun v_out t13 w_1 => ∀ _j : Fr, 
  pur Tryz.prog (binS .lss 3 false false t13 t12) fun t14 => 
  condS t14
   (jn 1 (fun J_1 => 
   pur Tryz.prog (Instr.indexAt 35 t11 t13) fun t15 => 
   rd Tryz.prog (Instr.loadAt 50 t15) (fun t16 => 
   act Tryz.prog (Instr.alloc 50 true (.tuple #[])) (fun t5 w_2 => 
   act Tryz.prog (thenU (Instr.storeAt 50 t5 t16)) (fun _ w_3 => 
   pur Tryz.prog (Instr.fieldAt 50 t5 1) fun t19 => 
   rd Tryz.prog (Instr.loadAt 3 t19) (fun t20 => 
   pur Tryz.prog (Instr.fieldAt 50 t5 2) fun t21 => 
   rd Tryz.prog (Instr.loadAt 29 t21) (fun t22 => 
   callS Tryz.prog 37 #[v_t, t20, t22, v_out] (fun t24 w_4 => 
   pur Tryz.prog (Instr.extract t24 0) fun t25 => 
   pur Tryz.prog (Instr.extract t24 1) fun t26 => 
   condS t26
    (rd Tryz.prog (Instr.loadAt 50 t5) (fun t29 => 
    callS Tryz.prog 45 #[t29, t25] (fun t31 w_5 => 
    act Tryz.prog (Instr.buildSlice 35 1 #[(0, t31)]) (fun t32 w_6 => 
    act Tryz.prog (Builtin.append_ #[35, 35] 35 #[v_out, t32]) (fun t33 w_7 => 
    J_1 t33 w_7) w_6) w_5) w_4) w_4)
    (J_1 v_out w_4)) w_3) w_3) w_3) w_2) w_1) w_1)
  (fun v_out_1 w_8 => ∀ _j : Fr, 
   pur Tryz.prog (binS .add 3 false true t13 (.int .i64 1)) fun t34 => 
   J v_out_1 t34 w_8))
   (Q v_out w_1)) [(.slice none 0 0), (.int .i64 0)] w) w
theorem eq38 (v_t : Value) (Q : Value → World → Prop) (w : World) : semF Tryz.prog 38 [v_t] Q w = S38 v_t Q w := by kernel_rfl
theorem ref38 {v_t : Value} {Q : Value → World → Prop} {w : World} (h : S38 v_t Q w) : callS Tryz.prog 38 #[v_t] Q w :=
  callS_of mix (fun a w => Tryz.call38 a w) (by kernel_rfl) (by rw [eq38]; exact h)
-- commons/mode.Join
def S39 (v_a v_b : Value) (Q : Value → World → Prop) (w : World) : Prop :=
 pur Tryz.prog (Builtin.max_ #[3, 3] 3 #[v_a, v_b]) fun t7 => 
 Q t7 w
theorem eq39 (v_a v_b : Value) (Q : Value → World → Prop) (w : World) : semF Tryz.prog 39 [v_a, v_b] Q w = S39 v_a v_b Q w := by kernel_rfl
theorem ref39 {v_a v_b : Value} {Q : Value → World → Prop} {w : World} (h : S39 v_a v_b Q w) : callS Tryz.prog 39 #[v_a, v_b] Q w :=
  callS_of mix (fun a w => Tryz.call39 a w) (by kernel_rfl) (by rw [eq39]; exact h)
-- commons/span.Meet
def S40 (v_a v_b : Value) (Q : Value → World → Prop) (w : World) : Prop :=
 act Tryz.prog (Instr.box 27 v_a) (fun t2 w_1 => 
 act Tryz.prog (Instr.box 27 v_b) (fun t3 w_2 => 
 act Tryz.prog (Instr.alloc 27 true (.tuple #[])) (fun t4 w_3 => 
 pur Tryz.prog (Instr.fieldAt 27 t2 0) fun t7 => 
 rd Tryz.prog (Instr.loadAt 3 t7) (fun t8 => 
 pur Tryz.prog (Instr.fieldAt 27 t3 0) fun t9 => 
 rd Tryz.prog (Instr.loadAt 3 t9) (fun t10 => 
 pur Tryz.prog (Builtin.max_ #[3, 3] 3 #[t8, t10]) fun t11 => 
 pur Tryz.prog (Instr.fieldAt 27 t2 1) fun t12 => 
 rd Tryz.prog (Instr.loadAt 3 t12) (fun t13 => 
 pur Tryz.prog (Instr.fieldAt 27 t3 1) fun t14 => 
 rd Tryz.prog (Instr.loadAt 3 t14) (fun t15 => 
 pur Tryz.prog (Builtin.min_ #[3, 3] 3 #[t13, t15]) fun t16 => 
 pur Tryz.prog (Instr.build 27 #[(0, t11), (1, t16)]) fun t17 => 
 act Tryz.prog (Instr.alloc 27 true (.tuple #[])) (fun t6 w_4 => 
 act Tryz.prog (thenU (Instr.storeAt 27 t6 t17)) (fun _ w_5 => 
 rd Tryz.prog (Instr.loadAt 27 t2) (fun t18 => 
 callS Tryz.prog 22 #[t18] (fun t19 w_6 => 
 pur Tryz.prog (Op.unary .not t19) fun t20 => 
 gd t20 false (fun k w_7 => rd Tryz.prog (Instr.loadAt 27 t3) (fun t22 => k t22 w_7) w_7) (fun t22_1 w_8 => 
 gd t20 false (fun k_1 w_9 => callS Tryz.prog 22 #[t22_1] (fun t23 w_10 => k_1 t23 w_10) w_9) (fun t23_1 w_11 => 
 gd t20 false (fun k_2 w_12 => pur Tryz.prog (Op.unary .not t23_1) fun t24 => k_2 t24 w_12) (fun t24_1 w_13 => 
 pur Tryz.prog (pickS t20 (.bool true) t24_1) fun t25 => 
 gd t25 false (fun k_3 w_14 => rd Tryz.prog (Instr.loadAt 27 t6) (fun t27 => k_3 t27 w_14) w_14) (fun t27_1 w_15 => 
 gd t25 false (fun k_4 w_16 => callS Tryz.prog 22 #[t27_1] (fun t28 w_17 => k_4 t28 w_17) w_16) (fun t28_1 w_18 => 
 gd t25 false (fun k_5 w_19 => pur Tryz.prog (Op.unary .not t28_1) fun t29 => k_5 t29 w_19) (fun t29_1 w_20 => 
 pur Tryz.prog (pickS t25 (.bool true) t29_1) fun t30 => 
 condS t30
  (pur Tryz.prog (Instr.build 27 #[]) fun t31 => 
  act Tryz.prog (thenU (Instr.storeAt 27 t4 t31)) (fun _ w_21 => 
  rd Tryz.prog (resL 27 t4) (fun r => Q (.tuple #[r, (.bool false)]) w_21) w_21) w_20)
  (rd Tryz.prog (Instr.loadAt 27 t6) (fun t32 => 
 act Tryz.prog (thenU (Instr.storeAt 27 t4 t32)) (fun _ w_22 => 
 rd Tryz.prog (resL 27 t4) (fun r_1 => Q (.tuple #[r_1, (.bool true)]) w_22) w_22) w_20) w_20)) w_18) w_15) w_13) w_11) w_8) w_6) w_5) w_5) w_4) w_3) w_3) w_3) w_3) w_3) w_2) w_1) w
theorem eq40 (v_a v_b : Value) (Q : Value → World → Prop) (w : World) : semF Tryz.prog 40 [v_a, v_b] Q w = S40 v_a v_b Q w := by kernel_rfl
theorem ref40 {v_a v_b : Value} {Q : Value → World → Prop} {w : World} (h : S40 v_a v_b Q w) : callS Tryz.prog 40 #[v_a, v_b] Q w :=
  callS_of mix (fun a w => Tryz.call40 a w) (by kernel_rfl) (by rw [eq40]; exact h)
-- slices.ContainsFunc[[]commons/imap.Part[int],commons/imap.Part[int]]
def S41 (v_s v_f : Value) (Q : Value → World → Prop) (w : World) : Prop :=
 callS Tryz.prog 55 #[v_s, v_f] (fun t7 w_1 => 
 pur Tryz.prog (binS .geq 3 false true t7 (.int .i64 0)) fun t8 => 
 Q t8 w_1) w
theorem eq41 (v_s v_f : Value) (Q : Value → World → Prop) (w : World) : semF Tryz.prog 41 [v_s, v_f] Q w = S41 v_s v_f Q w := by kernel_rfl
theorem ref41 {v_s v_f : Value} {Q : Value → World → Prop} {w : World} (h : S41 v_s v_f Q w) : callS Tryz.prog 41 #[v_s, v_f] Q w :=
  callS_of mix (fun a w => Tryz.call41 a w) (by kernel_rfl) (by rw [eq41]; exact h)
-- (*commons/ltab.Table).dead$1
def S42 (v_q : Value) (Q : Value → World → Prop) (w : World) : Prop :=
 act Tryz.prog (Instr.box 65 v_q) (fun t1 w_1 => 
 pur Tryz.prog (Instr.fieldAt 65 t1 1) fun t3 => 
 rd Tryz.prog (Instr.loadAt 3 t3) (fun t4 => 
 pur Tryz.prog (binS .eql 3 false true t4 (.int .i64 1)) fun t5 => 
 Q t5 w_1) w_1) w
theorem eq42 (v_q : Value) (Q : Value → World → Prop) (w : World) : semF Tryz.prog 42 [v_q] Q w = S42 v_q Q w := by kernel_rfl
theorem ref42 {v_q : Value} {Q : Value → World → Prop} {w : World} (h : S42 v_q Q w) : callS Tryz.prog 42 #[v_q] Q w :=
  callS_of mix (fun a w => Tryz.call42 a w) (by kernel_rfl) (by rw [eq42]; exact h)
-- (*commons/imap.Map[int]).lay
def S43 (v_m v_l : Value) (Q : Value → World → Prop) (w : World) : Prop :=
 callS Tryz.prog 56 #[v_l, (.func (.func 57) #[] #[])] (fun _ w_1 => 
 pur Tryz.prog (nilV v_m) fun t10 => 
 pur Tryz.prog (Instr.fieldAt 76 t10 0) fun t11 => 
 act Tryz.prog (thenU (Instr.storeAt 62 t11 (.slice none 0 0))) (fun _ w_2 => 
 pur Tryz.prog (Builtin.len_ #[62] 3 #[v_l]) fun t13 => 
 lp 1 (fun J => fun t14 w_3 => ∀ _j : Fr, 
  pur Tryz.prog (binS .lss 3 false false t14 t13) fun t15 => 
  condS t15
   (jn 0 (fun J_1 => 
   pur Tryz.prog (Instr.indexAt 62 v_l t14) fun t16 => 
   rd Tryz.prog (Instr.loadAt 65 t16) (fun t17 => 
   act Tryz.prog (Instr.alloc 65 true (.tuple #[])) (fun t5 w_4 => 
   act Tryz.prog (thenU (Instr.storeAt 65 t5 t17)) (fun _ w_5 => 
   pur Tryz.prog (nilV v_m) fun t19 => 
   pur Tryz.prog (Instr.fieldAt 76 t19 0) fun t20 => 
   rd Tryz.prog (Instr.loadAt 62 t20) (fun t21 => 
   pur Tryz.prog (Builtin.len_ #[62] 3 #[t21]) fun t22 => 
   pur Tryz.prog (binS .sub 3 false true t22 (.int .i64 1)) fun t23 => 
   pur Tryz.prog (binS .geq 3 false true t23 (.int .i64 0)) fun t25 => 
   gd t25 true (fun k w_6 => k v_m w_6) (fun t27_1 w_7 => 
   gd t25 true (fun k_1 w_8 => pur Tryz.prog (nilV t27_1) fun t28 => k_1 t28 w_8) (fun t28_1 w_9 => 
   gd t25 true (fun k_2 w_10 => pur Tryz.prog (Instr.fieldAt 76 t28_1 0) fun t29 => k_2 t29 w_10) (fun t29_1 w_11 => 
   gd t25 true (fun k_3 w_12 => rd Tryz.prog (Instr.loadAt 62 t29_1) (fun t30 => k_3 t30 w_12) w_12) (fun t30_1 w_13 => 
   gd t25 true (fun k_4 w_14 => k_4 t23 w_14) (fun t31_1 w_15 => 
   gd t25 true (fun k_5 w_16 => pur Tryz.prog (Instr.indexAt 62 t30_1 t31_1) fun t32 => k_5 t32 w_16) (fun t32_1 w_17 => 
   gd t25 true (fun k_6 w_18 => pur Tryz.prog (Instr.fieldAt 65 t32_1 0) fun t33 => k_6 t33 w_18) (fun t33_1 w_19 => 
   gd t25 true (fun k_7 w_20 => pur Tryz.prog (Instr.fieldAt 27 t33_1 1) fun t34 => k_7 t34 w_20) (fun t34_1 w_21 => 
   gd t25 true (fun k_8 w_22 => rd Tryz.prog (Instr.loadAt 3 t34_1) (fun t35 => k_8 t35 w_22) w_22) (fun t35_1 w_23 => 
   gd t25 true (fun k_9 w_24 => pur Tryz.prog (Instr.fieldAt 65 t5 0) fun t36 => k_9 t36 w_24) (fun t36_1 w_25 => 
   gd t25 true (fun k_10 w_26 => pur Tryz.prog (Instr.fieldAt 27 t36_1 0) fun t37 => k_10 t37 w_26) (fun t37_1 w_27 => 
   gd t25 true (fun k_11 w_28 => rd Tryz.prog (Instr.loadAt 3 t37_1) (fun t38 => k_11 t38 w_28) w_28) (fun t38_1 w_29 => 
   gd t25 true (fun k_12 w_30 => pur Tryz.prog (binS .eql 3 false false t35_1 t38_1) fun t39 => k_12 t39 w_30) (fun t39_1 w_31 => 
   pur Tryz.prog (pickS t25 t39_1 (.bool false)) fun t40 => 
   gd t40 true (fun k_13 w_32 => k_13 v_m w_32) (fun t42_1 w_33 => 
   gd t40 true (fun k_14 w_34 => pur Tryz.prog (nilV t42_1) fun t43 => k_14 t43 w_34) (fun t43_1 w_35 => 
   gd t40 true (fun k_15 w_36 => pur Tryz.prog (Instr.fieldAt 76 t43_1 0) fun t44 => k_15 t44 w_36) (fun t44_1 w_37 => 
   gd t40 true (fun k_16 w_38 => rd Tryz.prog (Instr.loadAt 62 t44_1) (fun t45 => k_16 t45 w_38) w_38) (fun t45_1 w_39 => 
   gd t40 true (fun k_17 w_40 => k_17 t23 w_40) (fun t46_1 w_41 => 
   gd t40 true (fun k_18 w_42 => pur Tryz.prog (Instr.indexAt 62 t45_1 t46_1) fun t47 => k_18 t47 w_42) (fun t47_1 w_43 => 
   gd t40 true (fun k_19 w_44 => pur Tryz.prog (Instr.fieldAt 65 t47_1 1) fun t48 => k_19 t48 w_44) (fun t48_1 w_45 => 
   gd t40 true (fun k_20 w_46 => rd Tryz.prog (Instr.loadAt 3 t48_1) (fun t49 => k_20 t49 w_46) w_46) (fun t49_1 w_47 => 
   gd t40 true (fun k_21 w_48 => pur Tryz.prog (Instr.fieldAt 65 t5 1) fun t50 => k_21 t50 w_48) (fun t50_1 w_49 => 
   gd t40 true (fun k_22 w_50 => rd Tryz.prog (Instr.loadAt 3 t50_1) (fun t51 => k_22 t51 w_50) w_50) (fun t51_1 w_51 => 
   gd t40 true (fun k_23 w_52 => pur Tryz.prog (binS .eql 3 false false t49_1 t51_1) fun t52 => k_23 t52 w_52) (fun t52_1 w_53 => 
   pur Tryz.prog (pickS t40 t52_1 (.bool false)) fun t53 => 
   condS t53
    (pur Tryz.prog (nilV v_m) fun t55 => 
    pur Tryz.prog (Instr.fieldAt 76 t55 0) fun t56 => 
    rd Tryz.prog (Instr.loadAt 62 t56) (fun t57 => 
    pur Tryz.prog (Instr.fieldAt 65 t5 0) fun t59 => 
    pur Tryz.prog (Instr.fieldAt 27 t59 1) fun t60 => 
    rd Tryz.prog (Instr.loadAt 3 t60) (fun t61 => 
    pur Tryz.prog (Instr.indexAt 62 t57 t23) fun t62 => 
    pur Tryz.prog (Instr.fieldAt 65 t62 0) fun t63 => 
    pur Tryz.prog (Instr.fieldAt 27 t63 1) fun t64 => 
    act Tryz.prog (thenU (Instr.storeAt 3 t64 t61)) (fun _ w_54 => 
    J_1  w_54) (World.drew w_53)) (World.drew w_53)) (World.drew w_53))
    (jn 0 (fun J_2 => 
     pur Tryz.prog (nilV v_m) fun t67 => 
     pur Tryz.prog (Instr.fieldAt 76 t67 0) fun t68 => 
     rd Tryz.prog (Instr.loadAt 65 t5) (fun t70 => 
     (rd Tryz.prog (Instr.loadAt 62 t68) (fun t69 => 
     act Tryz.prog (Instr.buildSlice 62 1 #[(0, t70)]) (fun t71 w_55 => 
     act Tryz.prog (Builtin.append_ #[62, 62] 62 #[t69, t71]) (fun t72 w_56 => 
     pur Tryz.prog (nilV v_m) fun t73 => 
     pur Tryz.prog (Instr.fieldAt 76 t73 0) fun t74 => 
     act Tryz.prog (thenU (Instr.storeAt 62 t74 t72)) (fun _ w_57 => 
     J_2  w_57) w_56) w_55) (World.drew w_53)) (World.drew w_53)
     ) ∧ (act Tryz.prog (Instr.buildSlice 62 1 #[(0, t70)]) (fun t71_1 w_58 => 
     rd Tryz.prog (Instr.loadAt 62 t68) (fun t69_1 => 
     act Tryz.prog (Builtin.append_ #[62, 62] 62 #[t69_1, t71_1]) (fun t72_1 w_59 => 
     pur Tryz.prog (nilV v_m) fun t73_1 => 
     pur Tryz.prog (Instr.fieldAt 76 t73_1 0) fun t74_1 => 
     act Tryz.prog (thenU (Instr.storeAt 62 t74_1 t72_1)) (fun _ w_60 => 
     J_2  w_60) w_59) w_58) w_58) (World.drew w_53))) (World.drew w_53))
    (fun  w_61 => ∀ _j : Fr, 
     J_1  w_61))) w_51) w_49) w_47) w_45) w_43) w_41) w_39) w_37) w_35) w_33) w_31) w_29) w_27) w_25) w_23) w_21) w_19) w_17) w_15) w_13) w_11) w_9) w_7) (World.drew w_5)) w_5) w_4) w_3) w_3)
  (fun  w_62 => ∀ _j : Fr, 
   pur Tryz.prog (binS .add 3 false true t14 (.int .i64 1)) fun t75 => 
   J t75 w_62))
   (Q (.tuple #[]) w_3)) [(.int .i64 0)] w_2) w_1) w
theorem eq43 (v_m v_l : Value) (Q : Value → World → Prop) (w : World) : semF Tryz.prog 43 [v_m, v_l] Q w = S43 v_m v_l Q w := by kernel_rfl
theorem ref43 {v_m v_l : Value} {Q : Value → World → Prop} {w : World} (h : S43 v_m v_l Q w) : callS Tryz.prog 43 #[v_m, v_l] Q w :=
  callS_of mix (fun a w => Tryz.call43 a w) (by kernel_rfl) (by rw [eq43]; exact h)
-- (*commons/imap.Map[int]).without
def S44 (v_m v_s : Value) (Q : Value → World → Prop) (w : World) : Prop :=
 act Tryz.prog (Instr.box 27 v_s) (fun t3 w_1 => 
 pur Tryz.prog (nilV v_m) fun t11 => 
 pur Tryz.prog (Instr.fieldAt 76 t11 0) fun t12 => 
 rd Tryz.prog (Instr.loadAt 62 t12) (fun t13 => 
 pur Tryz.prog (Builtin.len_ #[62] 3 #[t13]) fun t14 => 
 lp 2 (fun J => fun v_out t15 w_2 => ∀ _j : Fr, 
  pur Tryz.prog (binS .lss 3 false false t15 t14) fun t16 => 
  condS t16
   (pur Tryz.prog (Instr.indexAt 62 t13 t15) fun t17 => 
  rd Tryz.prog (Instr.loadAt 65 t17) (fun t18 => 
  act Tryz.prog (Instr.alloc 65 true (.tuple #[])) (fun t7 w_3 => 
  act Tryz.prog (thenU (Instr.storeAt 65 t7 t18)) (fun _ w_4 => 
  pur Tryz.prog (Instr.fieldAt 65 t7 0) fun t19 => 
  rd Tryz.prog (Instr.loadAt 27 t19) (fun t20 => 
  act Tryz.prog (Instr.buildSlice 94 1 #[(0, t20)]) (fun t21 w_5 => 
  rd Tryz.prog (Instr.loadAt 27 t3) (fun t22 => 
  act Tryz.prog (Instr.buildSlice 94 1 #[(0, t22)]) (fun t23 w_6 => 
  callS Tryz.prog 59 #[t21, t23] (fun t24 w_7 => 
  pur Tryz.prog (Builtin.len_ #[94] 3 #[t24]) fun t25 => 
  lp 2 (fun J_1 => fun v_out_1 t26 w_8 => ∀ _j : Fr, 
   pur Tryz.prog (binS .lss 3 false false t26 t25) fun t27 => 
   condS t27
    (pur Tryz.prog (Instr.indexAt 94 t24 t26) fun t28 => 
   rd Tryz.prog (Instr.loadAt 27 t28) (fun t29 => 
   act Tryz.prog (Instr.alloc 27 true (.tuple #[])) (fun t9 w_9 => 
   act Tryz.prog (thenU (Instr.storeAt 27 t9 t29)) (fun _ w_10 => 
   rd Tryz.prog (Instr.loadAt 27 t9) (fun t31 => 
   pur Tryz.prog (Instr.fieldAt 65 t7 1) fun t32 => 
   rd Tryz.prog (Instr.loadAt 3 t32) (fun t33 => 
   pur Tryz.prog (Instr.build 65 #[(0, t31), (1, t33)]) fun t34 => 
   act Tryz.prog (Instr.buildSlice 62 1 #[(0, t34)]) (fun t35 w_11 => 
   act Tryz.prog (Builtin.append_ #[62, 62] 62 #[v_out_1, t35]) (fun t36 w_12 => 
   pur Tryz.prog (binS .add 3 false true t26 (.int .i64 1)) fun t37 => 
   J_1 t36 t37 w_12) w_11) w_10) w_10) w_10) w_9) w_8) w_8)
    (pur Tryz.prog (binS .add 3 false true t15 (.int .i64 1)) fun t38 => 
  J v_out_1 t38 w_8)) [v_out, (.int .i64 0)] w_7) w_6) w_5) w_5) w_4) w_4) w_3) w_2) w_2)
   (Q v_out w_2)) [(.slice none 0 0), (.int .i64 0)] w_1) w_1) w
theorem eq44 (v_m v_s : Value) (Q : Value → World → Prop) (w : World) : semF Tryz.prog 44 [v_m, v_s] Q w = S44 v_m v_s Q w := by kernel_rfl
theorem ref44 {v_m v_s : Value} {Q : Value → World → Prop} {w : World} (h : S44 v_m v_s Q w) : callS Tryz.prog 44 #[v_m, v_s] Q w :=
  callS_of mix (fun a w => Tryz.call44 a w) (by kernel_rfl) (by rw [eq44]; exact h)
-- commons/ltab.claim
def S45 (v_w v_at : Value) (Q : Value → World → Prop) (w : World) : Prop :=
 act Tryz.prog (Instr.box 50 v_w) (fun t2 w_1 => 
 act Tryz.prog (Instr.alloc 50 true (.tuple #[])) (fun t4 w_2 => 
 pur Tryz.prog (binS .add 3 false true v_at (.int .i64 1)) fun t6 => 
 pur Tryz.prog (Instr.fieldAt 50 t2 2) fun t7 => 
 pur Tryz.prog (Instr.fieldAt 29 t7 0) fun t8 => 
 pur Tryz.prog (Instr.fieldAt 27 t8 1) fun t9 => 
 act Tryz.prog (thenU (Instr.storeAt 3 t9 t6)) (fun _ w_3 => 
 rd Tryz.prog (Instr.loadAt 50 t2) (fun t10 => 
 act Tryz.prog (thenU (Instr.storeAt 50 t4 t10)) (fun _ w_4 => 
 rd Tryz.prog (resL 50 t4) (fun r => Q r w_4) w_4) w_3) w_3) w_2) w_1) w
theorem eq45 (v_w v_at : Value) (Q : Value → World → Prop) (w : World) : semF Tryz.prog 45 [v_w, v_at] Q w = S45 v_w v_at Q w := by kernel_rfl
theorem ref45 {v_w v_at : Value} {Q : Value → World → Prop} {w : World} (h : S45 v_w v_at Q w) : callS Tryz.prog 45 #[v_w, v_at] Q w :=
  callS_of mix (fun a w => Tryz.call45 a w) (by kernel_rfl) (by rw [eq45]; exact h)
-- slices.IndexFunc[[]commons/ltab.Wait,commons/ltab.Wait]
def S46 (v_s v_f : Value) (Q : Value → World → Prop) (w : World) : Prop :=
 pur Tryz.prog (Builtin.len_ #[35] 3 #[v_s]) fun t7 => 
 lp 1 (fun J => fun t8 w_1 => ∀ _j : Fr, 
  pur Tryz.prog (binS .lss 3 false false t8 t7) fun t9 => 
  condS t9
   (pur Tryz.prog (Instr.indexAt 35 v_s t8) fun t14 => 
  rd Tryz.prog (Instr.loadAt 50 t14) (fun t15 => 
  callF Tryz.prog v_f #[t15] (fun t16 w_2 => 
  condS t16
   (Q t8 w_2)
   (pur Tryz.prog (binS .add 3 false true t8 (.int .i64 1)) fun t18 => 
  J t18 w_2)) w_1) w_1)
   (Q (.int .i64 (-1)) w_1)) [(.int .i64 0)] w
theorem eq46 (v_s v_f : Value) (Q : Value → World → Prop) (w : World) : semF Tryz.prog 46 [v_s, v_f] Q w = S46 v_s v_f Q w := by kernel_rfl
theorem ref46 {v_s v_f : Value} {Q : Value → World → Prop} {w : World} (h : S46 v_s v_f Q w) : callS Tryz.prog 46 #[v_s, v_f] Q w :=
  callS_of mix (fun a w => Tryz.call46 a w) (by kernel_rfl) (by rw [eq46]; exact h)
-- commons/mode.Fit
def S47 (v_a v_b : Value) (Q : Value → World → Prop) (w : World) : Prop :=
 callS Tryz.prog 60 #[v_a] (fun t6 w_1 => 
 pur Tryz.prog (Op.unary .not t6) fun t7 => 
 gd t7 false (fun k w_2 => k v_b w_2) (fun t9_1 w_3 => 
 gd t7 false (fun k_1 w_4 => callS Tryz.prog 60 #[t9_1] (fun t10 w_5 => k_1 t10 w_5) w_4) (fun t10_1 w_6 => 
 gd t7 false (fun k_2 w_7 => pur Tryz.prog (Op.unary .not t10_1) fun t11 => k_2 t11 w_7) (fun t11_1 w_8 => 
 pur Tryz.prog (pickS t7 (.bool true) t11_1) fun t12 => 
 condS t12
  (Q (.bool false) w_8)
  (pur Tryz.prog (binS .eql 3 false true v_a (.int .i64 0)) fun t14 => 
 gd t14 false (fun k_3 w_9 => k_3 v_b w_9) (fun t16_1 w_10 => 
 gd t14 false (fun k_4 w_11 => pur Tryz.prog (binS .eql 3 false true t16_1 (.int .i64 0)) fun t17 => k_4 t17 w_11) (fun t17_1 w_12 => 
 pur Tryz.prog (pickS t14 (.bool true) t17_1) fun t18 => 
 gd t18 false (fun k_5 w_13 => k_5 v_a w_13) (fun t20_1 w_14 => 
 gd t18 false (fun k_6 w_15 => pur Tryz.prog (binS .eql 3 false true t20_1 (.int .i64 1)) fun t21 => k_6 t21 w_15) (fun t21_1 w_16 => 
 gd t18 false (fun k_7 w_17 => k_7 t21_1 w_17) (fun t22_1 w_18 => 
 gd t22_1 true (fun k_8 w_19 => k_8 v_b w_19) (fun t23_1 w_20 => 
 gd t22_1 true (fun k_9 w_21 => pur Tryz.prog (binS .eql 3 false true t23_1 (.int .i64 1)) fun t24 => k_9 t24 w_21) (fun t24_1 w_22 => 
 gd t18 false (fun k_10 w_23 => pur Tryz.prog (pickS t22_1 t24_1 (.bool false)) fun t25 => k_10 t25 w_23) (fun t25_1 w_24 => 
 pur Tryz.prog (pickS t18 (.bool true) t25_1) fun t26 => 
 Q t26 w_24) w_22) w_20) w_18) w_16) w_14) w_12) w_10) w_8)) w_6) w_3) w_1) w
theorem eq47 (v_a v_b : Value) (Q : Value → World → Prop) (w : World) : semF Tryz.prog 47 [v_a, v_b] Q w = S47 v_a v_b Q w := by kernel_rfl
theorem ref47 {v_a v_b : Value} {Q : Value → World → Prop} {w : World} (h : S47 v_a v_b Q w) : callS Tryz.prog 47 #[v_a, v_b] Q w :=
  callS_of mix (fun a w => Tryz.call47 a w) (by kernel_rfl) (by rw [eq47]; exact h)
-- (*commons/imap.Map[int]).All
def S48 (v_m : Value) (Q : Value → World → Prop) (w : World) : Prop :=
 rd Tryz.prog (binS .eql 51 false true v_m (.pointer none)) (fun t4 => 
 condS t4
  (Q (.slice none 0 0) w)
  (pur Tryz.prog (nilV v_m) fun t6 => 
 pur Tryz.prog (Instr.fieldAt 76 t6 0) fun t7 => 
 rd Tryz.prog (Instr.loadAt 62 t7) (fun t8 => 
 callS Tryz.prog 61 #[t8] (fun t9 w_1 => 
 Q t9 w_1) w) w)) w
theorem eq48 (v_m : Value) (Q : Value → World → Prop) (w : World) : semF Tryz.prog 48 [v_m] Q w = S48 v_m Q w := by kernel_rfl
theorem ref48 {v_m : Value} {Q : Value → World → Prop} {w : World} (h : S48 v_m Q w) : callS Tryz.prog 48 #[v_m] Q w :=
  callS_of mix (fun a w => Tryz.call48 a w) (by kernel_rfl) (by rw [eq48]; exact h)
-- commons/commonsref14.Mode
def S49 (v_m : Value) (Q : Value → World → Prop) (w : World) : Prop :=
 pur Tryz.prog (binS .geq 3 false true v_m (.int .i64 0)) fun t4 => 
 gd t4 true (fun k w_1 => k v_m w_1) (fun t6_1 w_2 => 
 gd t4 true (fun k_1 w_3 => pur Tryz.prog (binS .leq 3 false true t6_1 (.int .i64 2)) fun t7 => k_1 t7 w_3) (fun t7_1 w_4 => 
 pur Tryz.prog (pickS t4 t7_1 (.bool false)) fun t8 => 
 Q t8 w_4) w_2) w
theorem eq49 (v_m : Value) (Q : Value → World → Prop) (w : World) : semF Tryz.prog 49 [v_m] Q w = S49 v_m Q w := by kernel_rfl
theorem ref49 {v_m : Value} {Q : Value → World → Prop} {w : World} (h : S49 v_m Q w) : callS Tryz.prog 49 #[v_m] Q w :=
  callS_of mix (fun a w => Tryz.call49 a w) (by kernel_rfl) (by rw [eq49]; exact h)
-- (*commons/imap.Map[int]).Get
def S50 (v_m v_block : Value) (Q : Value → World → Prop) (w : World) : Prop :=
 rd Tryz.prog (binS .eql 51 false true v_m (.pointer none)) (fun t10 => 
 condS t10
  (Q (.tuple #[(.int .i64 0), (.bool false)]) w)
  (pur Tryz.prog (nilV v_m) fun t13 => 
 pur Tryz.prog (Instr.fieldAt 76 t13 0) fun t14 => 
 rd Tryz.prog (Instr.loadAt 62 t14) (fun t15 => 
 pur Tryz.prog (Builtin.len_ #[62] 3 #[t15]) fun t16 => 
 lp 1 (fun J => fun t17 w_1 => ∀ _j : Fr, 
  pur Tryz.prog (binS .lss 3 false false t17 t16) fun t18 => 
  condS t18
   (pur Tryz.prog (Instr.indexAt 62 t15 t17) fun t19 => 
  rd Tryz.prog (Instr.loadAt 65 t19) (fun t20 => 
  act Tryz.prog (Instr.alloc 65 true (.tuple #[])) (fun t8 w_2 => 
  act Tryz.prog (thenU (Instr.storeAt 65 t8 t20)) (fun _ w_3 => 
  pur Tryz.prog (Instr.fieldAt 65 t8 0) fun t21 => 
  rd Tryz.prog (Instr.loadAt 27 t21) (fun t22 => 
  callS Tryz.prog 62 #[t22, v_block] (fun t24 w_4 => 
  condS t24
   (pur Tryz.prog (Instr.fieldAt 65 t8 1) fun t25 => 
   rd Tryz.prog (Instr.loadAt 3 t25) (fun t26 => 
   Q (.tuple #[t26, (.bool true)]) w_4) w_4)
   (pur Tryz.prog (binS .add 3 false true t17 (.int .i64 1)) fun t27 => 
  J t27 w_4)) w_3) w_3) w_2) w_1) w_1)
   (Q (.tuple #[(.int .i64 0), (.bool false)]) w_1)) [(.int .i64 0)] w) w)) w
theorem eq50 (v_m v_block : Value) (Q : Value → World → Prop) (w : World) : semF Tryz.prog 50 [v_m, v_block] Q w = S50 v_m v_block Q w := by kernel_rfl
theorem ref50 {v_m v_block : Value} {Q : Value → World → Prop} {w : World} (h : S50 v_m v_block Q w) : callS Tryz.prog 50 #[v_m, v_block] Q w :=
  callS_of mix (fun a w => Tryz.call50 a w) (by kernel_rfl) (by rw [eq50]; exact h)
-- commons/ltab.keeps
def S51 (v_asked v_held : Value) (Q : Value → World → Prop) (w : World) : Prop :=
 pur Tryz.prog (binS .eql 3 false true v_asked (.int .i64 1)) fun t6 => 
 gd t6 true (fun k w_1 => k v_held w_1) (fun t8_1 w_2 => 
 gd t6 true (fun k_1 w_3 => pur Tryz.prog (binS .eql 3 false true t8_1 (.int .i64 2)) fun t9 => k_1 t9 w_3) (fun t9_1 w_4 => 
 pur Tryz.prog (pickS t6 t9_1 (.bool false)) fun t10 => 
 condS t10
  (Q (.int .i64 1) w_4)
  (Q (.int .i64 0) w_4)) w_2) w
theorem eq51 (v_asked v_held : Value) (Q : Value → World → Prop) (w : World) : semF Tryz.prog 51 [v_asked, v_held] Q w = S51 v_asked v_held Q w := by kernel_rfl
theorem ref51 {v_asked v_held : Value} {Q : Value → World → Prop} {w : World} (h : S51 v_asked v_held Q w) : callS Tryz.prog 51 #[v_asked, v_held] Q w :=
  callS_of mix (fun a w => Tryz.call51 a w) (by kernel_rfl) (by rw [eq51]; exact h)
-- commons/mode.asked
def S52 (v_l : Value) (Q : Value → World → Prop) (w : World) : Prop :=
 callS Tryz.prog 15 #[] (fun t6 w_1 => 
 pur Tryz.prog (Builtin.len_ #[69] 3 #[v_l]) fun t8 => 
 lp 1 (fun J => fun t9 w_2 => ∀ _j : Fr, 
  pur Tryz.prog (binS .lss 3 false false t9 t8) fun t10 => 
  condS t10
   (jn 0 (fun J_1 => 
   pur Tryz.prog (Instr.indexAt 69 v_l t9) fun t11 => 
   rd Tryz.prog (Instr.loadAt 29 t11) (fun t12 => 
   act Tryz.prog (Instr.alloc 29 true (.tuple #[])) (fun t5 w_3 => 
   act Tryz.prog (thenU (Instr.storeAt 29 t5 t12)) (fun _ w_4 => 
   pur Tryz.prog (Instr.fieldAt 29 t5 1) fun t13 => 
   rd Tryz.prog (Instr.loadAt 3 t13) (fun t14 => 
   pur Tryz.prog (binS .eql 3 false true t14 (.int .i64 1)) fun t15 => 
   gd t15 false (fun k w_5 => pur Tryz.prog (Instr.fieldAt 29 t5 1) fun t17 => k t17 w_5) (fun t17_1 w_6 => 
   gd t15 false (fun k_1 w_7 => rd Tryz.prog (Instr.loadAt 3 t17_1) (fun t18 => k_1 t18 w_7) w_7) (fun t18_1 w_8 => 
   gd t15 false (fun k_2 w_9 => pur Tryz.prog (binS .eql 3 false true t18_1 (.int .i64 2)) fun t19 => k_2 t19 w_9) (fun t19_1 w_10 => 
   pur Tryz.prog (pickS t15 (.bool true) t19_1) fun t20 => 
   condS t20
    (rd Tryz.prog (Instr.loadAt 29 t5) (fun t22 => 
    callS Tryz.prog 20 #[t6, t22] (fun _ w_11 => 
    J_1  w_11) w_10) w_10)
    (J_1  w_10)) w_8) w_6) w_4) w_4) w_3) w_2) w_2)
  (fun  w_12 => ∀ _j : Fr, 
   pur Tryz.prog (binS .add 3 false true t9 (.int .i64 1)) fun t24 => 
   J t24 w_12))
   (Q t6 w_2)) [(.int .i64 0)] w_1) w
theorem eq52 (v_l : Value) (Q : Value → World → Prop) (w : World) : semF Tryz.prog 52 [v_l] Q w = S52 v_l Q w := by kernel_rfl
theorem ref52 {v_l : Value} {Q : Value → World → Prop} {w : World} (h : S52 v_l Q w) : callS Tryz.prog 52 #[v_l] Q w :=
  callS_of mix (fun a w => Tryz.call52 a w) (by kernel_rfl) (by rw [eq52]; exact h)
-- commons/mode.locks
def S53 (v_m : Value) (Q : Value → World → Prop) (w : World) : Prop :=
 callS Tryz.prog 48 #[v_m] (fun t7 w_1 => 
 pur Tryz.prog (Builtin.len_ #[62] 3 #[t7]) fun t8 => 
 lp 2 (fun J => fun v_out t9 w_2 => ∀ _j : Fr, 
  pur Tryz.prog (binS .lss 3 false false t9 t8) fun t10 => 
  condS t10
   (pur Tryz.prog (Instr.indexAt 62 t7 t9) fun t11 => 
  rd Tryz.prog (Instr.loadAt 65 t11) (fun t12 => 
  act Tryz.prog (Instr.alloc 65 true (.tuple #[])) (fun t5 w_3 => 
  act Tryz.prog (thenU (Instr.storeAt 65 t5 t12)) (fun _ w_4 => 
  pur Tryz.prog (Instr.fieldAt 65 t5 0) fun t14 => 
  rd Tryz.prog (Instr.loadAt 27 t14) (fun t15 => 
  pur Tryz.prog (Instr.fieldAt 65 t5 1) fun t16 => 
  rd Tryz.prog (Instr.loadAt 3 t16) (fun t17 => 
  pur Tryz.prog (Instr.build 29 #[(0, t15), (1, t17)]) fun t18 => 
  act Tryz.prog (Instr.buildSlice 69 1 #[(0, t18)]) (fun t19 w_5 => 
  act Tryz.prog (Builtin.append_ #[69, 69] 69 #[v_out, t19]) (fun t20 w_6 => 
  pur Tryz.prog (binS .add 3 false true t9 (.int .i64 1)) fun t21 => 
  J t20 t21 w_6) w_5) w_4) w_4) w_4) w_3) w_2) w_2)
   (Q v_out w_2)) [(.slice none 0 0), (.int .i64 0)] w_1) w
theorem eq53 (v_m : Value) (Q : Value → World → Prop) (w : World) : semF Tryz.prog 53 [v_m] Q w = S53 v_m Q w := by kernel_rfl
theorem ref53 {v_m : Value} {Q : Value → World → Prop} {w : World} (h : S53 v_m Q w) : callS Tryz.prog 53 #[v_m] Q w :=
  callS_of mix (fun a w => Tryz.call53 a w) (by kernel_rfl) (by rw [eq53]; exact h)
-- commons/mode.Covers
def S54 (v_a v_b : Value) (Q : Value → World → Prop) (w : World) : Prop :=
 callS Tryz.prog 60 #[v_a] (fun t6 w_1 => 
 gd t6 true (fun k w_2 => k v_b w_2) (fun t8_1 w_3 => 
 gd t6 true (fun k_1 w_4 => callS Tryz.prog 60 #[t8_1] (fun t9 w_5 => k_1 t9 w_5) w_4) (fun t9_1 w_6 => 
 pur Tryz.prog (pickS t6 t9_1 (.bool false)) fun t10 => 
 gd t10 true (fun k_2 w_7 => k_2 v_b w_7) (fun t12_1 w_8 => 
 gd t10 true (fun k_3 w_9 => k_3 v_a w_9) (fun t13_1 w_10 => 
 gd t10 true (fun k_4 w_11 => pur Tryz.prog (binS .leq 3 false false t12_1 t13_1) fun t14 => k_4 t14 w_11) (fun t14_1 w_12 => 
 pur Tryz.prog (pickS t10 t14_1 (.bool false)) fun t15 => 
 Q t15 w_12) w_10) w_8) w_6) w_3) w_1) w
theorem eq54 (v_a v_b : Value) (Q : Value → World → Prop) (w : World) : semF Tryz.prog 54 [v_a, v_b] Q w = S54 v_a v_b Q w := by kernel_rfl
theorem ref54 {v_a v_b : Value} {Q : Value → World → Prop} {w : World} (h : S54 v_a v_b Q w) : callS Tryz.prog 54 #[v_a, v_b] Q w :=
  callS_of mix (fun a w => Tryz.call54 a w) (by kernel_rfl) (by rw [eq54]; exact h)
-- slices.IndexFunc[[]commons/imap.Part[int],commons/imap.Part[int]]
def S55 (v_s v_f : Value) (Q : Value → World → Prop) (w : World) : Prop :=
 pur Tryz.prog (Builtin.len_ #[62] 3 #[v_s]) fun t7 => 
 lp 1 (fun J => fun t8 w_1 => ∀ _j : Fr, 
  pur Tryz.prog (binS .lss 3 false false t8 t7) fun t9 => 
  condS t9
   (pur Tryz.prog (Instr.indexAt 62 v_s t8) fun t14 => 
  rd Tryz.prog (Instr.loadAt 65 t14) (fun t15 => 
  callF Tryz.prog v_f #[t15] (fun t16 w_2 => 
  condS t16
   (Q t8 w_2)
   (pur Tryz.prog (binS .add 3 false true t8 (.int .i64 1)) fun t18 => 
  J t18 w_2)) w_1) w_1)
   (Q (.int .i64 (-1)) w_1)) [(.int .i64 0)] w
theorem eq55 (v_s v_f : Value) (Q : Value → World → Prop) (w : World) : semF Tryz.prog 55 [v_s, v_f] Q w = S55 v_s v_f Q w := by kernel_rfl
theorem ref55 {v_s v_f : Value} {Q : Value → World → Prop} {w : World} (h : S55 v_s v_f Q w) : callS Tryz.prog 55 #[v_s, v_f] Q w :=
  callS_of mix (fun a w => Tryz.call55 a w) (by kernel_rfl) (by rw [eq55]; exact h)
-- slices.SortFunc[[]commons/imap.Part[int],commons/imap.Part[int]]
def S56 (v_x v_cmp : Value) (Q : Value → World → Prop) (w : World) : Prop :=
 pur Tryz.prog (Builtin.len_ #[62] 3 #[v_x]) fun t6 => 
 pur Tryz.prog (convert 3 99 t6) fun t10 => 
 callS Tryz.prog 64 #[t10] (fun t11 w_1 => 
 callS Tryz.prog 63 #[v_x, (.int .i64 0), t6, t11, v_cmp] (fun _ w_2 => 
 Q (.tuple #[]) w_2) w_1) w
theorem eq56 (v_x v_cmp : Value) (Q : Value → World → Prop) (w : World) : semF Tryz.prog 56 [v_x, v_cmp] Q w = S56 v_x v_cmp Q w := by kernel_rfl
theorem ref56 {v_x v_cmp : Value} {Q : Value → World → Prop} {w : World} (h : S56 v_x v_cmp Q w) : callS Tryz.prog 56 #[v_x, v_cmp] Q w :=
  callS_of mix (fun a w => Tryz.call56 a w) (by kernel_rfl) (by rw [eq56]; exact h)
-- (*commons/imap.Map[int]).lay$1
def S57 (v_a v_b : Value) (Q : Value → World → Prop) (w : World) : Prop :=
 act Tryz.prog (Instr.box 65 v_a) (fun t2 w_1 => 
 act Tryz.prog (Instr.box 65 v_b) (fun t3 w_2 => 
 pur Tryz.prog (Instr.fieldAt 65 t2 0) fun t5 => 
 pur Tryz.prog (Instr.fieldAt 27 t5 0) fun t6 => 
 rd Tryz.prog (Instr.loadAt 3 t6) (fun t7 => 
 pur Tryz.prog (Instr.fieldAt 65 t3 0) fun t8 => 
 pur Tryz.prog (Instr.fieldAt 27 t8 0) fun t9 => 
 rd Tryz.prog (Instr.loadAt 3 t9) (fun t10 => 
 callS Tryz.prog 58 #[t7, t10] (fun t11 w_3 => 
 Q t11 w_3) w_2) w_2) w_2) w_1) w
theorem eq57 (v_a v_b : Value) (Q : Value → World → Prop) (w : World) : semF Tryz.prog 57 [v_a, v_b] Q w = S57 v_a v_b Q w := by kernel_rfl
theorem ref57 {v_a v_b : Value} {Q : Value → World → Prop} {w : World} (h : S57 v_a v_b Q w) : callS Tryz.prog 57 #[v_a, v_b] Q w :=
  callS_of mix (fun a w => Tryz.call57 a w) (by kernel_rfl) (by rw [eq57]; exact h)
-- cmp.Compare[int]
def S58 (v_x v_y : Value) (Q : Value → World → Prop) (w : World) : Prop :=
 callS Tryz.prog 65 #[v_x] (fun t8 w_1 => 
 callS Tryz.prog 65 #[v_y] (fun t10 w_2 => 
 condS t8
  (condS t10
   (Q (.int .i64 0) w_2)
   (Q (.int .i64 (-1)) w_2))
  (condS t10
  (Q (.int .i64 1) w_2)
  (pur Tryz.prog (binS .lss 3 false false v_x v_y) fun t16 => 
 condS t16
  (Q (.int .i64 (-1)) w_2)
  (pur Tryz.prog (binS .gtr 3 false false v_x v_y) fun t19 => 
 condS t19
  (Q (.int .i64 1) w_2)
  (Q (.int .i64 0) w_2))))) w_1) w
theorem eq58 (v_x v_y : Value) (Q : Value → World → Prop) (w : World) : semF Tryz.prog 58 [v_x, v_y] Q w = S58 v_x v_y Q w := by kernel_rfl
theorem ref58 {v_x v_y : Value} {Q : Value → World → Prop} {w : World} (h : S58 v_x v_y Q w) : callS Tryz.prog 58 #[v_x, v_y] Q w :=
  callS_of mix (fun a w => Tryz.call58 a w) (by kernel_rfl) (by rw [eq58]; exact h)
-- commons/span.Minus
def S59 (v_a v_b : Value) (Q : Value → World → Prop) (w : World) : Prop :=
 callS Tryz.prog 66 #[v_a] (fun t12 w_1 => 
 callS Tryz.prog 66 #[v_b] (fun t14 w_2 => 
 pur Tryz.prog (Builtin.len_ #[94] 3 #[t14]) fun t15 => 
 lp 2 (fun J => fun v_out t16 w_3 => ∀ _j : Fr, 
  pur Tryz.prog (binS .lss 3 false false t16 t15) fun t17 => 
  condS t17
   (pur Tryz.prog (Instr.indexAt 94 t14 t16) fun t18 => 
  rd Tryz.prog (Instr.loadAt 27 t18) (fun t19 => 
  act Tryz.prog (Instr.alloc 27 true (.tuple #[])) (fun t7 w_4 => 
  act Tryz.prog (thenU (Instr.storeAt 27 t7 t19)) (fun _ w_5 => 
  pur Tryz.prog (Builtin.len_ #[94] 3 #[v_out]) fun t21 => 
  lp 2 (fun J_1 => fun v_left t22 w_6 => ∀ _j : Fr, 
   pur Tryz.prog (binS .lss 3 false false t22 t21) fun t23 => 
   condS t23
    (jn 1 (fun J_2 => 
    pur Tryz.prog (Instr.indexAt 94 v_out t22) fun t24 => 
    rd Tryz.prog (Instr.loadAt 27 t24) (fun t25 => 
    act Tryz.prog (Instr.alloc 27 true (.tuple #[])) (fun t10 w_7 => 
    act Tryz.prog (thenU (Instr.storeAt 27 t10 t25)) (fun _ w_8 => 
    rd Tryz.prog (Instr.loadAt 27 t10) (fun t26 => 
    rd Tryz.prog (Instr.loadAt 27 t7) (fun t27 => 
    callS Tryz.prog 67 #[t26, t27] (fun t28 w_9 => 
    pur Tryz.prog (Op.unary .not t28) fun t29 => 
    condS t29
     (rd Tryz.prog (Instr.loadAt 27 t10) (fun t31 => 
     act Tryz.prog (Instr.buildSlice 94 1 #[(0, t31)]) (fun t32 w_10 => 
     act Tryz.prog (Builtin.append_ #[94, 94] 94 #[v_left, t32]) (fun t33 w_11 => 
     J_2 t33 w_11) w_10) w_9) w_9)
     (pur Tryz.prog (Instr.fieldAt 27 t10 0) fun t35 => 
    rd Tryz.prog (Instr.loadAt 3 t35) (fun t36 => 
    pur Tryz.prog (Instr.fieldAt 27 t7 0) fun t37 => 
    rd Tryz.prog (Instr.loadAt 3 t37) (fun t38 => 
    pur Tryz.prog (Instr.build 27 #[(0, t36), (1, t38)]) fun t39 => 
    pur Tryz.prog (Instr.fieldAt 27 t7 1) fun t40 => 
    rd Tryz.prog (Instr.loadAt 3 t40) (fun t41 => 
    pur Tryz.prog (Instr.fieldAt 27 t10 1) fun t42 => 
    rd Tryz.prog (Instr.loadAt 3 t42) (fun t43 => 
    pur Tryz.prog (Instr.build 27 #[(0, t41), (1, t43)]) fun t44 => 
    act Tryz.prog (Instr.buildSlice 94 2 #[(0, t39), (1, t44)]) (fun t45 w_12 => 
    act Tryz.prog (Builtin.append_ #[94, 94] 94 #[v_left, t45]) (fun t46 w_13 => 
    J_2 t46 w_13) w_12) w_9) w_9) w_9) w_9) w_9)) w_8) w_8) w_8) w_7) w_6) w_6)
   (fun v_left_1 w_14 => ∀ _j : Fr, 
    pur Tryz.prog (binS .add 3 false true t22 (.int .i64 1)) fun t47 => 
    J_1 v_left_1 t47 w_14))
    (callS Tryz.prog 66 #[v_left] (fun t49 w_15 => 
  pur Tryz.prog (binS .add 3 false true t16 (.int .i64 1)) fun t50 => 
  J t49 t50 w_15) w_6)) [(.slice none 0 0), (.int .i64 0)] w_5) w_4) w_3) w_3)
   (Q v_out w_3)) [t12, (.int .i64 0)] w_2) w_1) w
theorem eq59 (v_a v_b : Value) (Q : Value → World → Prop) (w : World) : semF Tryz.prog 59 [v_a, v_b] Q w = S59 v_a v_b Q w := by kernel_rfl
theorem ref59 {v_a v_b : Value} {Q : Value → World → Prop} {w : World} (h : S59 v_a v_b Q w) : callS Tryz.prog 59 #[v_a, v_b] Q w :=
  callS_of mix (fun a w => Tryz.call59 a w) (by kernel_rfl) (by rw [eq59]; exact h)
-- commons/mode.Valid
def S60 (v_m : Value) (Q : Value → World → Prop) (w : World) : Prop :=
 pur Tryz.prog (binS .geq 3 false true v_m (.int .i64 0)) fun t4 => 
 gd t4 true (fun k w_1 => k v_m w_1) (fun t6_1 w_2 => 
 gd t4 true (fun k_1 w_3 => pur Tryz.prog (binS .leq 3 false true t6_1 (.int .i64 2)) fun t7 => k_1 t7 w_3) (fun t7_1 w_4 => 
 pur Tryz.prog (pickS t4 t7_1 (.bool false)) fun t8 => 
 Q t8 w_4) w_2) w
theorem eq60 (v_m : Value) (Q : Value → World → Prop) (w : World) : semF Tryz.prog 60 [v_m] Q w = S60 v_m Q w := by kernel_rfl
theorem ref60 {v_m : Value} {Q : Value → World → Prop} {w : World} (h : S60 v_m Q w) : callS Tryz.prog 60 #[v_m] Q w :=
  callS_of mix (fun a w => Tryz.call60 a w) (by kernel_rfl) (by rw [eq60]; exact h)
-- slices.Clone[[]commons/imap.Part[int],commons/imap.Part[int]]
def S61 (v_s : Value) (Q : Value → World → Prop) (w : World) : Prop :=
 rd Tryz.prog (binS .eql 62 false true v_s (.slice none 0 0)) (fun t4 => 
 condS t4
  (Q (.slice none 0 0) w)
  (act Tryz.prog (Instr.buildSlice 62 0 #[]) (fun t5 w_1 => 
 act Tryz.prog (Builtin.append_ #[62, 62] 62 #[t5, v_s]) (fun t7 w_2 => 
 Q t7 w_2) w_1) w)) w
theorem eq61 (v_s : Value) (Q : Value → World → Prop) (w : World) : semF Tryz.prog 61 [v_s] Q w = S61 v_s Q w := by kernel_rfl
theorem ref61 {v_s : Value} {Q : Value → World → Prop} {w : World} (h : S61 v_s Q w) : callS Tryz.prog 61 #[v_s] Q w :=
  callS_of mix (fun a w => Tryz.call61 a w) (by kernel_rfl) (by rw [eq61]; exact h)
-- commons/span.Has
def S62 (v_s v_block : Value) (Q : Value → World → Prop) (w : World) : Prop :=
 act Tryz.prog (Instr.box 27 v_s) (fun t2 w_1 => 
 rd Tryz.prog (Instr.loadAt 27 t2) (fun t5 => 
 callS Tryz.prog 22 #[t5] (fun t6 w_2 => 
 gd t6 true (fun k w_3 => pur Tryz.prog (Instr.fieldAt 27 t2 0) fun t8 => k t8 w_3) (fun t8_1 w_4 => 
 gd t6 true (fun k_1 w_5 => rd Tryz.prog (Instr.loadAt 3 t8_1) (fun t9 => k_1 t9 w_5) w_5) (fun t9_1 w_6 => 
 gd t6 true (fun k_2 w_7 => k_2 v_block w_7) (fun t10_1 w_8 => 
 gd t6 true (fun k_3 w_9 => pur Tryz.prog (binS .leq 3 false false t9_1 t10_1) fun t11 => k_3 t11 w_9) (fun t11_1 w_10 => 
 pur Tryz.prog (pickS t6 t11_1 (.bool false)) fun t12 => 
 gd t12 true (fun k_4 w_11 => k_4 v_block w_11) (fun t14_1 w_12 => 
 gd t12 true (fun k_5 w_13 => pur Tryz.prog (Instr.fieldAt 27 t2 1) fun t15 => k_5 t15 w_13) (fun t15_1 w_14 => 
 gd t12 true (fun k_6 w_15 => rd Tryz.prog (Instr.loadAt 3 t15_1) (fun t16 => k_6 t16 w_15) w_15) (fun t16_1 w_16 => 
 gd t12 true (fun k_7 w_17 => pur Tryz.prog (binS .lss 3 false false t14_1 t16_1) fun t17 => k_7 t17 w_17) (fun t17_1 w_18 => 
 pur Tryz.prog (pickS t12 t17_1 (.bool false)) fun t18 => 
 Q t18 w_18) w_16) w_14) w_12) w_10) w_8) w_6) w_4) w_2) w_1) w_1) w
theorem eq62 (v_s v_block : Value) (Q : Value → World → Prop) (w : World) : semF Tryz.prog 62 [v_s, v_block] Q w = S62 v_s v_block Q w := by kernel_rfl
theorem ref62 {v_s v_block : Value} {Q : Value → World → Prop} {w : World} (h : S62 v_s v_block Q w) : callS Tryz.prog 62 #[v_s, v_block] Q w :=
  callS_of mix (fun a w => Tryz.call62 a w) (by kernel_rfl) (by rw [eq62]; exact h)
-- cmp.isNaN[int]
def S65 (v_x : Value) (Q : Value → World → Prop) (w : World) : Prop :=
 pur Tryz.prog (binS .neq 3 false false v_x v_x) fun t5 => 
 Q t5 w
theorem eq65 (v_x : Value) (Q : Value → World → Prop) (w : World) : semF Tryz.prog 65 [v_x] Q w = S65 v_x Q w := by kernel_rfl
theorem ref65 {v_x : Value} {Q : Value → World → Prop} {w : World} (h : S65 v_x Q w) : callS Tryz.prog 65 #[v_x] Q w :=
  callS_of mix (fun a w => Tryz.call65 a w) (by kernel_rfl) (by rw [eq65]; exact h)
-- commons/span.Norm
def S66 (v_l : Value) (Q : Value → World → Prop) (w : World) : Prop :=
 callS Tryz.prog 79 #[v_l] (fun t8 w_1 => 
 callS Tryz.prog 78 #[t8, (.func (.func 80) #[] #[])] (fun t9 w_2 => 
 callS Tryz.prog 81 #[t9, (.func (.func 82) #[] #[])] (fun _ w_3 => 
 pur Tryz.prog (Builtin.len_ #[94] 3 #[t9]) fun t13 => 
 lp 2 (fun J => fun v_out t14 w_4 => ∀ _j : Fr, 
  pur Tryz.prog (binS .lss 3 false false t14 t13) fun t15 => 
  condS t15
   (jn 1 (fun J_1 => 
   pur Tryz.prog (Instr.indexAt 94 t9 t14) fun t16 => 
   rd Tryz.prog (Instr.loadAt 27 t16) (fun t17 => 
   act Tryz.prog (Instr.alloc 27 true (.tuple #[])) (fun t5 w_5 => 
   act Tryz.prog (thenU (Instr.storeAt 27 t5 t17)) (fun _ w_6 => 
   pur Tryz.prog (Builtin.len_ #[94] 3 #[v_out]) fun t19 => 
   pur Tryz.prog (binS .sub 3 false true t19 (.int .i64 1)) fun t20 => 
   pur Tryz.prog (binS .geq 3 false true t20 (.int .i64 0)) fun t22 => 
   gd t22 true (fun k w_7 => pur Tryz.prog (Instr.fieldAt 27 t5 0) fun t24 => k t24 w_7) (fun t24_1 w_8 => 
   gd t22 true (fun k_1 w_9 => rd Tryz.prog (Instr.loadAt 3 t24_1) (fun t25 => k_1 t25 w_9) w_9) (fun t25_1 w_10 => 
   gd t22 true (fun k_2 w_11 => k_2 v_out w_11) (fun t26_1 w_12 => 
   gd t22 true (fun k_3 w_13 => k_3 t20 w_13) (fun t27_1 w_14 => 
   gd t22 true (fun k_4 w_15 => pur Tryz.prog (Instr.indexAt 94 t26_1 t27_1) fun t28 => k_4 t28 w_15) (fun t28_1 w_16 => 
   gd t22 true (fun k_5 w_17 => pur Tryz.prog (Instr.fieldAt 27 t28_1 1) fun t29 => k_5 t29 w_17) (fun t29_1 w_18 => 
   gd t22 true (fun k_6 w_19 => rd Tryz.prog (Instr.loadAt 3 t29_1) (fun t30 => k_6 t30 w_19) w_19) (fun t30_1 w_20 => 
   gd t22 true (fun k_7 w_21 => pur Tryz.prog (binS .leq 3 false false t25_1 t30_1) fun t31 => k_7 t31 w_21) (fun t31_1 w_22 => 
   pur Tryz.prog (pickS t22 t31_1 (.bool false)) fun t32 => 
   condS t32
    (pur Tryz.prog (Instr.indexAt 94 v_out t20) fun t37 => 
    pur Tryz.prog (Instr.fieldAt 27 t37 1) fun t38 => 
    rd Tryz.prog (Instr.loadAt 3 t38) (fun t39 => 
    pur Tryz.prog (Instr.fieldAt 27 t5 1) fun t40 => 
    rd Tryz.prog (Instr.loadAt 3 t40) (fun t41 => 
    pur Tryz.prog (Builtin.max_ #[3, 3] 3 #[t39, t41]) fun t42 => 
    pur Tryz.prog (Instr.indexAt 94 v_out t20) fun t43 => 
    pur Tryz.prog (Instr.fieldAt 27 t43 1) fun t44 => 
    act Tryz.prog (thenU (Instr.storeAt 3 t44 t42)) (fun _ w_23 => 
    J_1 v_out w_23) (World.drew w_22)) (World.drew w_22)) (World.drew w_22))
    (rd Tryz.prog (Instr.loadAt 27 t5) (fun t46 => 
    act Tryz.prog (Instr.buildSlice 94 1 #[(0, t46)]) (fun t47 w_24 => 
    act Tryz.prog (Builtin.append_ #[94, 94] 94 #[v_out, t47]) (fun t48 w_25 => 
    J_1 t48 w_25) w_24) w_22) w_22)) w_20) w_18) w_16) w_14) w_12) w_10) w_8) (World.drew w_6)) w_5) w_4) w_4)
  (fun v_out_1 w_26 => ∀ _j : Fr, 
   pur Tryz.prog (binS .add 3 false true t14 (.int .i64 1)) fun t49 => 
   J v_out_1 t49 w_26))
   (Q v_out w_4)) [(.slice none 0 0), (.int .i64 0)] w_3) w_2) w_1) w
theorem eq66 (v_l : Value) (Q : Value → World → Prop) (w : World) : semF Tryz.prog 66 [v_l] Q w = S66 v_l Q w := by kernel_rfl
theorem ref66 {v_l : Value} {Q : Value → World → Prop} {w : World} (h : S66 v_l Q w) : callS Tryz.prog 66 #[v_l] Q w :=
  callS_of mix (fun a w => Tryz.call66 a w) (by kernel_rfl) (by rw [eq66]; exact h)
-- commons/span.Meets
def S67 (v_a v_b : Value) (Q : Value → World → Prop) (w : World) : Prop :=
 act Tryz.prog (Instr.box 27 v_a) (fun t2 w_1 => 
 act Tryz.prog (Instr.box 27 v_b) (fun t3 w_2 => 
 rd Tryz.prog (Instr.loadAt 27 t2) (fun t8 => 
 rd Tryz.prog (Instr.loadAt 27 t3) (fun t9 => 
 callS Tryz.prog 40 #[t8, t9] (fun t10 w_3 => 
 pur Tryz.prog (Instr.extract t10 0) fun t11 => 
 pur Tryz.prog (Instr.extract t10 1) fun t12 => 
 act Tryz.prog (Instr.alloc 27 true (.tuple #[])) (fun t5 w_4 => 
 act Tryz.prog (thenU (Instr.storeAt 27 t5 t11)) (fun _ w_5 => 
 Q t12 w_5) w_4) w_3) w_2) w_2) w_2) w_1) w
theorem eq67 (v_a v_b : Value) (Q : Value → World → Prop) (w : World) : semF Tryz.prog 67 [v_a, v_b] Q w = S67 v_a v_b Q w := by kernel_rfl
theorem ref67 {v_a v_b : Value} {Q : Value → World → Prop} {w : World} (h : S67 v_a v_b Q w) : callS Tryz.prog 67 #[v_a, v_b] Q w :=
  callS_of mix (fun a w => Tryz.call67 a w) (by kernel_rfl) (by rw [eq67]; exact h)
-- slices.DeleteFunc[[]commons/api.Span,commons/api.Span]
def S78 (v_s v_del : Value) (Q : Value → World → Prop) (w : World) : Prop :=
 callS Tryz.prog 89 #[v_s, v_del] (fun t10 w_1 => 
 pur Tryz.prog (binS .eql 3 false true t10 (.int .i64 (-1))) fun t12 => 
 condS t12
  (Q v_s w_1)
  (pur Tryz.prog (binS .add 3 false true t10 (.int .i64 1)) fun t15 => 
 lp 2 (fun J => fun v_i v_j w_2 => ∀ _j : Fr, 
  pur Tryz.prog (Builtin.len_ #[94] 3 #[v_s]) fun t18 => 
  pur Tryz.prog (binS .lss 3 false false v_j t18) fun t19 => 
  condS t19
   (jn 1 (fun J_1 => 
   pur Tryz.prog (Instr.indexAt 94 v_s v_j) fun t24 => 
   rd Tryz.prog (Instr.loadAt 27 t24) (fun t25 => 
   act Tryz.prog (Instr.alloc 27 true (.tuple #[])) (fun t7 w_3 => 
   act Tryz.prog (thenU (Instr.storeAt 27 t7 t25)) (fun _ w_4 => 
   rd Tryz.prog (Instr.loadAt 27 t7) (fun t27 => 
   callF Tryz.prog v_del #[t27] (fun t28 w_5 => 
   pur Tryz.prog (Op.unary .not t28) fun t29 => 
   condS t29
    (rd Tryz.prog (Instr.loadAt 27 t7) (fun t32 => 
    pur Tryz.prog (Instr.indexAt 94 v_s v_i) fun t33 => 
    act Tryz.prog (thenU (Instr.storeAt 27 t33 t32)) (fun _ w_6 => 
    pur Tryz.prog (binS .add 3 false true v_i (.int .i64 1)) fun t35 => 
    J_1 t35 w_6) w_5) w_5)
    (J_1 v_i w_5)) w_4) w_4) w_3) w_2) w_2)
  (fun v_i_1 w_7 => ∀ _j : Fr, 
   pur Tryz.prog (binS .add 3 false true v_j (.int .i64 1)) fun t21 => 
   J v_i_1 t21 w_7))
   (pur Tryz.prog (Instr.sliceAt 94 v_s (some v_i) none none) fun t38 => 
 act Tryz.prog (Builtin.clear_ #[94] 0 #[t38]) (fun _ w_8 => 
 pur Tryz.prog (Instr.sliceAt 94 v_s none (some v_i) none) fun t41 => 
 Q t41 w_8) w_2)) [t10, t15] w_1)) w
theorem eq78 (v_s v_del : Value) (Q : Value → World → Prop) (w : World) : semF Tryz.prog 78 [v_s, v_del] Q w = S78 v_s v_del Q w := by kernel_rfl
theorem ref78 {v_s v_del : Value} {Q : Value → World → Prop} {w : World} (h : S78 v_s v_del Q w) : callS Tryz.prog 78 #[v_s, v_del] Q w :=
  callS_of mix (fun a w => Tryz.call78 a w) (by kernel_rfl) (by rw [eq78]; exact h)
-- slices.Clone[[]commons/api.Span,commons/api.Span]
def S79 (v_s : Value) (Q : Value → World → Prop) (w : World) : Prop :=
 rd Tryz.prog (binS .eql 94 false true v_s (.slice none 0 0)) (fun t4 => 
 condS t4
  (Q (.slice none 0 0) w)
  (act Tryz.prog (Instr.buildSlice 94 0 #[]) (fun t5 w_1 => 
 act Tryz.prog (Builtin.append_ #[94, 94] 94 #[t5, v_s]) (fun t7 w_2 => 
 Q t7 w_2) w_1) w)) w
theorem eq79 (v_s : Value) (Q : Value → World → Prop) (w : World) : semF Tryz.prog 79 [v_s] Q w = S79 v_s Q w := by kernel_rfl
theorem ref79 {v_s : Value} {Q : Value → World → Prop} {w : World} (h : S79 v_s Q w) : callS Tryz.prog 79 #[v_s] Q w :=
  callS_of mix (fun a w => Tryz.call79 a w) (by kernel_rfl) (by rw [eq79]; exact h)
-- commons/span.Norm$1
def S80 (v_s : Value) (Q : Value → World → Prop) (w : World) : Prop :=
 act Tryz.prog (Instr.box 27 v_s) (fun t1 w_1 => 
 rd Tryz.prog (Instr.loadAt 27 t1) (fun t3 => 
 callS Tryz.prog 22 #[t3] (fun t4 w_2 => 
 pur Tryz.prog (Op.unary .not t4) fun t5 => 
 Q t5 w_2) w_1) w_1) w
theorem eq80 (v_s : Value) (Q : Value → World → Prop) (w : World) : semF Tryz.prog 80 [v_s] Q w = S80 v_s Q w := by kernel_rfl
theorem ref80 {v_s : Value} {Q : Value → World → Prop} {w : World} (h : S80 v_s Q w) : callS Tryz.prog 80 #[v_s] Q w :=
  callS_of mix (fun a w => Tryz.call80 a w) (by kernel_rfl) (by rw [eq80]; exact h)
-- slices.SortFunc[[]commons/api.Span,commons/api.Span]
def S81 (v_x v_cmp : Value) (Q : Value → World → Prop) (w : World) : Prop :=
 pur Tryz.prog (Builtin.len_ #[94] 3 #[v_x]) fun t6 => 
 pur Tryz.prog (convert 3 99 t6) fun t10 => 
 callS Tryz.prog 64 #[t10] (fun t11 w_1 => 
 callS Tryz.prog 90 #[v_x, (.int .i64 0), t6, t11, v_cmp] (fun _ w_2 => 
 Q (.tuple #[]) w_2) w_1) w
theorem eq81 (v_x v_cmp : Value) (Q : Value → World → Prop) (w : World) : semF Tryz.prog 81 [v_x, v_cmp] Q w = S81 v_x v_cmp Q w := by kernel_rfl
theorem ref81 {v_x v_cmp : Value} {Q : Value → World → Prop} {w : World} (h : S81 v_x v_cmp Q w) : callS Tryz.prog 81 #[v_x, v_cmp] Q w :=
  callS_of mix (fun a w => Tryz.call81 a w) (by kernel_rfl) (by rw [eq81]; exact h)
-- commons/span.Norm$2
def S82 (v_a v_b : Value) (Q : Value → World → Prop) (w : World) : Prop :=
 act Tryz.prog (Instr.box 27 v_a) (fun t2 w_1 => 
 act Tryz.prog (Instr.box 27 v_b) (fun t3 w_2 => 
 ∃ S : World → Prop, S (World.drew w_2) ∧ 
 pur Tryz.prog (Instr.fieldAt 27 t2 0) fun t5 => 
 hld Tryz.prog S (Instr.loadAt 3 t5) fun t6 => 
 pur Tryz.prog (Instr.fieldAt 27 t3 0) fun t7 => 
 hld Tryz.prog S (Instr.loadAt 3 t7) fun t8 => 
 callS Tryz.prog 58 #[t6, t8] (fun t9 w_3 => S w_3 ∧ 
 pur Tryz.prog (Instr.fieldAt 27 t2 1) fun t10 => 
 hld Tryz.prog S (Instr.loadAt 3 t10) fun t11 => 
 pur Tryz.prog (Instr.fieldAt 27 t3 1) fun t12 => 
 hld Tryz.prog S (Instr.loadAt 3 t12) fun t13 => 
 callS Tryz.prog 58 #[t11, t13] (fun t14 w_4 => S w_4 ∧ 
 act Tryz.prog (Instr.buildSlice 126 2 #[(0, t9), (1, t14)]) (fun t15 w_5 => S w_5 ∧ 
 callS Tryz.prog 83 #[t15] (fun t16 w_6 => S w_6 ∧ 
 Q t16 w_6) w_5) w_4) w_3) (World.drew w_2)) w_1) w
theorem eq82 (v_a v_b : Value) (Q : Value → World → Prop) (w : World) : semF Tryz.prog 82 [v_a, v_b] Q w = S82 v_a v_b Q w := by kernel_rfl
theorem ref82 {v_a v_b : Value} {Q : Value → World → Prop} {w : World} (h : S82 v_a v_b Q w) : callS Tryz.prog 82 #[v_a, v_b] Q w :=
  callS_of mix (fun a w => Tryz.call82 a w) (by kernel_rfl) (by rw [eq82]; exact h)
-- cmp.Or[int]
def S83 (v_vals : Value) (Q : Value → World → Prop) (w : World) : Prop :=
 pur Tryz.prog (Builtin.len_ #[126] 3 #[v_vals]) fun t7 => 
 lp 1 (fun J => fun t8 w_1 => ∀ _j : Fr, 
  pur Tryz.prog (binS .lss 3 false false t8 t7) fun t9 => 
  condS t9
   (pur Tryz.prog (Instr.indexAt 126 v_vals t8) fun t10 => 
  rd Tryz.prog (Instr.loadAt 3 t10) (fun t11 => 
  pur Tryz.prog (binS .neq 3 false false t11 (.int .i64 0)) fun t14 => 
  condS t14
   (Q t11 w_1)
   (pur Tryz.prog (binS .add 3 false true t8 (.int .i64 1)) fun t16 => 
  J t16 w_1)) w_1)
   (Q (.int .i64 0) w_1)) [(.int .i64 0)] w
theorem eq83 (v_vals : Value) (Q : Value → World → Prop) (w : World) : semF Tryz.prog 83 [v_vals] Q w = S83 v_vals Q w := by kernel_rfl
theorem ref83 {v_vals : Value} {Q : Value → World → Prop} {w : World} (h : S83 v_vals Q w) : callS Tryz.prog 83 #[v_vals] Q w :=
  callS_of mix (fun a w => Tryz.call83 a w) (by kernel_rfl) (by rw [eq83]; exact h)
-- slices.IndexFunc[[]commons/api.Span,commons/api.Span]
def S89 (v_s v_f : Value) (Q : Value → World → Prop) (w : World) : Prop :=
 pur Tryz.prog (Builtin.len_ #[94] 3 #[v_s]) fun t7 => 
 lp 1 (fun J => fun t8 w_1 => ∀ _j : Fr, 
  pur Tryz.prog (binS .lss 3 false false t8 t7) fun t9 => 
  condS t9
   (pur Tryz.prog (Instr.indexAt 94 v_s t8) fun t14 => 
  rd Tryz.prog (Instr.loadAt 27 t14) (fun t15 => 
  callF Tryz.prog v_f #[t15] (fun t16 w_2 => 
  condS t16
   (Q t8 w_2)
   (pur Tryz.prog (binS .add 3 false true t8 (.int .i64 1)) fun t18 => 
  J t18 w_2)) w_1) w_1)
   (Q (.int .i64 (-1)) w_1)) [(.int .i64 0)] w
theorem eq89 (v_s v_f : Value) (Q : Value → World → Prop) (w : World) : semF Tryz.prog 89 [v_s, v_f] Q w = S89 v_s v_f Q w := by kernel_rfl
theorem ref89 {v_s v_f : Value} {Q : Value → World → Prop} {w : World} (h : S89 v_s v_f Q w) : callS Tryz.prog 89 #[v_s, v_f] Q w :=
  callS_of mix (fun a w => Tryz.call89 a w) (by kernel_rfl) (by rw [eq89]; exact h)
end Go.Proofs.YtcekmdpiloegcaaGreat
