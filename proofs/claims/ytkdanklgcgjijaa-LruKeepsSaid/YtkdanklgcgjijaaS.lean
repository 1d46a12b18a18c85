/- The readings of the functions' code, printed by a program, each held equal to the one that is computed: for all arguments, all worlds.
   Conditions: none. -/
import Derived.Test.YtkdanklgcgjijaaShC
import Derived.Test.YtkdanklgcgjijaaProg
import Derived.KernelRfl
set_option linter.unusedSimpArgs false
set_option linter.unusedVariables false
namespace Go.Proofs.Ytkdanklgcgjijaa
open Go.Sh
set_option maxRecDepth 100000
theorem mix : Try.prog.follows .mixedOrders = true := by kernel_rfl

-- gosem.cut.init
def S2 (Q : Value → World → Prop) (w : World) : Prop :=
 callS Try.prog 1 #[] (fun _ w_1 => 
 Q (.tuple #[]) w_1) w
theorem eq2 (Q : Value → World → Prop) (w : World) : semF Try.prog 2 [] Q w = S2 Q w := by kernel_rfl
theorem ref2 {Q : Value → World → Prop} {w : World} (h : S2 Q w) : callS Try.prog 2 #[] Q w :=
  callS_of mix (fun a w => Try.call2 a w) (by kernel_rfl) (by rw [eq2]; exact h)
-- commons/commonslaw5.LruOrder
def S3 (v_room v_uses : Value) (Q : Value → World → Prop) (w : World) : Prop :=
 pur Try.prog (binS .lss 3 false true v_room (.int .i64 1)) fun t21 => 
 gd t21 false (fun k w_1 => k v_room w_1) (fun t23_1 w_2 => 
 gd t21 false (fun k_1 w_3 => pur Try.prog (binS .gtr 3 false true t23_1 (.int .i64 20)) fun t24 => k_1 t24 w_3) (fun t24_1 w_4 => 
 pur Try.prog (pickS t21 (.bool true) t24_1) fun t25 => 
 gd t25 false (fun k_2 w_5 => k_2 v_uses w_5) (fun t27_1 w_6 => 
 gd t25 false (fun k_3 w_7 => pur Try.prog (Builtin.len_ #[22] 3 #[t27_1]) fun t28 => k_3 t28 w_7) (fun t28_1 w_8 => 
 gd t25 false (fun k_4 w_9 => pur Try.prog (binS .gtr 3 false true t28_1 (.int .i64 100)) fun t29 => k_4 t29 w_9) (fun t29_1 w_10 => 
 pur Try.prog (pickS t25 (.bool true) t29_1) fun t30 => 
 condS t30
  (callS Try.prog 7 #[] (fun t31 w_11 => 
  Q t31 w_11) w_10)
  (callS Try.prog 8 #[v_room] (fun t33 w_12 => 
 rd Try.prog (binS .eql 24 false true t33 (.pointer none)) (fun t35 => 
 condS t35
  (Q (.bool false) w_12)
  (lp 1 (fun J => fun v_i w_13 => ∀ _j : Fr, 
  pur Try.prog (binS .lss 3 false false v_i v_room) fun t38 => 
  condS t38
   (callS Try.prog 9 #[t33, v_i, (.string ⟨#[120]⟩)] (fun _ w_14 => 
  pur Try.prog (binS .add 3 false true v_i (.int .i64 1)) fun t40 => 
  J t40 w_14) w_13)
   (lp 2 (fun J_1 => fun v_last v_i_1 w_15 => ∀ _j : Fr, 
  pur Try.prog (binS .lss 3 false false v_i_1 v_room) fun t46 => 
  condS t46
   (act Try.prog (Instr.buildSlice 22 1 #[(0, v_i_1)]) (fun t51 w_16 => 
  act Try.prog (Builtin.append_ #[22, 22] 22 #[v_last, t51]) (fun t52 w_17 => 
  pur Try.prog (binS .add 3 false true v_i_1 (.int .i64 1)) fun t48 => 
  J_1 t52 t48 w_17) w_16) w_15)
   (lp 2 (fun J_2 => fun v_last_1 v_i_2 w_18 => ∀ _j : Fr, 
  pur Try.prog (Builtin.len_ #[22] 3 #[v_uses]) fun t55 => 
  pur Try.prog (binS .lss 3 false false v_i_2 t55) fun t56 => 
  condS t56
   (jn 1 (fun J_3 => 
   pur Try.prog (Instr.indexAt 22 v_uses v_i_2) fun t61 => 
   rd Try.prog (Instr.loadAt 3 t61) (fun t62 => 
   callS Try.prog 10 #[t33, t62] (fun t66 w_19 => 
   pur Try.prog (Instr.extract t66 0) fun _ => 
   pur Try.prog (Instr.extract t66 1) fun t68 => 
   pur Try.prog (binS .geq 3 false true t62 (.int .i64 0)) fun t71 => 
   gd t71 true (fun k_5 w_20 => k_5 t62 w_20) (fun t73_1 w_21 => 
   gd t71 true (fun k_6 w_22 => k_6 v_room w_22) (fun t74_1 w_23 => 
   gd t71 true (fun k_7 w_24 => pur Try.prog (binS .lss 3 false false t73_1 t74_1) fun t75 => k_7 t75 w_24) (fun t75_1 w_25 => 
   pur Try.prog (pickS t71 t75_1 (.bool false)) fun t76 => 
   pur Try.prog (binS .neq 4 false false t68 t76) fun t77 => 
   condS t77
    (Q (.bool false) w_25)
    (condS t68
    (lp 2 (fun J_4 => fun v_l v_j w_26 => ∀ _j : Fr, 
     pur Try.prog (Builtin.len_ #[22] 3 #[v_last_1]) fun t81 => 
     pur Try.prog (binS .lss 3 false false v_j t81) fun t82 => 
     condS t82
      (jn 1 (fun J_5 => 
      pur Try.prog (Instr.indexAt 22 v_last_1 v_j) fun t87 => 
      rd Try.prog (Instr.loadAt 3 t87) (fun t88 => 
      pur Try.prog (binS .neq 3 false false t88 t62) fun t90 => 
      condS t90
       (pur Try.prog (Instr.indexAt 22 v_last_1 v_j) fun t94 => 
       rd Try.prog (Instr.loadAt 3 t94) (fun t95 => 
       act Try.prog (Instr.buildSlice 22 1 #[(0, t95)]) (fun t96 w_27 => 
       act Try.prog (Builtin.append_ #[22, 22] 22 #[v_l, t96]) (fun t97 w_28 => 
       J_5 t97 w_28) w_27) w_26) w_26)
       (J_5 v_l w_26)) w_26)
     (fun v_l_1 w_29 => ∀ _j : Fr, 
      pur Try.prog (binS .add 3 false true v_j (.int .i64 1)) fun t84 => 
      J_4 v_l_1 t84 w_29))
      (act Try.prog (Instr.buildSlice 22 1 #[(0, t62)]) (fun t100 w_30 => 
    act Try.prog (Builtin.append_ #[22, 22] 22 #[v_l, t100]) (fun t101 w_31 => 
    J_3 t101 w_31) w_30) w_26)) [(.slice none 0 0), (.int .i64 0)] w_25)
    (J_3 v_last_1 w_25))) w_23) w_21) w_19) w_18) w_18)
  (fun v_last_2 w_32 => ∀ _j : Fr, 
   pur Try.prog (binS .add 3 false true v_i_2 (.int .i64 1)) fun t58 => 
   J_2 v_last_2 t58 w_32))
   (lp 1 (fun J_6 => fun v_i_3 w_33 => ∀ _j : Fr, 
  pur Try.prog (binS .lss 3 false false v_i_3 v_room) fun t104 => 
  condS t104
   (pur Try.prog (binS .add 3 true false (.int .i64 1000) v_i_3) fun t110 => 
  callS Try.prog 9 #[t33, t110, (.string ⟨#[121]⟩)] (fun t111 w_34 => 
  pur Try.prog (Instr.extract t111 0) fun t112 => 
  pur Try.prog (Instr.extract t111 1) fun t113 => 
  pur Try.prog (Instr.extract t111 2) fun t114 => 
  pur Try.prog (Instr.extract t111 3) fun t115 => 
  pur Try.prog (Op.unary .not t114) fun t117 => 
  gd t117 false (fun k_8 w_35 => k_8 t115 w_35) (fun t119_1 w_36 => 
  gd t117 false (fun k_9 w_37 => pur Try.prog (Op.unary .not t119_1) fun t120 => k_9 t120 w_37) (fun t120_1 w_38 => 
  pur Try.prog (pickS t117 (.bool true) t120_1) fun t121 => 
  gd t121 false (fun k_10 w_39 => k_10 t112 w_39) (fun t123_1 w_40 => 
  gd t121 false (fun k_11 w_41 => k_11 v_last_1 w_41) (fun t124_1 w_42 => 
  gd t121 false (fun k_12 w_43 => k_12 v_i_3 w_43) (fun t125_1 w_44 => 
  gd t121 false (fun k_13 w_45 => pur Try.prog (Instr.indexAt 22 t124_1 t125_1) fun t126 => k_13 t126 w_45) (fun t126_1 w_46 => 
  gd t121 false (fun k_14 w_47 => rd Try.prog (Instr.loadAt 3 t126_1) (fun t127 => k_14 t127 w_47) w_47) (fun t127_1 w_48 => 
  gd t121 false (fun k_15 w_49 => pur Try.prog (binS .neq 3 false false t123_1 t127_1) fun t128 => k_15 t128 w_49) (fun t128_1 w_50 => 
  pur Try.prog (pickS t121 (.bool true) t128_1) fun t129 => 
  gd t129 false (fun k_16 w_51 => k_16 t113 w_51) (fun t131_1 w_52 => 
  gd t129 false (fun k_17 w_53 => pur Try.prog (binS .neq 9 false true t131_1 (.string ⟨#[120]⟩)) fun t132 => k_17 t132 w_53) (fun t132_1 w_54 => 
  pur Try.prog (pickS t129 (.bool true) t132_1) fun t133 => 
  condS t133
   (Q (.bool false) w_54)
   (pur Try.prog (binS .add 3 false true v_i_3 (.int .i64 1)) fun t106 => 
  J_6 t106 w_54)) w_52) w_50) w_48) w_46) w_44) w_42) w_40) w_38) w_36) w_34) w_33)
   (callS Try.prog 7 #[] (fun t134 w_55 => 
 gd t134 true (fun k_18 w_56 => k_18 t33 w_56) (fun t136_1 w_57 => 
 gd t134 true (fun k_19 w_58 => callS Try.prog 11 #[t136_1] (fun t137 w_59 => k_19 t137 w_59) w_58) (fun t137_1 w_60 => 
 gd t134 true (fun k_20 w_61 => k_20 v_room w_61) (fun t138_1 w_62 => 
 gd t134 true (fun k_21 w_63 => pur Try.prog (binS .eql 3 false false t137_1 t138_1) fun t139 => k_21 t139 w_63) (fun t139_1 w_64 => 
 pur Try.prog (pickS t134 t139_1 (.bool false)) fun t140 => 
 Q t140 w_64) w_62) w_60) w_57) w_55) w_33)) [(.int .i64 0)] w_18)) [v_last, (.int .i64 0)] w_15)) [(.slice none 0 0), (.int .i64 0)] w_13)) [(.int .i64 0)] w_12)) w_12) w_10)) w_8) w_6) w_4) w_2) w
theorem eq3 (v_room v_uses : Value) (Q : Value → World → Prop) (w : World) : semF Try.prog 3 [v_room, v_uses] Q w = S3 v_room v_uses Q w := by kernel_rfl
theorem ref3 {v_room v_uses : Value} {Q : Value → World → Prop} {w : World} (h : S3 v_room v_uses Q w) : callS Try.prog 3 #[v_room, v_uses] Q w :=
  callS_of mix (fun a w => Try.call3 a w) (by kernel_rfl) (by rw [eq3]; exact h)
-- commons/commonslaw5.LruKeeps
def S4 (v_room v_pins v_l : Value) (Q : Value → World → Prop) (w : World) : Prop :=
 pur Try.prog (binS .lss 3 false true v_room (.int .i64 1)) fun t27 => 
 gd t27 false (fun k w_1 => k v_room w_1) (fun t29_1 w_2 => 
 gd t27 false (fun k_1 w_3 => pur Try.prog (binS .gtr 3 false true t29_1 (.int .i64 60)) fun t30 => k_1 t30 w_3) (fun t30_1 w_4 => 
 pur Try.prog (pickS t27 (.bool true) t30_1) fun t31 => 
 gd t31 false (fun k_2 w_5 => k_2 v_pins w_5) (fun t33_1 w_6 => 
 gd t31 false (fun k_3 w_7 => pur Try.prog (Builtin.len_ #[32] 3 #[t33_1]) fun t34 => k_3 t34 w_7) (fun t34_1 w_8 => 
 gd t31 false (fun k_4 w_9 => pur Try.prog (binS .gtr 3 false true t34_1 (.int .i64 60)) fun t35 => k_4 t35 w_9) (fun t35_1 w_10 => 
 pur Try.prog (pickS t31 (.bool true) t35_1) fun t36 => 
 gd t36 false (fun k_5 w_11 => k_5 v_l w_11) (fun t38_1 w_12 => 
 gd t36 false (fun k_6 w_13 => pur Try.prog (Builtin.len_ #[32] 3 #[t38_1]) fun t39 => k_6 t39 w_13) (fun t39_1 w_14 => 
 gd t36 false (fun k_7 w_15 => pur Try.prog (binS .gtr 3 false true t39_1 (.int .i64 100)) fun t40 => k_7 t40 w_15) (fun t40_1 w_16 => 
 pur Try.prog (pickS t36 (.bool true) t40_1) fun t41 => 
 condS t41
  (callS Try.prog 7 #[] (fun t42 w_17 => 
  Q t42 w_17) w_16)
  (callS Try.prog 12 #[v_room] (fun t44 w_18 => 
 rd Try.prog (binS .eql 33 false true t44 (.pointer none)) (fun t46 => 
 condS t46
  (Q (.bool false) w_18)
  (lp 2 (fun J => fun v_held v_i w_19 => ∀ _j : Fr, 
  pur Try.prog (Builtin.len_ #[32] 3 #[v_pins]) fun t49 => 
  pur Try.prog (binS .lss 3 false false v_i t49) fun t50 => 
  gd t50 true (fun k_8 w_20 => k_8 v_i w_20) (fun t52_1 w_21 => 
  gd t50 true (fun k_9 w_22 => k_9 v_room w_22) (fun t53_1 w_23 => 
  gd t50 true (fun k_10 w_24 => pur Try.prog (binS .lss 3 false false t52_1 t53_1) fun t54 => k_10 t54 w_24) (fun t54_1 w_25 => 
  pur Try.prog (pickS t50 t54_1 (.bool false)) fun t55 => 
  condS t55
   (pur Try.prog (Instr.indexAt 32 v_pins v_i) fun t62 => 
  rd Try.prog (Instr.loadAt 9 t62) (fun t63 => 
  callS Try.prog 13 #[t44, t63, v_i] (fun t65 w_26 => 
  pur Try.prog (Instr.extract t65 0) fun _ => 
  pur Try.prog (Instr.extract t65 1) fun _ => 
  pur Try.prog (Instr.extract t65 2) fun _ => 
  pur Try.prog (Instr.extract t65 3) fun t69 => 
  pur Try.prog (Op.unary .not t69) fun t71 => 
  gd t71 false (fun k_11 w_27 => k_11 t44 w_27) (fun t73_1 w_28 => 
  gd t71 false (fun k_12 w_29 => k_12 v_pins w_29) (fun t74_1 w_30 => 
  gd t71 false (fun k_13 w_31 => k_13 v_i w_31) (fun t75_1 w_32 => 
  gd t71 false (fun k_14 w_33 => pur Try.prog (Instr.indexAt 32 t74_1 t75_1) fun t76 => k_14 t76 w_33) (fun t76_1 w_34 => 
  gd t71 false (fun k_15 w_35 => rd Try.prog (Instr.loadAt 9 t76_1) (fun t77 => k_15 t77 w_35) w_35) (fun t77_1 w_36 => 
  gd t71 false (fun k_16 w_37 => callS Try.prog 14 #[t73_1, t77_1] (fun t78 w_38 => k_16 t78 w_38) w_37) (fun t78_1 w_39 => 
  gd t71 false (fun k_17 w_40 => pur Try.prog (Op.unary .not t78_1) fun t79 => k_17 t79 w_40) (fun t79_1 w_41 => 
  pur Try.prog (pickS t71 (.bool true) t79_1) fun t80 => 
  condS t80
   (Q (.bool false) w_41)
   (pur Try.prog (Instr.indexAt 32 v_pins v_i) fun t84 => 
  rd Try.prog (Instr.loadAt 9 t84) (fun t85 => 
  act Try.prog (Instr.buildSlice 32 1 #[(0, t85)]) (fun t86 w_42 => 
  act Try.prog (Builtin.append_ #[32, 32] 32 #[v_held, t86]) (fun t87 w_43 => 
  pur Try.prog (binS .add 3 false true v_i (.int .i64 1)) fun t57 => 
  J t87 t57 w_43) w_42) w_41) w_41)) w_39) w_36) w_34) w_32) w_30) w_28) w_26) w_25) w_25)
   (lp 1 (fun J_1 => fun v_i_1 w_44 => ∀ _j : Fr, 
  pur Try.prog (Builtin.len_ #[32] 3 #[v_l]) fun t90 => 
  pur Try.prog (binS .lss 3 false false v_i_1 t90) fun t91 => 
  condS t91
   (pur Try.prog (Instr.indexAt 32 v_l v_i_1) fun t98 => 
  rd Try.prog (Instr.loadAt 9 t98) (fun t99 => 
  callS Try.prog 15 #[t44, t99] (fun t100 w_45 => 
  pur Try.prog (Instr.extract t100 0) fun _ => 
  pur Try.prog (Instr.extract t100 1) fun t102 => 
  pur Try.prog (Instr.indexAt 32 v_l v_i_1) fun t107 => 
  rd Try.prog (Instr.loadAt 9 t107) (fun t108 => 
  callS Try.prog 13 #[t44, t108, v_i_1] (fun t110 w_46 => 
  pur Try.prog (Instr.extract t110 0) fun t111 => 
  pur Try.prog (Instr.extract t110 1) fun _ => 
  pur Try.prog (Instr.extract t110 2) fun t113 => 
  pur Try.prog (Instr.extract t110 3) fun t114 => 
  pur Try.prog (Instr.indexAt 32 v_l v_i_1) fun t119 => 
  rd Try.prog (Instr.loadAt 9 t119) (fun t120 => 
  callS Try.prog 15 #[t44, t120] (fun t121 w_47 => 
  pur Try.prog (Instr.extract t121 0) fun _ => 
  pur Try.prog (Instr.extract t121 1) fun t123 => 
  pur Try.prog (binS .neq 4 false false t114 t123) fun t126 => 
  gd t126 false (fun k_18 w_48 => k_18 t102 w_48) (fun t128_1 w_49 => 
  gd t126 false (fun k_19 w_50 => k_19 t128_1 w_50) (fun t129_1 w_51 => 
  gd t129_1 true (fun k_20 w_52 => k_20 t114 w_52) (fun t130_1 w_53 => 
  gd t129_1 true (fun k_21 w_54 => pur Try.prog (Op.unary .not t130_1) fun t131 => k_21 t131 w_54) (fun t131_1 w_55 => 
  gd t126 false (fun k_22 w_56 => pur Try.prog (pickS t129_1 t131_1 (.bool false)) fun t132 => k_22 t132 w_56) (fun t132_1 w_57 => 
  pur Try.prog (pickS t126 (.bool true) t132_1) fun t133 => 
  gd t133 false (fun k_23 w_58 => k_23 t44 w_58) (fun t135_1 w_59 => 
  gd t133 false (fun k_24 w_60 => callS Try.prog 16 #[t135_1] (fun t136 w_61 => k_24 t136 w_61) w_60) (fun t136_1 w_62 => 
  gd t133 false (fun k_25 w_63 => k_25 v_room w_63) (fun t137_1 w_64 => 
  gd t133 false (fun k_26 w_65 => pur Try.prog (binS .gtr 3 false false t136_1 t137_1) fun t138 => k_26 t138 w_65) (fun t138_1 w_66 => 
  pur Try.prog (pickS t133 (.bool true) t138_1) fun t139 => 
  gd t139 false (fun k_27 w_67 => k_27 t113 w_67) (fun t141_1 w_68 => 
  gd t139 false (fun k_28 w_69 => k_28 t141_1 w_69) (fun t142_1 w_70 => 
  gd t142_1 true (fun k_29 w_71 => k_29 t111 w_71) (fun t143_1 w_72 => 
  gd t142_1 true (fun k_30 w_73 => k_30 v_l w_73) (fun t144_1 w_74 => 
  gd t142_1 true (fun k_31 w_75 => k_31 v_i_1 w_75) (fun t145_1 w_76 => 
  gd t142_1 true (fun k_32 w_77 => pur Try.prog (Instr.indexAt 32 t144_1 t145_1) fun t146 => k_32 t146 w_77) (fun t146_1 w_78 => 
  gd t142_1 true (fun k_33 w_79 => rd Try.prog (Instr.loadAt 9 t146_1) (fun t147 => k_33 t147 w_79) w_79) (fun t147_1 w_80 => 
  gd t142_1 true (fun k_34 w_81 => pur Try.prog (binS .eql 9 false false t143_1 t147_1) fun t148 => k_34 t148 w_81) (fun t148_1 w_82 => 
  gd t139 false (fun k_35 w_83 => pur Try.prog (pickS t142_1 t148_1 (.bool false)) fun t149 => k_35 t149 w_83) (fun t149_1 w_84 => 
  pur Try.prog (pickS t139 (.bool true) t149_1) fun t150 => 
  condS t150
   (Q (.bool false) w_84)
   (pur Try.prog (binS .add 3 false true v_i_1 (.int .i64 1)) fun t93 => 
  J_1 t93 w_84)) w_82) w_80) w_78) w_76) w_74) w_72) w_70) w_68) w_66) w_64) w_62) w_59) w_57) w_55) w_53) w_51) w_49) w_47) w_46) w_46) w_45) w_45) w_44) w_44)
   (lp 1 (fun J_2 => fun v_i_2 w_85 => ∀ _j : Fr, 
  pur Try.prog (Builtin.len_ #[32] 3 #[v_held]) fun t153 => 
  pur Try.prog (binS .lss 3 false false v_i_2 t153) fun t154 => 
  condS t154
   (pur Try.prog (Instr.indexAt 32 v_held v_i_2) fun t161 => 
  rd Try.prog (Instr.loadAt 9 t161) (fun t162 => 
  callS Try.prog 15 #[t44, t162] (fun t163 w_86 => 
  pur Try.prog (Instr.extract t163 0) fun _ => 
  pur Try.prog (Instr.extract t163 1) fun t165 => 
  pur Try.prog (Op.unary .not t165) fun t167 => 
  condS t167
   (Q (.bool false) w_86)
   (pur Try.prog (binS .add 3 false true v_i_2 (.int .i64 1)) fun t156 => 
  J_2 t156 w_86)) w_85) w_85)
   (callS Try.prog 7 #[] (fun t168 w_87 => 
 Q t168 w_87) w_85)) [(.int .i64 0)] w_44)) [(.int .i64 0)] w_25)) w_23) w_21) w_19) [(.slice none 0 0), (.int .i64 0)] w_18)) w_18) w_16)) w_14) w_12) w_10) w_8) w_6) w_4) w_2) w
theorem eq4 (v_room v_pins v_l : Value) (Q : Value → World → Prop) (w : World) : semF Try.prog 4 [v_room, v_pins, v_l] Q w = S4 v_room v_pins v_l Q w := by kernel_rfl
theorem ref4 {v_room v_pins v_l : Value} {Q : Value → World → Prop} {w : World} (h : S4 v_room v_pins v_l Q w) : callS Try.prog 4 #[v_room, v_pins, v_l] Q w :=
  callS_of mix (fun a w => Try.call4 a w) (by kernel_rfl) (by rw [eq4]; exact h)
-- commons/commonslaw5.LruPins
def S5 (v_pins : Value) (Q : Value → World → Prop) (w : World) : Prop :=
 pur Try.prog (binS .lss 3 false true v_pins (.int .i64 1)) fun t15 => 
 gd t15 false (fun k w_1 => k v_pins w_1) (fun t17_1 w_2 => 
 gd t15 false (fun k_1 w_3 => pur Try.prog (binS .gtr 3 false true t17_1 (.int .i64 30)) fun t18 => k_1 t18 w_3) (fun t18_1 w_4 => 
 pur Try.prog (pickS t15 (.bool true) t18_1) fun t19 => 
 condS t19
  (callS Try.prog 7 #[] (fun t20 w_5 => 
  Q t20 w_5) w_4)
  (callS Try.prog 17 #[(.int .i64 1)] (fun t21 w_6 => 
 rd Try.prog (binS .eql 41 false true t21 (.pointer none)) (fun t23 => 
 condS t23
  (Q (.bool false) w_6)
  (callS Try.prog 18 #[t21, (.int .i64 1), (.int .i64 5)] (fun _ w_7 => 
 lp 1 (fun J => fun v_i w_8 => ∀ _j : Fr, 
  pur Try.prog (binS .lss 3 false false v_i v_pins) fun t28 => 
  condS t28
   (callS Try.prog 19 #[t21, (.int .i64 1)] (fun t32 w_9 => 
  pur Try.prog (Op.unary .not t32) fun t33 => 
  gd t33 false (fun k_2 w_10 => k_2 t21 w_10) (fun t35_1 w_11 => 
  gd t33 false (fun k_3 w_12 => callS Try.prog 20 #[t35_1, (.int .i64 1)] (fun t36 w_13 => k_3 t36 w_13) w_12) (fun t36_1 w_14 => 
  gd t33 false (fun k_4 w_15 => k_4 v_i w_15) (fun t37_1 w_16 => 
  gd t33 false (fun k_5 w_17 => pur Try.prog (binS .add 3 false true t37_1 (.int .i64 1)) fun t38 => k_5 t38 w_17) (fun t38_1 w_18 => 
  gd t33 false (fun k_6 w_19 => pur Try.prog (binS .neq 3 false false t36_1 t38_1) fun t39 => k_6 t39 w_19) (fun t39_1 w_20 => 
  pur Try.prog (pickS t33 (.bool true) t39_1) fun t40 => 
  condS t40
   (Q (.bool false) w_20)
   (pur Try.prog (binS .add 3 false true v_i (.int .i64 1)) fun t30 => 
  J t30 w_20)) w_18) w_16) w_14) w_11) w_9) w_8)
   (lp 1 (fun J_1 => fun v_i_1 w_21 => ∀ _j : Fr, 
  pur Try.prog (binS .lss 3 false false v_i_1 v_pins) fun t43 => 
  condS t43
   (callS Try.prog 18 #[t21, (.int .i64 2), (.int .i64 6)] (fun t48 w_22 => 
  pur Try.prog (Instr.extract t48 0) fun _ => 
  pur Try.prog (Instr.extract t48 1) fun _ => 
  pur Try.prog (Instr.extract t48 2) fun t51 => 
  pur Try.prog (Instr.extract t48 3) fun t52 => 
  gd t51 false (fun k_7 w_23 => k_7 t52 w_23) (fun t55_1 w_24 => 
  pur Try.prog (pickS t51 (.bool true) t55_1) fun t56 => 
  gd t56 false (fun k_8 w_25 => k_8 t21 w_25) (fun t58_1 w_26 => 
  gd t56 false (fun k_9 w_27 => callS Try.prog 21 #[t58_1, (.int .i64 1)] (fun t59 w_28 => k_9 t59 w_28) w_27) (fun t59_1 w_29 => 
  gd t56 false (fun k_10 w_30 => pur Try.prog (Op.unary .not t59_1) fun t60 => k_10 t60 w_30) (fun t60_1 w_31 => 
  pur Try.prog (pickS t56 (.bool true) t60_1) fun t61 => 
  condS t61
   (Q (.bool false) w_31)
   (pur Try.prog (binS .add 3 false true v_i_1 (.int .i64 1)) fun t45 => 
  J_1 t45 w_31)) w_29) w_26) w_24) w_22) w_21)
   (callS Try.prog 18 #[t21, (.int .i64 2), (.int .i64 6)] (fun t64 w_32 => 
 pur Try.prog (Instr.extract t64 0) fun t65 => 
 pur Try.prog (Instr.extract t64 1) fun t66 => 
 pur Try.prog (Instr.extract t64 2) fun t67 => 
 pur Try.prog (Instr.extract t64 3) fun t68 => 
 callS Try.prog 7 #[] (fun t69 w_33 => 
 gd t69 true (fun k_11 w_34 => k_11 t65 w_34) (fun t71_1 w_35 => 
 gd t69 true (fun k_12 w_36 => pur Try.prog (binS .eql 3 false true t71_1 (.int .i64 1)) fun t72 => k_12 t72 w_36) (fun t72_1 w_37 => 
 pur Try.prog (pickS t69 t72_1 (.bool false)) fun t73 => 
 gd t73 true (fun k_13 w_38 => k_13 t66 w_38) (fun t75_1 w_39 => 
 gd t73 true (fun k_14 w_40 => pur Try.prog (binS .eql 3 false true t75_1 (.int .i64 5)) fun t76 => k_14 t76 w_40) (fun t76_1 w_41 => 
 pur Try.prog (pickS t73 t76_1 (.bool false)) fun t77 => 
 gd t77 true (fun k_15 w_42 => k_15 t67 w_42) (fun t79_1 w_43 => 
 pur Try.prog (pickS t77 t79_1 (.bool false)) fun t80 => 
 gd t80 true (fun k_16 w_44 => k_16 t68 w_44) (fun t82_1 w_45 => 
 pur Try.prog (pickS t80 t82_1 (.bool false)) fun t83 => 
 gd t83 true (fun k_17 w_46 => k_17 t21 w_46) (fun t85_1 w_47 => 
 gd t83 true (fun k_18 w_48 => callS Try.prog 21 #[t85_1, (.int .i64 2)] (fun t86 w_49 => k_18 t86 w_49) w_48) (fun t86_1 w_50 => 
 gd t83 true (fun k_19 w_51 => pur Try.prog (Op.unary .not t86_1) fun t87 => k_19 t87 w_51) (fun t87_1 w_52 => 
 pur Try.prog (pickS t83 t87_1 (.bool false)) fun t88 => 
 gd t88 true (fun k_20 w_53 => k_20 t21 w_53) (fun t90_1 w_54 => 
 gd t88 true (fun k_21 w_55 => callS Try.prog 19 #[t90_1, (.int .i64 1)] (fun t91 w_56 => k_21 t91 w_56) w_55) (fun t91_1 w_57 => 
 gd t88 true (fun k_22 w_58 => pur Try.prog (Op.unary .not t91_1) fun t92 => k_22 t92 w_58) (fun t92_1 w_59 => 
 pur Try.prog (pickS t88 t92_1 (.bool false)) fun t93 => 
 Q t93 w_59) w_57) w_54) w_52) w_50) w_47) w_45) w_43) w_41) w_39) w_37) w_35) w_33) w_32) w_21)) [(.int .i64 0)] w_8)) [(.int .i64 0)] w_7) w_6)) w_6) w_4)) w_2) w
theorem eq5 (v_pins : Value) (Q : Value → World → Prop) (w : World) : semF Try.prog 5 [v_pins] Q w = S5 v_pins Q w := by kernel_rfl
theorem ref5 {v_pins : Value} {Q : Value → World → Prop} {w : World} (h : S5 v_pins Q w) : callS Try.prog 5 #[v_pins] Q w :=
  callS_of mix (fun a w => Try.call5 a w) (by kernel_rfl) (by rw [eq5]; exact h)
-- commons/commonslaw5.LruNone
def S6 (v_k v_v : Value) (Q : Value → World → Prop) (w : World) : Prop :=
 callS Try.prog 18 #[(.pointer none), v_k, v_v] (fun t18 w_1 => 
 pur Try.prog (Instr.extract t18 0) fun _ => 
 pur Try.prog (Instr.extract t18 1) fun _ => 
 pur Try.prog (Instr.extract t18 2) fun t21 => 
 pur Try.prog (Instr.extract t18 3) fun t22 => 
 callS Try.prog 22 #[(.pointer none), v_k] (fun t26 w_2 => 
 pur Try.prog (Instr.extract t26 0) fun _ => 
 pur Try.prog (Instr.extract t26 1) fun t28 => 
 callS Try.prog 23 #[(.pointer none), v_k] (fun t32 w_3 => 
 pur Try.prog (Instr.extract t32 0) fun _ => 
 pur Try.prog (Instr.extract t32 1) fun t34 => 
 callS Try.prog 7 #[] (fun t35 w_4 => 
 gd t35 true (fun k w_5 => k t21 w_5) (fun t37_1 w_6 => 
 gd t35 true (fun k_1 w_7 => pur Try.prog (Op.unary .not t37_1) fun t38 => k_1 t38 w_7) (fun t38_1 w_8 => 
 pur Try.prog (pickS t35 t38_1 (.bool false)) fun t39 => 
 gd t39 true (fun k_2 w_9 => k_2 t22 w_9) (fun t41_1 w_10 => 
 gd t39 true (fun k_3 w_11 => pur Try.prog (Op.unary .not t41_1) fun t42 => k_3 t42 w_11) (fun t42_1 w_12 => 
 pur Try.prog (pickS t39 t42_1 (.bool false)) fun t43 => 
 gd t43 true (fun k_4 w_13 => k_4 t28 w_13) (fun t45_1 w_14 => 
 gd t43 true (fun k_5 w_15 => pur Try.prog (Op.unary .not t45_1) fun t46 => k_5 t46 w_15) (fun t46_1 w_16 => 
 pur Try.prog (pickS t43 t46_1 (.bool false)) fun t47 => 
 gd t47 true (fun k_6 w_17 => k_6 t34 w_17) (fun t49_1 w_18 => 
 gd t47 true (fun k_7 w_19 => pur Try.prog (Op.unary .not t49_1) fun t50 => k_7 t50 w_19) (fun t50_1 w_20 => 
 pur Try.prog (pickS t47 t50_1 (.bool false)) fun t51 => 
 gd t51 true (fun k_8 w_21 => k_8 (.pointer none) w_21) (fun t53_1 w_22 => 
 gd t51 true (fun k_9 w_23 => k_9 v_k w_23) (fun t54_1 w_24 => 
 gd t51 true (fun k_10 w_25 => callS Try.prog 19 #[t53_1, t54_1] (fun t55 w_26 => k_10 t55 w_26) w_25) (fun t55_1 w_27 => 
 gd t51 true (fun k_11 w_28 => pur Try.prog (Op.unary .not t55_1) fun t56 => k_11 t56 w_28) (fun t56_1 w_29 => 
 pur Try.prog (pickS t51 t56_1 (.bool false)) fun t57 => 
 gd t57 true (fun k_12 w_30 => k_12 (.pointer none) w_30) (fun t59_1 w_31 => 
 gd t57 true (fun k_13 w_32 => k_13 v_k w_32) (fun t60_1 w_33 => 
 gd t57 true (fun k_14 w_34 => callS Try.prog 21 #[t59_1, t60_1] (fun t61 w_35 => k_14 t61 w_35) w_34) (fun t61_1 w_36 => 
 gd t57 true (fun k_15 w_37 => pur Try.prog (Op.unary .not t61_1) fun t62 => k_15 t62 w_37) (fun t62_1 w_38 => 
 pur Try.prog (pickS t57 t62_1 (.bool false)) fun t63 => 
 gd t63 true (fun k_16 w_39 => k_16 (.pointer none) w_39) (fun t65_1 w_40 => 
 gd t63 true (fun k_17 w_41 => k_17 v_k w_41) (fun t66_1 w_42 => 
 gd t63 true (fun k_18 w_43 => callS Try.prog 20 #[t65_1, t66_1] (fun t67 w_44 => k_18 t67 w_44) w_43) (fun t67_1 w_45 => 
 gd t63 true (fun k_19 w_46 => k_19 (.pointer none) w_46) (fun t68_1 w_47 => 
 gd t63 true (fun k_20 w_48 => callS Try.prog 24 #[t68_1] (fun t69 w_49 => k_20 t69 w_49) w_48) (fun t69_1 w_50 => 
 gd t63 true (fun k_21 w_51 => pur Try.prog (Builtin.len_ #[22] 3 #[t69_1]) fun t70 => k_21 t70 w_51) (fun t70_1 w_52 => 
 gd t63 true (fun k_22 w_53 => pur Try.prog (binS .add 3 false false t67_1 t70_1) fun t71 => k_22 t71 w_53) (fun t71_1 w_54 => 
 gd t63 true (fun k_23 w_55 => k_23 (.pointer none) w_55) (fun t72_1 w_56 => 
 gd t63 true (fun k_24 w_57 => callS Try.prog 25 #[t72_1] (fun t73 w_58 => k_24 t73 w_58) w_57) (fun t73_1 w_59 => 
 gd t63 true (fun k_25 w_60 => pur Try.prog (binS .add 3 false false t71_1 t73_1) fun t74 => k_25 t74 w_60) (fun t74_1 w_61 => 
 gd t63 true (fun k_26 w_62 => k_26 (.pointer none) w_62) (fun t75_1 w_63 => 
 gd t63 true (fun k_27 w_64 => callS Try.prog 26 #[t75_1] (fun t76 w_65 => k_27 t76 w_65) w_64) (fun t76_1 w_66 => 
 gd t63 true (fun k_28 w_67 => pur Try.prog (binS .add 3 false false t74_1 t76_1) fun t77 => k_28 t77 w_67) (fun t77_1 w_68 => 
 gd t63 true (fun k_29 w_69 => pur Try.prog (binS .eql 3 false true t77_1 (.int .i64 0)) fun t78 => k_29 t78 w_69) (fun t78_1 w_70 => 
 pur Try.prog (pickS t63 t78_1 (.bool false)) fun t79 => 
 gd t79 true (fun k_30 w_71 => k_30 (.pointer none) w_71) (fun t81_1 w_72 => 
 gd t79 true (fun k_31 w_73 => k_31 v_k w_73) (fun t82_1 w_74 => 
 gd t79 true (fun k_32 w_75 => callS Try.prog 27 #[t81_1, t82_1] (fun t83 w_76 => k_32 t83 w_76) w_75) (fun t83_1 w_77 => 
 gd t79 true (fun k_33 w_78 => pur Try.prog (Op.unary .not t83_1) fun t84 => k_33 t84 w_78) (fun t84_1 w_79 => 
 pur Try.prog (pickS t79 t84_1 (.bool false)) fun t85 => 
 Q t85 w_79) w_77) w_74) w_72) w_70) w_68) w_66) w_63) w_61) w_59) w_56) w_54) w_52) w_50) w_47) w_45) w_42) w_40) w_38) w_36) w_33) w_31) w_29) w_27) w_24) w_22) w_20) w_18) w_16) w_14) w_12) w_10) w_8) w_6) w_4) w_3) w_2) w_1) w
theorem eq6 (v_k v_v : Value) (Q : Value → World → Prop) (w : World) : semF Try.prog 6 [v_k, v_v] Q w = S6 v_k v_v Q w := by kernel_rfl
theorem ref6 {v_k v_v : Value} {Q : Value → World → Prop} {w : World} (h : S6 v_k v_v Q w) : callS Try.prog 6 #[v_k, v_v] Q w :=
  callS_of mix (fun a w => Try.call6 a w) (by kernel_rfl) (by rw [eq6]; exact h)
-- commons/commonslaw5.alive
def S7 (Q : Value → World → Prop) (w : World) : Prop :=
 callS Try.prog 17 #[(.int .i64 2)] (fun t8 w_1 => 
 rd Try.prog (binS .eql 41 false true t8 (.pointer none)) (fun t10 => 
 condS t10
  (Q (.bool false) w_1)
  (callS Try.prog 18 #[t8, (.int .i64 1), (.int .i64 10)] (fun _ w_2 => 
 callS Try.prog 18 #[t8, (.int .i64 2), (.int .i64 20)] (fun _ w_3 => 
 callS Try.prog 22 #[t8, (.int .i64 1)] (fun t17 w_4 => 
 pur Try.prog (Instr.extract t17 0) fun t18 => 
 pur Try.prog (Instr.extract t17 1) fun t19 => 
 callS Try.prog 18 #[t8, (.int .i64 3), (.int .i64 30)] (fun t22 w_5 => 
 pur Try.prog (Instr.extract t22 0) fun t23 => 
 pur Try.prog (Instr.extract t22 1) fun t24 => 
 pur Try.prog (Instr.extract t22 2) fun t25 => 
 pur Try.prog (Instr.extract t22 3) fun t26 => 
 gd t19 true (fun k w_6 => k t18 w_6) (fun t29_1 w_7 => 
 gd t19 true (fun k_1 w_8 => pur Try.prog (binS .eql 3 false true t29_1 (.int .i64 10)) fun t30 => k_1 t30 w_8) (fun t30_1 w_9 => 
 pur Try.prog (pickS t19 t30_1 (.bool false)) fun t31 => 
 gd t31 true (fun k_2 w_10 => k_2 t23 w_10) (fun t33_1 w_11 => 
 gd t31 true (fun k_3 w_12 => pur Try.prog (binS .eql 3 false true t33_1 (.int .i64 2)) fun t34 => k_3 t34 w_12) (fun t34_1 w_13 => 
 pur Try.prog (pickS t31 t34_1 (.bool false)) fun t35 => 
 gd t35 true (fun k_4 w_14 => k_4 t24 w_14) (fun t37_1 w_15 => 
 gd t35 true (fun k_5 w_16 => pur Try.prog (binS .eql 3 false true t37_1 (.int .i64 20)) fun t38 => k_5 t38 w_16) (fun t38_1 w_17 => 
 pur Try.prog (pickS t35 t38_1 (.bool false)) fun t39 => 
 gd t39 true (fun k_6 w_18 => k_6 t25 w_18) (fun t41_1 w_19 => 
 pur Try.prog (pickS t39 t41_1 (.bool false)) fun t42 => 
 gd t42 true (fun k_7 w_20 => k_7 t26 w_20) (fun t44_1 w_21 => 
 pur Try.prog (pickS t42 t44_1 (.bool false)) fun t45 => 
 gd t45 true (fun k_8 w_22 => k_8 t8 w_22) (fun t47_1 w_23 => 
 gd t45 true (fun k_9 w_24 => callS Try.prog 25 #[t47_1] (fun t48 w_25 => k_9 t48 w_25) w_24) (fun t48_1 w_26 => 
 gd t45 true (fun k_10 w_27 => pur Try.prog (binS .eql 3 false true t48_1 (.int .i64 2)) fun t49 => k_10 t49 w_27) (fun t49_1 w_28 => 
 pur Try.prog (pickS t45 t49_1 (.bool false)) fun t50 => 
 Q t50 w_28) w_26) w_23) w_21) w_19) w_17) w_15) w_13) w_11) w_9) w_7) w_5) w_4) w_3) w_2) w_1)) w_1) w
theorem eq7 (Q : Value → World → Prop) (w : World) : semF Try.prog 7 [] Q w = S7 Q w := by kernel_rfl
theorem ref7 {Q : Value → World → Prop} {w : World} (h : S7 Q w) : callS Try.prog 7 #[] Q w :=
  callS_of mix (fun a w => Try.call7 a w) (by kernel_rfl) (by rw [eq7]; exact h)
-- commons/lru.New[int,string]
def S8 (v_room : Value) (Q : Value → World → Prop) (w : World) : Prop :=
 act Try.prog (Instr.makeMap 50 none) (fun t4 w_1 => 
 pur Try.prog (Builtin.max_ #[3, 3] 3 #[v_room, (.int .i64 0)]) fun t6 => 
 pur Try.prog (Builtin.min_ #[3, 3] 3 #[t6, (.int .i64 100000)]) fun t7 => 
 pur Try.prog (Instr.build 55 #[(0, t4), (2, t7)]) fun t8 => 
 act Try.prog (Instr.box 55 t8) (fun t9 w_2 => 
 pur Try.prog (nilV t9) fun t13 => 
 pur Try.prog (Instr.fieldAt 55 t13 1) fun t14 => 
 pur Try.prog (nilV t9) fun t16 => 
 pur Try.prog (Instr.fieldAt 55 t16 1) fun t17 => 
 pur Try.prog (nilV t9) fun t18 => 
 pur Try.prog (Instr.fieldAt 55 t18 1) fun t19 => 
 pur Try.prog (Instr.fieldAt 53 t19 3) fun t20 => 
 act Try.prog (thenU (Instr.storeAt 51 t20 t14)) (fun _ w_3 => 
 pur Try.prog (nilV t9) fun t21 => 
 pur Try.prog (Instr.fieldAt 55 t21 1) fun t22 => 
 pur Try.prog (Instr.fieldAt 53 t22 4) fun t23 => 
 act Try.prog (thenU (Instr.storeAt 51 t23 t17)) (fun _ w_4 => 
 Q t9 w_4) w_3) (World.drew w_2)) w_1) w
theorem eq8 (v_room : Value) (Q : Value → World → Prop) (w : World) : semF Try.prog 8 [v_room] Q w = S8 v_room Q w := by kernel_rfl
theorem ref8 {v_room : Value} {Q : Value → World → Prop} {w : World} (h : S8 v_room Q w) : callS Try.prog 8 #[v_room] Q w :=
  callS_of mix (fun a w => Try.call8 a w) (by kernel_rfl) (by rw [eq8]; exact h)
-- (*commons/lru.Cache[int, string]).Put
def S9 (v_c v_k v_v : Value) (Q : Value → World → Prop) (w : World) : Prop :=
 act Try.prog (Instr.alloc 53 true (.tuple #[])) (fun t10 w_1 => 
 callS Try.prog 28 #[v_c, v_k] (fun t17 w_2 => 
 rd Try.prog (binS .neq 51 false true t17 (.pointer none)) (fun t19 => 
 condS t19
  (pur Try.prog (nilV t17) fun t22 => 
  pur Try.prog (Instr.fieldAt 53 t22 1) fun t23 => 
  act Try.prog (thenU (Instr.storeAt 9 t23 v_v)) (fun _ w_3 => 
  callS Try.prog 29 #[v_c, t17] (fun _ w_4 => 
  pur Try.prog (Instr.fieldAt 53 t10 0) fun t27 => 
  rd Try.prog (Instr.loadAt 3 t27) (fun t28 => 
  pur Try.prog (Instr.fieldAt 53 t10 1) fun t29 => 
  rd Try.prog (Instr.loadAt 9 t29) (fun t30 => 
  Q (.tuple #[t28, t30, (.bool false), (.bool true)]) (World.drew w_4)) (World.drew w_4)) (World.drew w_4)) w_3) w_2)
  (callS Try.prog 30 #[v_c] (fun t32 w_5 => 
 pur Try.prog (binS .eql 3 false true t32 (.int .i64 0)) fun t33 => 
 condS t33
  (pur Try.prog (Instr.fieldAt 53 t10 0) fun t34 => 
  rd Try.prog (Instr.loadAt 3 t34) (fun t35 => 
  pur Try.prog (Instr.fieldAt 53 t10 1) fun t36 => 
  rd Try.prog (Instr.loadAt 9 t36) (fun t37 => 
  Q (.tuple #[t35, t37, (.bool false), (.bool false)]) (World.drew w_5)) (World.drew w_5)) (World.drew w_5))
  (jn 1 (fun J => 
  pur Try.prog (nilV v_c) fun t39 => 
  pur Try.prog (Instr.fieldAt 55 t39 0) fun t40 => 
  rd Try.prog (Instr.loadAt 50 t40) (fun t41 => 
  rd Try.prog (Builtin.len_ #[50] 3 #[t41]) (fun t42 => 
  pur Try.prog (nilV v_c) fun t44 => 
  pur Try.prog (Instr.fieldAt 55 t44 2) fun t45 => 
  rd Try.prog (Instr.loadAt 3 t45) (fun t46 => 
  pur Try.prog (binS .geq 3 false false t42 t46) fun t47 => 
  condS t47
   (callS Try.prog 31 #[v_c] (fun t49 w_6 => 
   rd Try.prog (binS .eql 51 false true t49 (.pointer none)) (fun t51 => 
   condS t51
    (pur Try.prog (Instr.fieldAt 53 t10 0) fun t52 => 
    rd Try.prog (Instr.loadAt 3 t52) (fun t53 => 
    pur Try.prog (Instr.fieldAt 53 t10 1) fun t54 => 
    rd Try.prog (Instr.loadAt 9 t54) (fun t55 => 
    Q (.tuple #[t53, t55, (.bool false), (.bool false)]) (World.drew w_6)) (World.drew w_6)) (World.drew w_6))
    (callS Try.prog 32 #[t49] (fun _ w_7 => 
   pur Try.prog (nilV v_c) fun t59 => 
   pur Try.prog (Instr.fieldAt 55 t59 0) fun t60 => 
   rd Try.prog (Instr.loadAt 50 t60) (fun t61 => 
   pur Try.prog (nilV t49) fun t63 => 
   pur Try.prog (Instr.fieldAt 53 t63 0) fun t64 => 
   rd Try.prog (Instr.loadAt 3 t64) (fun t65 => 
   act Try.prog (Builtin.delete_ #[50, 3] 0 #[t61, t65]) (fun _ w_8 => 
   ∃ S : World → Prop, S (World.drew w_8) ∧ 
   pur Try.prog (nilV t49) fun t67 => 
   pur Try.prog (Instr.fieldAt 53 t67 0) fun t68 => 
   hld Try.prog S (Instr.loadAt 3 t68) fun t69 => 
   pur Try.prog (nilV t49) fun t71 => 
   pur Try.prog (Instr.fieldAt 53 t71 1) fun t72 => 
   hld Try.prog S (Instr.loadAt 9 t72) fun t73 => 
   pur Try.prog (Instr.fieldAt 53 t10 0) fun t74 => 
   act Try.prog (thenU (Instr.storeAt 3 t74 t69)) (fun _ w_9 => S w_9 ∧ 
   pur Try.prog (Instr.fieldAt 53 t10 1) fun t75 => 
   act Try.prog (thenU (Instr.storeAt 9 t75 t73)) (fun _ w_10 => S w_10 ∧ 
   J (.bool true) w_10) w_9) (World.drew w_8)) (World.drew w_7)) (World.drew w_7)) (World.drew w_7)) w_6)) w_6) (World.drew w_5))
   (J (.bool false) (World.drew w_5))) (World.drew w_5)) (World.drew w_5)) (World.drew w_5))
 (fun v_out w_11 => ∀ _j : Fr, 
  pur Try.prog (Instr.build 53 #[(0, v_k), (1, v_v)]) fun t78 => 
  act Try.prog (Instr.box 53 t78) (fun t79 w_12 => 
  pur Try.prog (nilV v_c) fun t81 => 
  pur Try.prog (Instr.fieldAt 55 t81 0) fun t82 => 
  rd Try.prog (Instr.loadAt 50 t82) (fun t83 => 
  act Try.prog (thenU (Instr.mapUpdate 50 t83 v_k t79)) (fun _ w_13 => 
  callS Try.prog 33 #[v_c, t79] (fun _ w_14 => 
  pur Try.prog (Instr.fieldAt 53 t10 0) fun t89 => 
  rd Try.prog (Instr.loadAt 3 t89) (fun t90 => 
  pur Try.prog (Instr.fieldAt 53 t10 1) fun t91 => 
  rd Try.prog (Instr.loadAt 9 t91) (fun t92 => 
  Q (.tuple #[t90, t92, v_out, (.bool true)]) (World.drew w_14)) (World.drew w_14)) (World.drew w_14)) w_13) w_12) w_12) w_11))) w_2)) w_2) w_1) w
theorem eq9 (v_c v_k v_v : Value) (Q : Value → World → Prop) (w : World) : semF Try.prog 9 [v_c, v_k, v_v] Q w = S9 v_c v_k v_v Q w := by kernel_rfl
theorem ref9 {v_c v_k v_v : Value} {Q : Value → World → Prop} {w : World} (h : S9 v_c v_k v_v Q w) : callS Try.prog 9 #[v_c, v_k, v_v] Q w :=
  callS_of mix (fun a w => Try.call9 a w) (by kernel_rfl) (by rw [eq9]; exact h)
-- (*commons/lru.Cache[int, string]).Get
def S10 (v_c v_k : Value) (Q : Value → World → Prop) (w : World) : Prop :=
 jn 0 (fun J => 
  callS Try.prog 28 #[v_c, v_k] (fun t9 w_1 => 
  rd Try.prog (binS .neq 51 false true t9 (.pointer none)) (fun t11 => 
  condS t11
   (callS Try.prog 29 #[v_c, t9] (fun _ w_2 => 
   J  w_2) w_1)
   (J  w_1)) w_1) w)
 (fun  w_3 => ∀ _j : Fr, 
  callS Try.prog 34 #[v_c, v_k] (fun t17 w_4 => 
  pur Try.prog (Instr.extract t17 0) fun t18 => 
  pur Try.prog (Instr.extract t17 1) fun t19 => 
  Q (.tuple #[t18, t19]) w_4) w_3)
theorem eq10 (v_c v_k : Value) (Q : Value → World → Prop) (w : World) : semF Try.prog 10 [v_c, v_k] Q w = S10 v_c v_k Q w := by kernel_rfl
theorem ref10 {v_c v_k : Value} {Q : Value → World → Prop} {w : World} (h : S10 v_c v_k Q w) : callS Try.prog 10 #[v_c, v_k] Q w :=
  callS_of mix (fun a w => Try.call10 a w) (by kernel_rfl) (by rw [eq10]; exact h)
-- (*commons/lru.Cache[int, string]).Len
def S11 (v_c : Value) (Q : Value → World → Prop) (w : World) : Prop :=
 rd Try.prog (binS .eql 24 false true v_c (.pointer none)) (fun t4 => 
 condS t4
  (Q (.int .i64 0) w)
  (pur Try.prog (nilV v_c) fun t6 => 
 pur Try.prog (Instr.fieldAt 55 t6 0) fun t7 => 
 rd Try.prog (Instr.loadAt 50 t7) (fun t8 => 
 rd Try.prog (Builtin.len_ #[50] 3 #[t8]) (fun t9 => 
 Q t9 w) w) w)) w
theorem eq11 (v_c : Value) (Q : Value → World → Prop) (w : World) : semF Try.prog 11 [v_c] Q w = S11 v_c Q w := by kernel_rfl
theorem ref11 {v_c : Value} {Q : Value → World → Prop} {w : World} (h : S11 v_c Q w) : callS Try.prog 11 #[v_c] Q w :=
  callS_of mix (fun a w => Try.call11 a w) (by kernel_rfl) (by rw [eq11]; exact h)
-- commons/lru.New[string,int]
def S12 (v_room : Value) (Q : Value → World → Prop) (w : World) : Prop :=
 act Try.prog (Instr.makeMap 59 none) (fun t4 w_1 => 
 pur Try.prog (Builtin.max_ #[3, 3] 3 #[v_room, (.int .i64 0)]) fun t6 => 
 pur Try.prog (Builtin.min_ #[3, 3] 3 #[t6, (.int .i64 100000)]) fun t7 => 
 pur Try.prog (Instr.build 64 #[(0, t4), (2, t7)]) fun t8 => 
 act Try.prog (Instr.box 64 t8) (fun t9 w_2 => 
 pur Try.prog (nilV t9) fun t13 => 
 pur Try.prog (Instr.fieldAt 64 t13 1) fun t14 => 
 pur Try.prog (nilV t9) fun t16 => 
 pur Try.prog (Instr.fieldAt 64 t16 1) fun t17 => 
 pur Try.prog (nilV t9) fun t18 => 
 pur Try.prog (Instr.fieldAt 64 t18 1) fun t19 => 
 pur Try.prog (Instr.fieldAt 62 t19 3) fun t20 => 
 act Try.prog (thenU (Instr.storeAt 60 t20 t14)) (fun _ w_3 => 
 pur Try.prog (nilV t9) fun t21 => 
 pur Try.prog (Instr.fieldAt 64 t21 1) fun t22 => 
 pur Try.prog (Instr.fieldAt 62 t22 4) fun t23 => 
 act Try.prog (thenU (Instr.storeAt 60 t23 t17)) (fun _ w_4 => 
 Q t9 w_4) w_3) (World.drew w_2)) w_1) w
theorem eq12 (v_room : Value) (Q : Value → World → Prop) (w : World) : semF Try.prog 12 [v_room] Q w = S12 v_room Q w := by kernel_rfl
theorem ref12 {v_room : Value} {Q : Value → World → Prop} {w : World} (h : S12 v_room Q w) : callS Try.prog 12 #[v_room] Q w :=
  callS_of mix (fun a w => Try.call12 a w) (by kernel_rfl) (by rw [eq12]; exact h)
-- (*commons/lru.Cache[string, int]).Put
def S13 (v_c v_k v_v : Value) (Q : Value → World → Prop) (w : World) : Prop :=
 act Try.prog (Instr.alloc 62 true (.tuple #[])) (fun t10 w_1 => 
 callS Try.prog 35 #[v_c, v_k] (fun t17 w_2 => 
 rd Try.prog (binS .neq 60 false true t17 (.pointer none)) (fun t19 => 
 condS t19
  (pur Try.prog (nilV t17) fun t22 => 
  pur Try.prog (Instr.fieldAt 62 t22 1) fun t23 => 
  act Try.prog (thenU (Instr.storeAt 3 t23 v_v)) (fun _ w_3 => 
  callS Try.prog 36 #[v_c, t17] (fun _ w_4 => 
  pur Try.prog (Instr.fieldAt 62 t10 0) fun t27 => 
  rd Try.prog (Instr.loadAt 9 t27) (fun t28 => 
  pur Try.prog (Instr.fieldAt 62 t10 1) fun t29 => 
  rd Try.prog (Instr.loadAt 3 t29) (fun t30 => 
  Q (.tuple #[t28, t30, (.bool false), (.bool true)]) (World.drew w_4)) (World.drew w_4)) (World.drew w_4)) w_3) w_2)
  (callS Try.prog 37 #[v_c] (fun t32 w_5 => 
 pur Try.prog (binS .eql 3 false true t32 (.int .i64 0)) fun t33 => 
 condS t33
  (pur Try.prog (Instr.fieldAt 62 t10 0) fun t34 => 
  rd Try.prog (Instr.loadAt 9 t34) (fun t35 => 
  pur Try.prog (Instr.fieldAt 62 t10 1) fun t36 => 
  rd Try.prog (Instr.loadAt 3 t36) (fun t37 => 
  Q (.tuple #[t35, t37, (.bool false), (.bool false)]) (World.drew w_5)) (World.drew w_5)) (World.drew w_5))
  (jn 1 (fun J => 
  pur Try.prog (nilV v_c) fun t39 => 
  pur Try.prog (Instr.fieldAt 64 t39 0) fun t40 => 
  rd Try.prog (Instr.loadAt 59 t40) (fun t41 => 
  rd Try.prog (Builtin.len_ #[59] 3 #[t41]) (fun t42 => 
  pur Try.prog (nilV v_c) fun t44 => 
  pur Try.prog (Instr.fieldAt 64 t44 2) fun t45 => 
  rd Try.prog (Instr.loadAt 3 t45) (fun t46 => 
  pur Try.prog (binS .geq 3 false false t42 t46) fun t47 => 
  condS t47
   (callS Try.prog 38 #[v_c] (fun t49 w_6 => 
   rd Try.prog (binS .eql 60 false true t49 (.pointer none)) (fun t51 => 
   condS t51
    (pur Try.prog (Instr.fieldAt 62 t10 0) fun t52 => 
    rd Try.prog (Instr.loadAt 9 t52) (fun t53 => 
    pur Try.prog (Instr.fieldAt 62 t10 1) fun t54 => 
    rd Try.prog (Instr.loadAt 3 t54) (fun t55 => 
    Q (.tuple #[t53, t55, (.bool false), (.bool false)]) (World.drew w_6)) (World.drew w_6)) (World.drew w_6))
    (callS Try.prog 39 #[t49] (fun _ w_7 => 
   pur Try.prog (nilV v_c) fun t59 => 
   pur Try.prog (Instr.fieldAt 64 t59 0) fun t60 => 
   rd Try.prog (Instr.loadAt 59 t60) (fun t61 => 
   pur Try.prog (nilV t49) fun t63 => 
   pur Try.prog (Instr.fieldAt 62 t63 0) fun t64 => 
   rd Try.prog (Instr.loadAt 9 t64) (fun t65 => 
   act Try.prog (Builtin.delete_ #[59, 9] 0 #[t61, t65]) (fun _ w_8 => 
   ∃ S : World → Prop, S (World.drew w_8) ∧ 
   pur Try.prog (nilV t49) fun t67 => 
   pur Try.prog (Instr.fieldAt 62 t67 0) fun t68 => 
   hld Try.prog S (Instr.loadAt 9 t68) fun t69 => 
   pur Try.prog (nilV t49) fun t71 => 
   pur Try.prog (Instr.fieldAt 62 t71 1) fun t72 => 
   hld Try.prog S (Instr.loadAt 3 t72) fun t73 => 
   pur Try.prog (Instr.fieldAt 62 t10 0) fun t74 => 
   act Try.prog (thenU (Instr.storeAt 9 t74 t69)) (fun _ w_9 => S w_9 ∧ 
   pur Try.prog (Instr.fieldAt 62 t10 1) fun t75 => 
   act Try.prog (thenU (Instr.storeAt 3 t75 t73)) (fun _ w_10 => S w_10 ∧ 
   J (.bool true) w_10) w_9) (World.drew w_8)) (World.drew w_7)) (World.drew w_7)) (World.drew w_7)) w_6)) w_6) (World.drew w_5))
   (J (.bool false) (World.drew w_5))) (World.drew w_5)) (World.drew w_5)) (World.drew w_5))
 (fun v_out w_11 => ∀ _j : Fr, 
  pur Try.prog (Instr.build 62 #[(0, v_k), (1, v_v)]) fun t78 => 
  act Try.prog (Instr.box 62 t78) (fun t79 w_12 => 
  pur Try.prog (nilV v_c) fun t81 => 
  pur Try.prog (Instr.fieldAt 64 t81 0) fun t82 => 
  rd Try.prog (Instr.loadAt 59 t82) (fun t83 => 
  act Try.prog (thenU (Instr.mapUpdate 59 t83 v_k t79)) (fun _ w_13 => 
  callS Try.prog 40 #[v_c, t79] (fun _ w_14 => 
  pur Try.prog (Instr.fieldAt 62 t10 0) fun t89 => 
  rd Try.prog (Instr.loadAt 9 t89) (fun t90 => 
  pur Try.prog (Instr.fieldAt 62 t10 1) fun t91 => 
  rd Try.prog (Instr.loadAt 3 t91) (fun t92 => 
  Q (.tuple #[t90, t92, v_out, (.bool true)]) (World.drew w_14)) (World.drew w_14)) (World.drew w_14)) w_13) w_12) w_12) w_11))) w_2)) w_2) w_1) w
theorem eq13 (v_c v_k v_v : Value) (Q : Value → World → Prop) (w : World) : semF Try.prog 13 [v_c, v_k, v_v] Q w = S13 v_c v_k v_v Q w := by kernel_rfl
theorem ref13 {v_c v_k v_v : Value} {Q : Value → World → Prop} {w : World} (h : S13 v_c v_k v_v Q w) : callS Try.prog 13 #[v_c, v_k, v_v] Q w :=
  callS_of mix (fun a w => Try.call13 a w) (by kernel_rfl) (by rw [eq13]; exact h)
-- (*commons/lru.Cache[string, int]).Pin
def S14 (v_c v_k : Value) (Q : Value → World → Prop) (w : World) : Prop :=
 callS Try.prog 35 #[v_c, v_k] (fun t8 w_1 => 
 rd Try.prog (binS .eql 60 false true t8 (.pointer none)) (fun t10 => 
 condS t10
  (Q (.bool false) w_1)
  (pur Try.prog (nilV t8) fun t12 => 
 pur Try.prog (Instr.fieldAt 62 t12 2) fun t13 => 
 rd Try.prog (Instr.loadAt 3 t13) (fun t14 => 
 pur Try.prog (binS .add 3 false true t14 (.int .i64 1)) fun t15 => 
 pur Try.prog (nilV t8) fun t16 => 
 pur Try.prog (Instr.fieldAt 62 t16 2) fun t17 => 
 act Try.prog (thenU (Instr.storeAt 3 t17 t15)) (fun _ w_2 => 
 Q (.bool true) w_2) w_1) w_1)) w_1) w
theorem eq14 (v_c v_k : Value) (Q : Value → World → Prop) (w : World) : semF Try.prog 14 [v_c, v_k] Q w = S14 v_c v_k Q w := by kernel_rfl
theorem ref14 {v_c v_k : Value} {Q : Value → World → Prop} {w : World} (h : S14 v_c v_k Q w) : callS Try.prog 14 #[v_c, v_k] Q w :=
  callS_of mix (fun a w => Try.call14 a w) (by kernel_rfl) (by rw [eq14]; exact h)
-- (*commons/lru.Cache[string, int]).Peek
def S15 (v_c v_k : Value) (Q : Value → World → Prop) (w : World) : Prop :=
 callS Try.prog 35 #[v_c, v_k] (fun t10 w_1 => 
 rd Try.prog (binS .eql 60 false true t10 (.pointer none)) (fun t12 => 
 condS t12
  (Q (.tuple #[(.int .i64 0), (.bool false)]) w_1)
  (pur Try.prog (nilV t10) fun t15 => 
 pur Try.prog (Instr.fieldAt 62 t15 1) fun t16 => 
 rd Try.prog (Instr.loadAt 3 t16) (fun t17 => 
 Q (.tuple #[t17, (.bool true)]) w_1) w_1)) w_1) w
theorem eq15 (v_c v_k : Value) (Q : Value → World → Prop) (w : World) : semF Try.prog 15 [v_c, v_k] Q w = S15 v_c v_k Q w := by kernel_rfl
theorem ref15 {v_c v_k : Value} {Q : Value → World → Prop} {w : World} (h : S15 v_c v_k Q w) : callS Try.prog 15 #[v_c, v_k] Q w :=
  callS_of mix (fun a w => Try.call15 a w) (by kernel_rfl) (by rw [eq15]; exact h)
-- (*commons/lru.Cache[string, int]).Len
def S16 (v_c : Value) (Q : Value → World → Prop) (w : World) : Prop :=
 rd Try.prog (binS .eql 33 false true v_c (.pointer none)) (fun t4 => 
 condS t4
  (Q (.int .i64 0) w)
  (pur Try.prog (nilV v_c) fun t6 => 
 pur Try.prog (Instr.fieldAt 64 t6 0) fun t7 => 
 rd Try.prog (Instr.loadAt 59 t7) (fun t8 => 
 rd Try.prog (Builtin.len_ #[59] 3 #[t8]) (fun t9 => 
 Q t9 w) w) w)) w
theorem eq16 (v_c : Value) (Q : Value → World → Prop) (w : World) : semF Try.prog 16 [v_c] Q w = S16 v_c Q w := by kernel_rfl
theorem ref16 {v_c : Value} {Q : Value → World → Prop} {w : World} (h : S16 v_c Q w) : callS Try.prog 16 #[v_c] Q w :=
  callS_of mix (fun a w => Try.call16 a w) (by kernel_rfl) (by rw [eq16]; exact h)
-- commons/lru.New[int,int]
def S17 (v_room : Value) (Q : Value → World → Prop) (w : World) : Prop :=
 act Try.prog (Instr.makeMap 68 none) (fun t4 w_1 => 
 pur Try.prog (Builtin.max_ #[3, 3] 3 #[v_room, (.int .i64 0)]) fun t6 => 
 pur Try.prog (Builtin.min_ #[3, 3] 3 #[t6, (.int .i64 100000)]) fun t7 => 
 pur Try.prog (Instr.build 73 #[(0, t4), (2, t7)]) fun t8 => 
 act Try.prog (Instr.box 73 t8) (fun t9 w_2 => 
 pur Try.prog (nilV t9) fun t13 => 
 pur Try.prog (Instr.fieldAt 73 t13 1) fun t14 => 
 pur Try.prog (nilV t9) fun t16 => 
 pur Try.prog (Instr.fieldAt 73 t16 1) fun t17 => 
 pur Try.prog (nilV t9) fun t18 => 
 pur Try.prog (Instr.fieldAt 73 t18 1) fun t19 => 
 pur Try.prog (Instr.fieldAt 71 t19 3) fun t20 => 
 act Try.prog (thenU (Instr.storeAt 69 t20 t14)) (fun _ w_3 => 
 pur Try.prog (nilV t9) fun t21 => 
 pur Try.prog (Instr.fieldAt 73 t21 1) fun t22 => 
 pur Try.prog (Instr.fieldAt 71 t22 4) fun t23 => 
 act Try.prog (thenU (Instr.storeAt 69 t23 t17)) (fun _ w_4 => 
 Q t9 w_4) w_3) (World.drew w_2)) w_1) w
theorem eq17 (v_room : Value) (Q : Value → World → Prop) (w : World) : semF Try.prog 17 [v_room] Q w = S17 v_room Q w := by kernel_rfl
theorem ref17 {v_room : Value} {Q : Value → World → Prop} {w : World} (h : S17 v_room Q w) : callS Try.prog 17 #[v_room] Q w :=
  callS_of mix (fun a w => Try.call17 a w) (by kernel_rfl) (by rw [eq17]; exact h)
-- (*commons/lru.Cache[int, int]).Put
def S18 (v_c v_k v_v : Value) (Q : Value → World → Prop) (w : World) : Prop :=
 act Try.prog (Instr.alloc 71 true (.tuple #[])) (fun t10 w_1 => 
 callS Try.prog 41 #[v_c, v_k] (fun t17 w_2 => 
 rd Try.prog (binS .neq 69 false true t17 (.pointer none)) (fun t19 => 
 condS t19
  (pur Try.prog (nilV t17) fun t22 => 
  pur Try.prog (Instr.fieldAt 71 t22 1) fun t23 => 
  act Try.prog (thenU (Instr.storeAt 3 t23 v_v)) (fun _ w_3 => 
  callS Try.prog 42 #[v_c, t17] (fun _ w_4 => 
  pur Try.prog (Instr.fieldAt 71 t10 0) fun t27 => 
  rd Try.prog (Instr.loadAt 3 t27) (fun t28 => 
  pur Try.prog (Instr.fieldAt 71 t10 1) fun t29 => 
  rd Try.prog (Instr.loadAt 3 t29) (fun t30 => 
  Q (.tuple #[t28, t30, (.bool false), (.bool true)]) (World.drew w_4)) (World.drew w_4)) (World.drew w_4)) w_3) w_2)
  (callS Try.prog 26 #[v_c] (fun t32 w_5 => 
 pur Try.prog (binS .eql 3 false true t32 (.int .i64 0)) fun t33 => 
 condS t33
  (pur Try.prog (Instr.fieldAt 71 t10 0) fun t34 => 
  rd Try.prog (Instr.loadAt 3 t34) (fun t35 => 
  pur Try.prog (Instr.fieldAt 71 t10 1) fun t36 => 
  rd Try.prog (Instr.loadAt 3 t36) (fun t37 => 
  Q (.tuple #[t35, t37, (.bool false), (.bool false)]) (World.drew w_5)) (World.drew w_5)) (World.drew w_5))
  (jn 1 (fun J => 
  pur Try.prog (nilV v_c) fun t39 => 
  pur Try.prog (Instr.fieldAt 73 t39 0) fun t40 => 
  rd Try.prog (Instr.loadAt 68 t40) (fun t41 => 
  rd Try.prog (Builtin.len_ #[68] 3 #[t41]) (fun t42 => 
  pur Try.prog (nilV v_c) fun t44 => 
  pur Try.prog (Instr.fieldAt 73 t44 2) fun t45 => 
  rd Try.prog (Instr.loadAt 3 t45) (fun t46 => 
  pur Try.prog (binS .geq 3 false false t42 t46) fun t47 => 
  condS t47
   (callS Try.prog 43 #[v_c] (fun t49 w_6 => 
   rd Try.prog (binS .eql 69 false true t49 (.pointer none)) (fun t51 => 
   condS t51
    (pur Try.prog (Instr.fieldAt 71 t10 0) fun t52 => 
    rd Try.prog (Instr.loadAt 3 t52) (fun t53 => 
    pur Try.prog (Instr.fieldAt 71 t10 1) fun t54 => 
    rd Try.prog (Instr.loadAt 3 t54) (fun t55 => 
    Q (.tuple #[t53, t55, (.bool false), (.bool false)]) (World.drew w_6)) (World.drew w_6)) (World.drew w_6))
    (callS Try.prog 44 #[t49] (fun _ w_7 => 
   pur Try.prog (nilV v_c) fun t59 => 
   pur Try.prog (Instr.fieldAt 73 t59 0) fun t60 => 
   rd Try.prog (Instr.loadAt 68 t60) (fun t61 => 
   pur Try.prog (nilV t49) fun t63 => 
   pur Try.prog (Instr.fieldAt 71 t63 0) fun t64 => 
   rd Try.prog (Instr.loadAt 3 t64) (fun t65 => 
   act Try.prog (Builtin.delete_ #[68, 3] 0 #[t61, t65]) (fun _ w_8 => 
   ∃ S : World → Prop, S (World.drew w_8) ∧ 
   pur Try.prog (nilV t49) fun t67 => 
   pur Try.prog (Instr.fieldAt 71 t67 0) fun t68 => 
   hld Try.prog S (Instr.loadAt 3 t68) fun t69 => 
   pur Try.prog (nilV t49) fun t71 => 
   pur Try.prog (Instr.fieldAt 71 t71 1) fun t72 => 
   hld Try.prog S (Instr.loadAt 3 t72) fun t73 => 
   pur Try.prog (Instr.fieldAt 71 t10 0) fun t74 => 
   act Try.prog (thenU (Instr.storeAt 3 t74 t69)) (fun _ w_9 => S w_9 ∧ 
   pur Try.prog (Instr.fieldAt 71 t10 1) fun t75 => 
   act Try.prog (thenU (Instr.storeAt 3 t75 t73)) (fun _ w_10 => S w_10 ∧ 
   J (.bool true) w_10) w_9) (World.drew w_8)) (World.drew w_7)) (World.drew w_7)) (World.drew w_7)) w_6)) w_6) (World.drew w_5))
   (J (.bool false) (World.drew w_5))) (World.drew w_5)) (World.drew w_5)) (World.drew w_5))
 (fun v_out w_11 => ∀ _j : Fr, 
  pur Try.prog (Instr.build 71 #[(0, v_k), (1, v_v)]) fun t78 => 
  act Try.prog (Instr.box 71 t78) (fun t79 w_12 => 
  pur Try.prog (nilV v_c) fun t81 => 
  pur Try.prog (Instr.fieldAt 73 t81 0) fun t82 => 
  rd Try.prog (Instr.loadAt 68 t82) (fun t83 => 
  act Try.prog (thenU (Instr.mapUpdate 68 t83 v_k t79)) (fun _ w_13 => 
  callS Try.prog 45 #[v_c, t79] (fun _ w_14 => 
  pur Try.prog (Instr.fieldAt 71 t10 0) fun t89 => 
  rd Try.prog (Instr.loadAt 3 t89) (fun t90 => 
  pur Try.prog (Instr.fieldAt 71 t10 1) fun t91 => 
  rd Try.prog (Instr.loadAt 3 t91) (fun t92 => 
  Q (.tuple #[t90, t92, v_out, (.bool true)]) (World.drew w_14)) (World.drew w_14)) (World.drew w_14)) w_13) w_12) w_12) w_11))) w_2)) w_2) w_1) w
theorem eq18 (v_c v_k v_v : Value) (Q : Value → World → Prop) (w : World) : semF Try.prog 18 [v_c, v_k, v_v] Q w = S18 v_c v_k v_v Q w := by kernel_rfl
theorem ref18 {v_c v_k v_v : Value} {Q : Value → World → Prop} {w : World} (h : S18 v_c v_k v_v Q w) : callS Try.prog 18 #[v_c, v_k, v_v] Q w :=
  callS_of mix (fun a w => Try.call18 a w) (by kernel_rfl) (by rw [eq18]; exact h)
-- (*commons/lru.Cache[int, int]).Pin
def S19 (v_c v_k : Value) (Q : Value → World → Prop) (w : World) : Prop :=
 callS Try.prog 41 #[v_c, v_k] (fun t8 w_1 => 
 rd Try.prog (binS .eql 69 false true t8 (.pointer none)) (fun t10 => 
 condS t10
  (Q (.bool false) w_1)
  (pur Try.prog (nilV t8) fun t12 => 
 pur Try.prog (Instr.fieldAt 71 t12 2) fun t13 => 
 rd Try.prog (Instr.loadAt 3 t13) (fun t14 => 
 pur Try.prog (binS .add 3 false true t14 (.int .i64 1)) fun t15 => 
 pur Try.prog (nilV t8) fun t16 => 
 pur Try.prog (Instr.fieldAt 71 t16 2) fun t17 => 
 act Try.prog (thenU (Instr.storeAt 3 t17 t15)) (fun _ w_2 => 
 Q (.bool true) w_2) w_1) w_1)) w_1) w
theorem eq19 (v_c v_k : Value) (Q : Value → World → Prop) (w : World) : semF Try.prog 19 [v_c, v_k] Q w = S19 v_c v_k Q w := by kernel_rfl
theorem ref19 {v_c v_k : Value} {Q : Value → World → Prop} {w : World} (h : S19 v_c v_k Q w) : callS Try.prog 19 #[v_c, v_k] Q w :=
  callS_of mix (fun a w => Try.call19 a w) (by kernel_rfl) (by rw [eq19]; exact h)
-- (*commons/lru.Cache[int, int]).Pinned
def S20 (v_c v_k : Value) (Q : Value → World → Prop) (w : World) : Prop :=
 callS Try.prog 41 #[v_c, v_k] (fun t8 w_1 => 
 rd Try.prog (binS .eql 69 false true t8 (.pointer none)) (fun t10 => 
 condS t10
  (Q (.int .i64 0) w_1)
  (pur Try.prog (nilV t8) fun t12 => 
 pur Try.prog (Instr.fieldAt 71 t12 2) fun t13 => 
 rd Try.prog (Instr.loadAt 3 t13) (fun t14 => 
 Q t14 w_1) w_1)) w_1) w
theorem eq20 (v_c v_k : Value) (Q : Value → World → Prop) (w : World) : semF Try.prog 20 [v_c, v_k] Q w = S20 v_c v_k Q w := by kernel_rfl
theorem ref20 {v_c v_k : Value} {Q : Value → World → Prop} {w : World} (h : S20 v_c v_k Q w) : callS Try.prog 20 #[v_c, v_k] Q w :=
  callS_of mix (fun a w => Try.call20 a w) (by kernel_rfl) (by rw [eq20]; exact h)
-- (*commons/lru.Cache[int, int]).Unpin
def S21 (v_c v_k : Value) (Q : Value → World → Prop) (w : World) : Prop :=
 callS Try.prog 41 #[v_c, v_k] (fun t8 w_1 => 
 rd Try.prog (binS .eql 69 false true t8 (.pointer none)) (fun t10 => 
 gd t10 false (fun k w_2 => k t8 w_2) (fun t12_1 w_3 => 
 gd t10 false (fun k_1 w_4 => pur Try.prog (nilV t12_1) fun t13 => k_1 t13 w_4) (fun t13_1 w_5 => 
 gd t10 false (fun k_2 w_6 => pur Try.prog (Instr.fieldAt 71 t13_1 2) fun t14 => k_2 t14 w_6) (fun t14_1 w_7 => 
 gd t10 false (fun k_3 w_8 => rd Try.prog (Instr.loadAt 3 t14_1) (fun t15 => k_3 t15 w_8) w_8) (fun t15_1 w_9 => 
 gd t10 false (fun k_4 w_10 => pur Try.prog (binS .eql 3 false true t15_1 (.int .i64 0)) fun t16 => k_4 t16 w_10) (fun t16_1 w_11 => 
 pur Try.prog (pickS t10 (.bool true) t16_1) fun t17 => 
 condS t17
  (Q (.bool false) w_11)
  (pur Try.prog (nilV t8) fun t19 => 
 pur Try.prog (Instr.fieldAt 71 t19 2) fun t20 => 
 rd Try.prog (Instr.loadAt 3 t20) (fun t21 => 
 pur Try.prog (binS .sub 3 false true t21 (.int .i64 1)) fun t22 => 
 pur Try.prog (nilV t8) fun t23 => 
 pur Try.prog (Instr.fieldAt 71 t23 2) fun t24 => 
 act Try.prog (thenU (Instr.storeAt 3 t24 t22)) (fun _ w_12 => 
 Q (.bool true) w_12) w_11) w_11)) w_9) w_7) w_5) w_3) w_1) w_1) w
theorem eq21 (v_c v_k : Value) (Q : Value → World → Prop) (w : World) : semF Try.prog 21 [v_c, v_k] Q w = S21 v_c v_k Q w := by kernel_rfl
theorem ref21 {v_c v_k : Value} {Q : Value → World → Prop} {w : World} (h : S21 v_c v_k Q w) : callS Try.prog 21 #[v_c, v_k] Q w :=
  callS_of mix (fun a w => Try.call21 a w) (by kernel_rfl) (by rw [eq21]; exact h)
-- (*commons/lru.Cache[int, int]).Get
def S22 (v_c v_k : Value) (Q : Value → World → Prop) (w : World) : Prop :=
 jn 0 (fun J => 
  callS Try.prog 41 #[v_c, v_k] (fun t9 w_1 => 
  rd Try.prog (binS .neq 69 false true t9 (.pointer none)) (fun t11 => 
  condS t11
   (callS Try.prog 42 #[v_c, t9] (fun _ w_2 => 
   J  w_2) w_1)
   (J  w_1)) w_1) w)
 (fun  w_3 => ∀ _j : Fr, 
  callS Try.prog 23 #[v_c, v_k] (fun t17 w_4 => 
  pur Try.prog (Instr.extract t17 0) fun t18 => 
  pur Try.prog (Instr.extract t17 1) fun t19 => 
  Q (.tuple #[t18, t19]) w_4) w_3)
theorem eq22 (v_c v_k : Value) (Q : Value → World → Prop) (w : World) : semF Try.prog 22 [v_c, v_k] Q w = S22 v_c v_k Q w := by kernel_rfl
theorem ref22 {v_c v_k : Value} {Q : Value → World → Prop} {w : World} (h : S22 v_c v_k Q w) : callS Try.prog 22 #[v_c, v_k] Q w :=
  callS_of mix (fun a w => Try.call22 a w) (by kernel_rfl) (by rw [eq22]; exact h)
-- (*commons/lru.Cache[int, int]).Peek
def S23 (v_c v_k : Value) (Q : Value → World → Prop) (w : World) : Prop :=
 callS Try.prog 41 #[v_c, v_k] (fun t10 w_1 => 
 rd Try.prog (binS .eql 69 false true t10 (.pointer none)) (fun t12 => 
 condS t12
  (Q (.tuple #[(.int .i64 0), (.bool false)]) w_1)
  (pur Try.prog (nilV t10) fun t15 => 
 pur Try.prog (Instr.fieldAt 71 t15 1) fun t16 => 
 rd Try.prog (Instr.loadAt 3 t16) (fun t17 => 
 Q (.tuple #[t17, (.bool true)]) w_1) w_1)) w_1) w
theorem eq23 (v_c v_k : Value) (Q : Value → World → Prop) (w : World) : semF Try.prog 23 [v_c, v_k] Q w = S23 v_c v_k Q w := by kernel_rfl
theorem ref23 {v_c v_k : Value} {Q : Value → World → Prop} {w : World} (h : S23 v_c v_k Q w) : callS Try.prog 23 #[v_c, v_k] Q w :=
  callS_of mix (fun a w => Try.call23 a w) (by kernel_rfl) (by rw [eq23]; exact h)
-- (*commons/lru.Cache[int, int]).Keys
def S24 (v_c : Value) (Q : Value → World → Prop) (w : World) : Prop :=
 callS Try.prog 25 #[v_c] (fun t6 w_1 => 
 pur Try.prog (binS .eql 3 false true t6 (.int .i64 0)) fun t7 => 
 condS t7
  (Q (.slice none 0 0) w_1)
  (pur Try.prog (nilV v_c) fun t9 => 
 pur Try.prog (Instr.fieldAt 73 t9 1) fun t10 => 
 pur Try.prog (Instr.fieldAt 71 t10 4) fun t11 => 
 rd Try.prog (Instr.loadAt 69 t11) (fun t12 => 
 lp 2 (fun J => fun v_out v_x w_2 => ∀ _j : Fr, 
  pur Try.prog (nilV v_c) fun t15 => 
  pur Try.prog (Instr.fieldAt 73 t15 1) fun t16 => 
  rd Try.prog (binS .neq 69 false false v_x t16) (fun t17 => 
  condS t17
   (pur Try.prog (nilV v_x) fun t24 => 
  pur Try.prog (Instr.fieldAt 71 t24 0) fun t25 => 
  rd Try.prog (Instr.loadAt 3 t25) (fun t26 => 
  act Try.prog (Instr.buildSlice 22 1 #[(0, t26)]) (fun t27 w_3 => 
  act Try.prog (Builtin.append_ #[22, 22] 22 #[v_out, t27]) (fun t28 w_4 => 
  pur Try.prog (nilV v_x) fun t19 => 
  pur Try.prog (Instr.fieldAt 71 t19 4) fun t20 => 
  rd Try.prog (Instr.loadAt 69 t20) (fun t21 => 
  J t28 t21 w_4) w_4) w_3) w_2) w_2)
   (Q v_out w_2)) w_2) [(.slice none 0 0), t12] w_1) w_1)) w
theorem eq24 (v_c : Value) (Q : Value → World → Prop) (w : World) : semF Try.prog 24 [v_c] Q w = S24 v_c Q w := by kernel_rfl
theorem ref24 {v_c : Value} {Q : Value → World → Prop} {w : World} (h : S24 v_c Q w) : callS Try.prog 24 #[v_c] Q w :=
  callS_of mix (fun a w => Try.call24 a w) (by kernel_rfl) (by rw [eq24]; exact h)
-- (*commons/lru.Cache[int, int]).Len
def S25 (v_c : Value) (Q : Value → World → Prop) (w : World) : Prop :=
 rd Try.prog (binS .eql 41 false true v_c (.pointer none)) (fun t4 => 
 condS t4
  (Q (.int .i64 0) w)
  (pur Try.prog (nilV v_c) fun t6 => 
 pur Try.prog (Instr.fieldAt 73 t6 0) fun t7 => 
 rd Try.prog (Instr.loadAt 68 t7) (fun t8 => 
 rd Try.prog (Builtin.len_ #[68] 3 #[t8]) (fun t9 => 
 Q t9 w) w) w)) w
theorem eq25 (v_c : Value) (Q : Value → World → Prop) (w : World) : semF Try.prog 25 [v_c] Q w = S25 v_c Q w := by kernel_rfl
theorem ref25 {v_c : Value} {Q : Value → World → Prop} {w : World} (h : S25 v_c Q w) : callS Try.prog 25 #[v_c] Q w :=
  callS_of mix (fun a w => Try.call25 a w) (by kernel_rfl) (by rw [eq25]; exact h)
-- (*commons/lru.Cache[int, int]).Room
def S26 (v_c : Value) (Q : Value → World → Prop) (w : World) : Prop :=
 rd Try.prog (binS .eql 41 false true v_c (.pointer none)) (fun t4 => 
 condS t4
  (Q (.int .i64 0) w)
  (pur Try.prog (nilV v_c) fun t6 => 
 pur Try.prog (Instr.fieldAt 73 t6 2) fun t7 => 
 rd Try.prog (Instr.loadAt 3 t7) (fun t8 => 
 Q t8 w) w)) w
theorem eq26 (v_c : Value) (Q : Value → World → Prop) (w : World) : semF Try.prog 26 [v_c] Q w = S26 v_c Q w := by kernel_rfl
theorem ref26 {v_c : Value} {Q : Value → World → Prop} {w : World} (h : S26 v_c Q w) : callS Try.prog 26 #[v_c] Q w :=
  callS_of mix (fun a w => Try.call26 a w) (by kernel_rfl) (by rw [eq26]; exact h)
-- (*commons/lru.Cache[int, int]).Delete
def S27 (v_c v_k : Value) (Q : Value → World → Prop) (w : World) : Prop :=
 callS Try.prog 41 #[v_c, v_k] (fun t8 w_1 => 
 rd Try.prog (binS .eql 69 false true t8 (.pointer none)) (fun t10 => 
 condS t10
  (Q (.bool false) w_1)
  (callS Try.prog 44 #[t8] (fun _ w_2 => 
 pur Try.prog (nilV v_c) fun t14 => 
 pur Try.prog (Instr.fieldAt 73 t14 0) fun t15 => 
 rd Try.prog (Instr.loadAt 68 t15) (fun t16 => 
 act Try.prog (Builtin.delete_ #[68, 3] 0 #[t16, v_k]) (fun _ w_3 => 
 Q (.bool true) w_3) w_2) w_2) w_1)) w_1) w
theorem eq27 (v_c v_k : Value) (Q : Value → World → Prop) (w : World) : semF Try.prog 27 [v_c, v_k] Q w = S27 v_c v_k Q w := by kernel_rfl
theorem ref27 {v_c v_k : Value} {Q : Value → World → Prop} {w : World} (h : S27 v_c v_k Q w) : callS Try.prog 27 #[v_c, v_k] Q w :=
  callS_of mix (fun a w => Try.call27 a w) (by kernel_rfl) (by rw [eq27]; exact h)
-- (*commons/lru.Cache[int, string]).find
def S28 (v_c v_k : Value) (Q : Value → World → Prop) (w : World) : Prop :=
 rd Try.prog (binS .eql 24 false true v_c (.pointer none)) (fun t6 => 
 condS t6
  (Q (.pointer none) w)
  (pur Try.prog (nilV v_c) fun t8 => 
 pur Try.prog (Instr.fieldAt 55 t8 0) fun t9 => 
 rd Try.prog (Instr.loadAt 50 t9) (fun t10 => 
 rd Try.prog (Instr.lookup 50 t10 v_k false) (fun t12 => 
 Q t12 w) w) w)) w
theorem eq28 (v_c v_k : Value) (Q : Value → World → Prop) (w : World) : semF Try.prog 28 [v_c, v_k] Q w = S28 v_c v_k Q w := by kernel_rfl
theorem ref28 {v_c v_k : Value} {Q : Value → World → Prop} {w : World} (h : S28 v_c v_k Q w) : callS Try.prog 28 #[v_c, v_k] Q w :=
  callS_of mix (fun a w => Try.call28 a w) (by kernel_rfl) (by rw [eq28]; exact h)
-- (*commons/lru.Cache[int, string]).use
def S29 (v_c v_x : Value) (Q : Value → World → Prop) (w : World) : Prop :=
 callS Try.prog 32 #[v_x] (fun _ w_1 => 
 callS Try.prog 33 #[v_c, v_x] (fun _ w_2 => 
 Q (.tuple #[]) w_2) w_1) w
theorem eq29 (v_c v_x : Value) (Q : Value → World → Prop) (w : World) : semF Try.prog 29 [v_c, v_x] Q w = S29 v_c v_x Q w := by kernel_rfl
theorem ref29 {v_c v_x : Value} {Q : Value → World → Prop} {w : World} (h : S29 v_c v_x Q w) : callS Try.prog 29 #[v_c, v_x] Q w :=
  callS_of mix (fun a w => Try.call29 a w) (by kernel_rfl) (by rw [eq29]; exact h)
-- (*commons/lru.Cache[int, string]).Room
def S30 (v_c : Value) (Q : Value → World → Prop) (w : World) : Prop :=
 rd Try.prog (binS .eql 24 false true v_c (.pointer none)) (fun t4 => 
 condS t4
  (Q (.int .i64 0) w)
  (pur Try.prog (nilV v_c) fun t6 => 
 pur Try.prog (Instr.fieldAt 55 t6 2) fun t7 => 
 rd Try.prog (Instr.loadAt 3 t7) (fun t8 => 
 Q t8 w) w)) w
theorem eq30 (v_c : Value) (Q : Value → World → Prop) (w : World) : semF Try.prog 30 [v_c] Q w = S30 v_c Q w := by kernel_rfl
theorem ref30 {v_c : Value} {Q : Value → World → Prop} {w : World} (h : S30 v_c Q w) : callS Try.prog 30 #[v_c] Q w :=
  callS_of mix (fun a w => Try.call30 a w) (by kernel_rfl) (by rw [eq30]; exact h)
-- (*commons/lru.Cache[int, string]).idle
def S31 (v_c : Value) (Q : Value → World → Prop) (w : World) : Prop :=
 pur Try.prog (nilV v_c) fun t5 => 
 pur Try.prog (Instr.fieldAt 55 t5 1) fun t6 => 
 pur Try.prog (Instr.fieldAt 53 t6 3) fun t7 => 
 rd Try.prog (Instr.loadAt 51 t7) (fun t8 => 
 lp 1 (fun J => fun v_x w_1 => ∀ _j : Fr, 
  pur Try.prog (nilV v_c) fun t11 => 
  pur Try.prog (Instr.fieldAt 55 t11 1) fun t12 => 
  rd Try.prog (binS .neq 51 false false v_x t12) (fun t13 => 
  condS t13
   (pur Try.prog (nilV v_x) fun t19 => 
  pur Try.prog (Instr.fieldAt 53 t19 2) fun t20 => 
  rd Try.prog (Instr.loadAt 3 t20) (fun t21 => 
  pur Try.prog (binS .eql 3 false true t21 (.int .i64 0)) fun t22 => 
  condS t22
   (Q v_x w_1)
   (pur Try.prog (nilV v_x) fun t15 => 
  pur Try.prog (Instr.fieldAt 53 t15 3) fun t16 => 
  rd Try.prog (Instr.loadAt 51 t16) (fun t17 => 
  J t17 w_1) w_1)) w_1)
   (Q (.pointer none) w_1)) w_1) [t8] w) w
theorem eq31 (v_c : Value) (Q : Value → World → Prop) (w : World) : semF Try.prog 31 [v_c] Q w = S31 v_c Q w := by kernel_rfl
theorem ref31 {v_c : Value} {Q : Value → World → Prop} {w : World} (h : S31 v_c Q w) : callS Try.prog 31 #[v_c] Q w :=
  callS_of mix (fun a w => Try.call31 a w) (by kernel_rfl) (by rw [eq31]; exact h)
-- (*commons/lru.node[int, string]).off
def S32 (v_x : Value) (Q : Value → World → Prop) (w : World) : Prop :=
 pur Try.prog (nilV v_x) fun t3 => 
 pur Try.prog (Instr.fieldAt 53 t3 3) fun t4 => 
 rd Try.prog (Instr.loadAt 51 t4) (fun t5 => 
 pur Try.prog (nilV v_x) fun t7 => 
 pur Try.prog (Instr.fieldAt 53 t7 4) fun t8 => 
 rd Try.prog (Instr.loadAt 51 t8) (fun t9 => 
 pur Try.prog (nilV v_x) fun t11 => 
 pur Try.prog (Instr.fieldAt 53 t11 4) fun t12 => 
 rd Try.prog (Instr.loadAt 51 t12) (fun t13 => 
 pur Try.prog (nilV v_x) fun t15 => 
 pur Try.prog (Instr.fieldAt 53 t15 3) fun t16 => 
 rd Try.prog (Instr.loadAt 51 t16) (fun t17 => 
 pur Try.prog (nilV t5) fun t18 => 
 pur Try.prog (Instr.fieldAt 53 t18 4) fun t19 => 
 act Try.prog (thenU (Instr.storeAt 51 t19 t13)) (fun _ w_1 => 
 pur Try.prog (nilV t9) fun t20 => 
 pur Try.prog (Instr.fieldAt 53 t20 3) fun t21 => 
 act Try.prog (thenU (Instr.storeAt 51 t21 t17)) (fun _ w_2 => 
 Q (.tuple #[]) w_2) w_1) (World.drew w)) (World.drew w)) (World.drew w)) (World.drew w)) (World.drew w)
theorem eq32 (v_x : Value) (Q : Value → World → Prop) (w : World) : semF Try.prog 32 [v_x] Q w = S32 v_x Q w := by kernel_rfl
theorem ref32 {v_x : Value} {Q : Value → World → Prop} {w : World} (h : S32 v_x Q w) : callS Try.prog 32 #[v_x] Q w :=
  callS_of mix (fun a w => Try.call32 a w) (by kernel_rfl) (by rw [eq32]; exact h)
-- (*commons/lru.Cache[int, string]).first
def S33 (v_c v_x : Value) (Q : Value → World → Prop) (w : World) : Prop :=
 pur Try.prog (nilV v_c) fun t7 => 
 pur Try.prog (Instr.fieldAt 55 t7 1) fun t8 => 
 pur Try.prog (nilV v_c) fun t10 => 
 pur Try.prog (Instr.fieldAt 55 t10 1) fun t11 => 
 pur Try.prog (Instr.fieldAt 53 t11 4) fun t12 => 
 rd Try.prog (Instr.loadAt 51 t12) (fun t13 => 
 pur Try.prog (nilV v_x) fun t14 => 
 pur Try.prog (Instr.fieldAt 53 t14 3) fun t15 => 
 act Try.prog (thenU (Instr.storeAt 51 t15 t8)) (fun _ w_1 => 
 pur Try.prog (nilV v_x) fun t16 => 
 pur Try.prog (Instr.fieldAt 53 t16 4) fun t17 => 
 act Try.prog (thenU (Instr.storeAt 51 t17 t13)) (fun _ w_2 => 
 pur Try.prog (nilV v_x) fun t19 => 
 pur Try.prog (Instr.fieldAt 53 t19 3) fun t20 => 
 rd Try.prog (Instr.loadAt 51 t20) (fun t21 => 
 pur Try.prog (nilV v_x) fun t23 => 
 pur Try.prog (Instr.fieldAt 53 t23 4) fun t24 => 
 rd Try.prog (Instr.loadAt 51 t24) (fun t25 => 
 pur Try.prog (nilV t21) fun t28 => 
 pur Try.prog (Instr.fieldAt 53 t28 4) fun t29 => 
 act Try.prog (thenU (Instr.storeAt 51 t29 v_x)) (fun _ w_3 => 
 pur Try.prog (nilV t25) fun t30 => 
 pur Try.prog (Instr.fieldAt 53 t30 3) fun t31 => 
 act Try.prog (thenU (Instr.storeAt 51 t31 v_x)) (fun _ w_4 => 
 Q (.tuple #[]) w_4) w_3) (World.drew w_2)) (World.drew w_2)) (World.drew w_2)) w_1) (World.drew w)) (World.drew w)
theorem eq33 (v_c v_x : Value) (Q : Value → World → Prop) (w : World) : semF Try.prog 33 [v_c, v_x] Q w = S33 v_c v_x Q w := by kernel_rfl
theorem ref33 {v_c v_x : Value} {Q : Value → World → Prop} {w : World} (h : S33 v_c v_x Q w) : callS Try.prog 33 #[v_c, v_x] Q w :=
  callS_of mix (fun a w => Try.call33 a w) (by kernel_rfl) (by rw [eq33]; exact h)
-- (*commons/lru.Cache[int, string]).Peek
def S34 (v_c v_k : Value) (Q : Value → World → Prop) (w : World) : Prop :=
 callS Try.prog 28 #[v_c, v_k] (fun t10 w_1 => 
 rd Try.prog (binS .eql 51 false true t10 (.pointer none)) (fun t12 => 
 condS t12
  (Q (.tuple #[(.string ⟨#[]⟩), (.bool false)]) w_1)
  (pur Try.prog (nilV t10) fun t15 => 
 pur Try.prog (Instr.fieldAt 53 t15 1) fun t16 => 
 rd Try.prog (Instr.loadAt 9 t16) (fun t17 => 
 Q (.tuple #[t17, (.bool true)]) w_1) w_1)) w_1) w
theorem eq34 (v_c v_k : Value) (Q : Value → World → Prop) (w : World) : semF Try.prog 34 [v_c, v_k] Q w = S34 v_c v_k Q w := by kernel_rfl
theorem ref34 {v_c v_k : Value} {Q : Value → World → Prop} {w : World} (h : S34 v_c v_k Q w) : callS Try.prog 34 #[v_c, v_k] Q w :=
  callS_of mix (fun a w => Try.call34 a w) (by kernel_rfl) (by rw [eq34]; exact h)
-- (*commons/lru.Cache[string, int]).find
def S35 (v_c v_k : Value) (Q : Value → World → Prop) (w : World) : Prop :=
 rd Try.prog (binS .eql 33 false true v_c (.pointer none)) (fun t6 => 
 condS t6
  (Q (.pointer none) w)
  (pur Try.prog (nilV v_c) fun t8 => 
 pur Try.prog (Instr.fieldAt 64 t8 0) fun t9 => 
 rd Try.prog (Instr.loadAt 59 t9) (fun t10 => 
 rd Try.prog (Instr.lookup 59 t10 v_k false) (fun t12 => 
 Q t12 w) w) w)) w
theorem eq35 (v_c v_k : Value) (Q : Value → World → Prop) (w : World) : semF Try.prog 35 [v_c, v_k] Q w = S35 v_c v_k Q w := by kernel_rfl
theorem ref35 {v_c v_k : Value} {Q : Value → World → Prop} {w : World} (h : S35 v_c v_k Q w) : callS Try.prog 35 #[v_c, v_k] Q w :=
  callS_of mix (fun a w => Try.call35 a w) (by kernel_rfl) (by rw [eq35]; exact h)
-- (*commons/lru.Cache[string, int]).use
def S36 (v_c v_x : Value) (Q : Value → World → Prop) (w : World) : Prop :=
 callS Try.prog 39 #[v_x] (fun _ w_1 => 
 callS Try.prog 40 #[v_c, v_x] (fun _ w_2 => 
 Q (.tuple #[]) w_2) w_1) w
theorem eq36 (v_c v_x : Value) (Q : Value → World → Prop) (w : World) : semF Try.prog 36 [v_c, v_x] Q w = S36 v_c v_x Q w := by kernel_rfl
theorem ref36 {v_c v_x : Value} {Q : Value → World → Prop} {w : World} (h : S36 v_c v_x Q w) : callS Try.prog 36 #[v_c, v_x] Q w :=
  callS_of mix (fun a w => Try.call36 a w) (by kernel_rfl) (by rw [eq36]; exact h)
-- (*commons/lru.Cache[string, int]).Room
def S37 (v_c : Value) (Q : Value → World → Prop) (w : World) : Prop :=
 rd Try.prog (binS .eql 33 false true v_c (.pointer none)) (fun t4 => 
 condS t4
  (Q (.int .i64 0) w)
  (pur Try.prog (nilV v_c) fun t6 => 
 pur Try.prog (Instr.fieldAt 64 t6 2) fun t7 => 
 rd Try.prog (Instr.loadAt 3 t7) (fun t8 => 
 Q t8 w) w)) w
theorem eq37 (v_c : Value) (Q : Value → World → Prop) (w : World) : semF Try.prog 37 [v_c] Q w = S37 v_c Q w := by kernel_rfl
theorem ref37 {v_c : Value} {Q : Value → World → Prop} {w : World} (h : S37 v_c Q w) : callS Try.prog 37 #[v_c] Q w :=
  callS_of mix (fun a w => Try.call37 a w) (by kernel_rfl) (by rw [eq37]; exact h)
-- (*commons/lru.Cache[string, int]).idle
def S38 (v_c : Value) (Q : Value → World → Prop) (w : World) : Prop :=
 pur Try.prog (nilV v_c) fun t5 => 
 pur Try.prog (Instr.fieldAt 64 t5 1) fun t6 => 
 pur Try.prog (Instr.fieldAt 62 t6 3) fun t7 => 
 rd Try.prog (Instr.loadAt 60 t7) (fun t8 => 
 lp 1 (fun J => fun v_x w_1 => ∀ _j : Fr, 
  pur Try.prog (nilV v_c) fun t11 => 
  pur Try.prog (Instr.fieldAt 64 t11 1) fun t12 => 
  rd Try.prog (binS .neq 60 false false v_x t12) (fun t13 => 
  condS t13
   (pur Try.prog (nilV v_x) fun t19 => 
  pur Try.prog (Instr.fieldAt 62 t19 2) fun t20 => 
  rd Try.prog (Instr.loadAt 3 t20) (fun t21 => 
  pur Try.prog (binS .eql 3 false true t21 (.int .i64 0)) fun t22 => 
  condS t22
   (Q v_x w_1)
   (pur Try.prog (nilV v_x) fun t15 => 
  pur Try.prog (Instr.fieldAt 62 t15 3) fun t16 => 
  rd Try.prog (Instr.loadAt 60 t16) (fun t17 => 
  J t17 w_1) w_1)) w_1)
   (Q (.pointer none) w_1)) w_1) [t8] w) w
theorem eq38 (v_c : Value) (Q : Value → World → Prop) (w : World) : semF Try.prog 38 [v_c] Q w = S38 v_c Q w := by kernel_rfl
theorem ref38 {v_c : Value} {Q : Value → World → Prop} {w : World} (h : S38 v_c Q w) : callS Try.prog 38 #[v_c] Q w :=
  callS_of mix (fun a w => Try.call38 a w) (by kernel_rfl) (by rw [eq38]; exact h)
-- (*commons/lru.node[string, int]).off
def S39 (v_x : Value) (Q : Value → World → Prop) (w : World) : Prop :=
 pur Try.prog (nilV v_x) fun t3 => 
 pur Try.prog (Instr.fieldAt 62 t3 3) fun t4 => 
 rd Try.prog (Instr.loadAt 60 t4) (fun t5 => 
 pur Try.prog (nilV v_x) fun t7 => 
 pur Try.prog (Instr.fieldAt 62 t7 4) fun t8 => 
 rd Try.prog (Instr.loadAt 60 t8) (fun t9 => 
 pur Try.prog (nilV v_x) fun t11 => 
 pur Try.prog (Instr.fieldAt 62 t11 4) fun t12 => 
 rd Try.prog (Instr.loadAt 60 t12) (fun t13 => 
 pur Try.prog (nilV v_x) fun t15 => 
 pur Try.prog (Instr.fieldAt 62 t15 3) fun t16 => 
 rd Try.prog (Instr.loadAt 60 t16) (fun t17 => 
 pur Try.prog (nilV t5) fun t18 => 
 pur Try.prog (Instr.fieldAt 62 t18 4) fun t19 => 
 act Try.prog (thenU (Instr.storeAt 60 t19 t13)) (fun _ w_1 => 
 pur Try.prog (nilV t9) fun t20 => 
 pur Try.prog (Instr.fieldAt 62 t20 3) fun t21 => 
 act Try.prog (thenU (Instr.storeAt 60 t21 t17)) (fun _ w_2 => 
 Q (.tuple #[]) w_2) w_1) (World.drew w)) (World.drew w)) (World.drew w)) (World.drew w)) (World.drew w)
theorem eq39 (v_x : Value) (Q : Value → World → Prop) (w : World) : semF Try.prog 39 [v_x] Q w = S39 v_x Q w := by kernel_rfl
theorem ref39 {v_x : Value} {Q : Value → World → Prop} {w : World} (h : S39 v_x Q w) : callS Try.prog 39 #[v_x] Q w :=
  callS_of mix (fun a w => Try.call39 a w) (by kernel_rfl) (by rw [eq39]; exact h)
-- (*commons/lru.Cache[string, int]).first
def S40 (v_c v_x : Value) (Q : Value → World → Prop) (w : World) : Prop :=
 pur Try.prog (nilV v_c) fun t7 => 
 pur Try.prog (Instr.fieldAt 64 t7 1) fun t8 => 
 pur Try.prog (nilV v_c) fun t10 => 
 pur Try.prog (Instr.fieldAt 64 t10 1) fun t11 => 
 pur Try.prog (Instr.fieldAt 62 t11 4) fun t12 => 
 rd Try.prog (Instr.loadAt 60 t12) (fun t13 => 
 pur Try.prog (nilV v_x) fun t14 => 
 pur Try.prog (Instr.fieldAt 62 t14 3) fun t15 => 
 act Try.prog (thenU (Instr.storeAt 60 t15 t8)) (fun _ w_1 => 
 pur Try.prog (nilV v_x) fun t16 => 
 pur Try.prog (Instr.fieldAt 62 t16 4) fun t17 => 
 act Try.prog (thenU (Instr.storeAt 60 t17 t13)) (fun _ w_2 => 
 pur Try.prog (nilV v_x) fun t19 => 
 pur Try.prog (Instr.fieldAt 62 t19 3) fun t20 => 
 rd Try.prog (Instr.loadAt 60 t20) (fun t21 => 
 pur Try.prog (nilV v_x) fun t23 => 
 pur Try.prog (Instr.fieldAt 62 t23 4) fun t24 => 
 rd Try.prog (Instr.loadAt 60 t24) (fun t25 => 
 pur Try.prog (nilV t21) fun t28 => 
 pur Try.prog (Instr.fieldAt 62 t28 4) fun t29 => 
 act Try.prog (thenU (Instr.storeAt 60 t29 v_x)) (fun _ w_3 => 
 pur Try.prog (nilV t25) fun t30 => 
 pur Try.prog (Instr.fieldAt 62 t30 3) fun t31 => 
 act Try.prog (thenU (Instr.storeAt 60 t31 v_x)) (fun _ w_4 => 
 Q (.tuple #[]) w_4) w_3) (World.drew w_2)) (World.drew w_2)) (World.drew w_2)) w_1) (World.drew w)) (World.drew w)
theorem eq40 (v_c v_x : Value) (Q : Value → World → Prop) (w : World) : semF Try.prog 40 [v_c, v_x] Q w = S40 v_c v_x Q w := by kernel_rfl
theorem ref40 {v_c v_x : Value} {Q : Value → World → Prop} {w : World} (h : S40 v_c v_x Q w) : callS Try.prog 40 #[v_c, v_x] Q w :=
  callS_of mix (fun a w => Try.call40 a w) (by kernel_rfl) (by rw [eq40]; exact h)
-- (*commons/lru.Cache[int, int]).find
def S41 (v_c v_k : Value) (Q : Value → World → Prop) (w : World) : Prop :=
 rd Try.prog (binS .eql 41 false true v_c (.pointer none)) (fun t6 => 
 condS t6
  (Q (.pointer none) w)
  (pur Try.prog (nilV v_c) fun t8 => 
 pur Try.prog (Instr.fieldAt 73 t8 0) fun t9 => 
 rd Try.prog (Instr.loadAt 68 t9) (fun t10 => 
 rd Try.prog (Instr.lookup 68 t10 v_k false) (fun t12 => 
 Q t12 w) w) w)) w
theorem eq41 (v_c v_k : Value) (Q : Value → World → Prop) (w : World) : semF Try.prog 41 [v_c, v_k] Q w = S41 v_c v_k Q w := by kernel_rfl
theorem ref41 {v_c v_k : Value} {Q : Value → World → Prop} {w : World} (h : S41 v_c v_k Q w) : callS Try.prog 41 #[v_c, v_k] Q w :=
  callS_of mix (fun a w => Try.call41 a w) (by kernel_rfl) (by rw [eq41]; exact h)
-- (*commons/lru.Cache[int, int]).use
def S42 (v_c v_x : Value) (Q : Value → World → Prop) (w : World) : Prop :=
 callS Try.prog 44 #[v_x] (fun _ w_1 => 
 callS Try.prog 45 #[v_c, v_x] (fun _ w_2 => 
 Q (.tuple #[]) w_2) w_1) w
theorem eq42 (v_c v_x : Value) (Q : Value → World → Prop) (w : World) : semF Try.prog 42 [v_c, v_x] Q w = S42 v_c v_x Q w := by kernel_rfl
theorem ref42 {v_c v_x : Value} {Q : Value → World → Prop} {w : World} (h : S42 v_c v_x Q w) : callS Try.prog 42 #[v_c, v_x] Q w :=
  callS_of mix (fun a w => Try.call42 a w) (by kernel_rfl) (by rw [eq42]; exact h)
-- (*commons/lru.Cache[int, int]).idle
def S43 (v_c : Value) (Q : Value → World → Prop) (w : World) : Prop :=
 pur Try.prog (nilV v_c) fun t5 => 
 pur Try.prog (Instr.fieldAt 73 t5 1) fun t6 => 
 pur Try.prog (Instr.fieldAt 71 t6 3) fun t7 => 
 rd Try.prog (Instr.loadAt 69 t7) (fun t8 => 
 lp 1 (fun J => fun v_x w_1 => ∀ _j : Fr, 
  pur Try.prog (nilV v_c) fun t11 => 
  pur Try.prog (Instr.fieldAt 73 t11 1) fun t12 => 
  rd Try.prog (binS .neq 69 false false v_x t12) (fun t13 => 
  condS t13
   (pur Try.prog (nilV v_x) fun t19 => 
  pur Try.prog (Instr.fieldAt 71 t19 2) fun t20 => 
  rd Try.prog (Instr.loadAt 3 t20) (fun t21 => 
  pur Try.prog (binS .eql 3 false true t21 (.int .i64 0)) fun t22 => 
  condS t22
   (Q v_x w_1)
   (pur Try.prog (nilV v_x) fun t15 => 
  pur Try.prog (Instr.fieldAt 71 t15 3) fun t16 => 
  rd Try.prog (Instr.loadAt 69 t16) (fun t17 => 
  J t17 w_1) w_1)) w_1)
   (Q (.pointer none) w_1)) w_1) [t8] w) w
theorem eq43 (v_c : Value) (Q : Value → World → Prop) (w : World) : semF Try.prog 43 [v_c] Q w = S43 v_c Q w := by kernel_rfl
theorem ref43 {v_c : Value} {Q : Value → World → Prop} {w : World} (h : S43 v_c Q w) : callS Try.prog 43 #[v_c] Q w :=
  callS_of mix (fun a w => Try.call43 a w) (by kernel_rfl) (by rw [eq43]; exact h)
-- (*commons/lru.node[int, int]).off
def S44 (v_x : Value) (Q : Value → World → Prop) (w : World) : Prop :=
 pur Try.prog (nilV v_x) fun t3 => 
 pur Try.prog (Instr.fieldAt 71 t3 3) fun t4 => 
 rd Try.prog (Instr.loadAt 69 t4) (fun t5 => 
 pur Try.prog (nilV v_x) fun t7 => 
 pur Try.prog (Instr.fieldAt 71 t7 4) fun t8 => 
 rd Try.prog (Instr.loadAt 69 t8) (fun t9 => 
 pur Try.prog (nilV v_x) fun t11 => 
 pur Try.prog (Instr.fieldAt 71 t11 4) fun t12 => 
 rd Try.prog (Instr.loadAt 69 t12) (fun t13 => 
 pur Try.prog (nilV v_x) fun t15 => 
 pur Try.prog (Instr.fieldAt 71 t15 3) fun t16 => 
 rd Try.prog (Instr.loadAt 69 t16) (fun t17 => 
 pur Try.prog (nilV t5) fun t18 => 
 pur Try.prog (Instr.fieldAt 71 t18 4) fun t19 => 
 act Try.prog (thenU (Instr.storeAt 69 t19 t13)) (fun _ w_1 => 
 pur Try.prog (nilV t9) fun t20 => 
 pur Try.prog (Instr.fieldAt 71 t20 3) fun t21 => 
 act Try.prog (thenU (Instr.storeAt 69 t21 t17)) (fun _ w_2 => 
 Q (.tuple #[]) w_2) w_1) (World.drew w)) (World.drew w)) (World.drew w)) (World.drew w)) (World.drew w)
theorem eq44 (v_x : Value) (Q : Value → World → Prop) (w : World) : semF Try.prog 44 [v_x] Q w = S44 v_x Q w := by kernel_rfl
theorem ref44 {v_x : Value} {Q : Value → World → Prop} {w : World} (h : S44 v_x Q w) : callS Try.prog 44 #[v_x] Q w :=
  callS_of mix (fun a w => Try.call44 a w) (by kernel_rfl) (by rw [eq44]; exact h)
-- (*commons/lru.Cache[int, int]).first
def S45 (v_c v_x : Value) (Q : Value → World → Prop) (w : World) : Prop :=
 pur Try.prog (nilV v_c) fun t7 => 
 pur Try.prog (Instr.fieldAt 73 t7 1) fun t8 => 
 pur Try.prog (nilV v_c) fun t10 => 
 pur Try.prog (Instr.fieldAt 73 t10 1) fun t11 => 
 pur Try.prog (Instr.fieldAt 71 t11 4) fun t12 => 
 rd Try.prog (Instr.loadAt 69 t12) (fun t13 => 
 pur Try.prog (nilV v_x) fun t14 => 
 pur Try.prog (Instr.fieldAt 71 t14 3) fun t15 => 
 act Try.prog (thenU (Instr.storeAt 69 t15 t8)) (fun _ w_1 => 
 pur Try.prog (nilV v_x) fun t16 => 
 pur Try.prog (Instr.fieldAt 71 t16 4) fun t17 => 
 act Try.prog (thenU (Instr.storeAt 69 t17 t13)) (fun _ w_2 => 
 pur Try.prog (nilV v_x) fun t19 => 
 pur Try.prog (Instr.fieldAt 71 t19 3) fun t20 => 
 rd Try.prog (Instr.loadAt 69 t20) (fun t21 => 
 pur Try.prog (nilV v_x) fun t23 => 
 pur Try.prog (Instr.fieldAt 71 t23 4) fun t24 => 
 rd Try.prog (Instr.loadAt 69 t24) (fun t25 => 
 pur Try.prog (nilV t21) fun t28 => 
 pur Try.prog (Instr.fieldAt 71 t28 4) fun t29 => 
 act Try.prog (thenU (Instr.storeAt 69 t29 v_x)) (fun _ w_3 => 
 pur Try.prog (nilV t25) fun t30 => 
 pur Try.prog (Instr.fieldAt 71 t30 3) fun t31 => 
 act Try.prog (thenU (Instr.storeAt 69 t31 v_x)) (fun _ w_4 => 
 Q (.tuple #[]) w_4) w_3) (World.drew w_2)) (World.drew w_2)) (World.drew w_2)) w_1) (World.drew w)) (World.drew w)
theorem eq45 (v_c v_x : Value) (Q : Value → World → Prop) (w : World) : semF Try.prog 45 [v_c, v_x] Q w = S45 v_c v_x Q w := by kernel_rfl
theorem ref45 {v_c v_x : Value} {Q : Value → World → Prop} {w : World} (h : S45 v_c v_x Q w) : callS Try.prog 45 #[v_c, v_x] Q w :=
  callS_of mix (fun a w => Try.call45 a w) (by kernel_rfl) (by rw [eq45]; exact h)
end Go.Proofs.Ytkdanklgcgjijaa
