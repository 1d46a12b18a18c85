/- The readings of the functions' code, printed by a program, each held equal to the one that is computed: for all arguments, all worlds.
   Conditions: none. -/
import Derived.Test.YtdnbegjamoeahaaGreatUShC
import Derived.Test.YtdnbegjamoeahaaGreatProg
import Derived.KernelRfl
set_option linter.unusedSimpArgs false
set_option linter.unusedVariables false
namespace Go.Proofs.YtdnbegjamoeahaaGreatU
open Go.Sh
set_option maxRecDepth 100000
theorem mix : Tryz.prog.follows .mixedOrders = true := by kernel_rfl


-- commons/commonslaw24.TxMost
def S8 (v_log v_room v_n : Value) (Q : Value → World → Prop) (w : World) : Prop :=
 pur Tryz.prog (binS .lss 3 false true v_log (.int .i64 8)) fun t14 => 
 gd t14 false (fun k w_1 => k v_log w_1) (fun t16_1 w_2 => 
 gd t14 false (fun k_1 w_3 => pur Tryz.prog (binS .gtr 3 false true t16_1 (.int .i64 256)) fun t17 => k_1 t17 w_3) (fun t17_1 w_4 => 
 pur Tryz.prog (pickS t14 (.bool true) t17_1) fun t18 => 
 gd t18 false (fun k_2 w_5 => k_2 v_room w_5) (fun t20_1 w_6 => 
 gd t18 false (fun k_3 w_7 => pur Tryz.prog (binS .lss 3 false true t20_1 (.int .i64 2)) fun t21 => k_3 t21 w_7) (fun t21_1 w_8 => 
 pur Tryz.prog (pickS t18 (.bool true) t21_1) fun t22 => 
 gd t22 false (fun k_4 w_9 => k_4 v_room w_9) (fun t24_1 w_10 => 
 gd t22 false (fun k_5 w_11 => pur Tryz.prog (binS .gtr 3 false true t24_1 (.int .i64 1000)) fun t25 => k_5 t25 w_11) (fun t25_1 w_12 => 
 pur Tryz.prog (pickS t22 (.bool true) t25_1) fun t26 => 
 gd t26 false (fun k_6 w_13 => k_6 v_n w_13) (fun t28_1 w_14 => 
 gd t26 false (fun k_7 w_15 => pur Tryz.prog (binS .lss 3 false true t28_1 (.int .i64 0)) fun t29 => k_7 t29 w_15) (fun t29_1 w_16 => 
 pur Tryz.prog (pickS t26 (.bool true) t29_1) fun t30 => 
 gd t30 false (fun k_8 w_17 => k_8 v_n w_17) (fun t32_1 w_18 => 
 gd t30 false (fun k_9 w_19 => pur Tryz.prog (binS .gtr 3 false true t32_1 (.int .i64 70)) fun t33 => k_9 t33 w_19) (fun t33_1 w_20 => 
 pur Tryz.prog (pickS t30 (.bool true) t33_1) fun t34 => 
 condS t34
  (callS Tryz.prog 94 #[] (fun t35 w_21 => 
  Q t35 w_21) w_20)
  (pur Tryz.prog (Instr.build 142 #[(0, (.int .i64 1)), (1, (.int .i64 100)), (2, v_log), (3, v_room), (4, (.int .i64 32))]) fun t38 => 
 act Tryz.prog (Instr.alloc 142 true (.tuple #[])) (fun t7 w_22 => 
 act Tryz.prog (thenU (Instr.storeAt 142 t7 t38)) (fun _ w_23 => 
 rd Tryz.prog (Instr.loadAt 142 t7) (fun t40 => 
 pur Tryz.prog (Instr.build 92 #[(1, (.int .i64 100))]) fun t41 => 
 pur Tryz.prog (Instr.build 148 #[(0, t41), (1, (.int .i64 2))]) fun t42 => 
 act Tryz.prog (Instr.buildSlice 129 1 #[(0, t42)]) (fun t43 w_24 => 
 callS Tryz.prog 95 #[t40, t43] (fun t44 w_25 => 
 pur Tryz.prog (Instr.extract t44 0) fun t45 => 
 pur Tryz.prog (Instr.extract t44 1) fun t46 => 
 pur Tryz.prog (binS .neq 144 false true t46 (.int .i64 0)) fun t48 => 
 gd t48 false (fun k_10 w_26 => k_10 t45 w_26) (fun t50_1 w_27 => 
 gd t48 false (fun k_11 w_28 => rd Tryz.prog (binS .eql 143 false true t50_1 (.pointer none)) (fun t51 => k_11 t51 w_28) w_28) (fun t51_1 w_29 => 
 pur Tryz.prog (pickS t48 (.bool true) t51_1) fun t52 => 
 condS t52
  (Q (.bool false) w_29)
  (callS Tryz.prog 96 #[v_log] (fun t54 w_30 => 
 pur Tryz.prog (Builtin.min_ #[3, 3] 3 #[t54, v_room]) fun t56 => 
 lp 1 (fun J => fun v_i w_31 => ∀ _j : Fr, 
  pur Tryz.prog (binS .lss 3 false false v_i v_n) fun t59 => 
  condS t59
   (callS Tryz.prog 97 #[t45, v_i, (.string ⟨#[120]⟩)] (fun t64 w_32 => 
  pur Tryz.prog (binS .eql 144 false true t64 (.int .i64 0)) fun t66 => 
  pur Tryz.prog (binS .lss 3 false false v_i t56) fun t69 => 
  pur Tryz.prog (binS .neq 4 false false t66 t69) fun t70 => 
  gd t70 false (fun k_12 w_33 => k_12 t64 w_33) (fun t72_1 w_34 => 
  gd t70 false (fun k_13 w_35 => pur Tryz.prog (binS .neq 144 false true t72_1 (.int .i64 0)) fun t73 => k_13 t73 w_35) (fun t73_1 w_36 => 
  gd t70 false (fun k_14 w_37 => k_14 t73_1 w_37) (fun t74_1 w_38 => 
  gd t74_1 true (fun k_15 w_39 => k_15 t64 w_39) (fun t75_1 w_40 => 
  gd t74_1 true (fun k_16 w_41 => pur Tryz.prog (binS .neq 144 false true t75_1 (.int .i64 31)) fun t76 => k_16 t76 w_41) (fun t76_1 w_42 => 
  gd t70 false (fun k_17 w_43 => pur Tryz.prog (pickS t74_1 t76_1 (.bool false)) fun t77 => k_17 t77 w_43) (fun t77_1 w_44 => 
  pur Tryz.prog (pickS t70 (.bool true) t77_1) fun t78 => 
  condS t78
   (Q (.bool false) w_44)
   (callS Tryz.prog 98 #[t45] (fun t80 w_45 => 
  pur Tryz.prog (binS .add 3 false true v_i (.int .i64 1)) fun t82 => 
  pur Tryz.prog (Builtin.min_ #[3, 3] 3 #[t82, t56]) fun t84 => 
  pur Tryz.prog (binS .neq 3 false false t80 t84) fun t85 => 
  gd t85 false (fun k_18 w_46 => k_18 t56 w_46) (fun t87_1 w_47 => 
  gd t85 false (fun k_19 w_48 => pur Tryz.prog (binS .gtr 3 false true t87_1 (.int .i64 0)) fun t88 => k_19 t88 w_48) (fun t88_1 w_49 => 
  gd t85 false (fun k_20 w_50 => k_20 t88_1 w_50) (fun t89_1 w_51 => 
  gd t89_1 true (fun k_21 w_52 => k_21 t45 w_52) (fun t90_1 w_53 => 
  gd t89_1 true (fun k_22 w_54 => callS Tryz.prog 97 #[t90_1, (.int .i64 0), (.string ⟨#[121]⟩)] (fun t91 w_55 => k_22 t91 w_55) w_54) (fun t91_1 w_56 => 
  gd t89_1 true (fun k_23 w_57 => pur Tryz.prog (binS .neq 144 false true t91_1 (.int .i64 0)) fun t92 => k_23 t92 w_57) (fun t92_1 w_58 => 
  gd t85 false (fun k_24 w_59 => pur Tryz.prog (pickS t89_1 t92_1 (.bool false)) fun t93 => k_24 t93 w_59) (fun t93_1 w_60 => 
  pur Tryz.prog (pickS t85 (.bool true) t93_1) fun t94 => 
  condS t94
   (Q (.bool false) w_60)
   (pur Tryz.prog (binS .add 3 false true v_i (.int .i64 1)) fun t61 => 
  J t61 w_60)) w_58) w_56) w_53) w_51) w_49) w_47) w_45) w_44)) w_42) w_40) w_38) w_36) w_34) w_32) w_31)
   (callS Tryz.prog 94 #[] (fun t95 w_61 => 
 gd t95 true (fun k_25 w_62 => k_25 t45 w_62) (fun t97_1 w_63 => 
 gd t95 true (fun k_26 w_64 => callS Tryz.prog 99 #[t97_1] (fun t98 w_65 => k_26 t98 w_65) w_64) (fun t98_1 w_66 => 
 gd t95 true (fun k_27 w_67 => pur Tryz.prog (Builtin.len_ #[150] 3 #[t98_1]) fun t99 => k_27 t99 w_67) (fun t99_1 w_68 => 
 gd t95 true (fun k_28 w_69 => k_28 v_n w_69) (fun t100_1 w_70 => 
 gd t95 true (fun k_29 w_71 => k_29 t56 w_71) (fun t101_1 w_72 => 
 gd t95 true (fun k_30 w_73 => pur Tryz.prog (Builtin.min_ #[3, 3] 3 #[t100_1, t101_1]) fun t102 => k_30 t102 w_73) (fun t102_1 w_74 => 
 gd t95 true (fun k_31 w_75 => pur Tryz.prog (binS .eql 3 false false t99_1 t102_1) fun t103 => k_31 t103 w_75) (fun t103_1 w_76 => 
 pur Tryz.prog (pickS t95 t103_1 (.bool false)) fun t104 => 
 Q t104 w_76) w_74) w_72) w_70) w_68) w_66) w_63) w_61) w_31)) [(.int .i64 0)] w_30) w_29)) w_27) w_25) w_24) w_23) w_23) w_22) w_20)) w_18) w_16) w_14) w_12) w_10) w_8) w_6) w_4) w_2) w
theorem eq8 (v_log v_room v_n : Value) (Q : Value → World → Prop) (w : World) : semF Tryz.prog 8 [v_log, v_room, v_n] Q w = S8 v_log v_room v_n Q w := by kernel_rfl
theorem ref8 {v_log v_room v_n : Value} {Q : Value → World → Prop} {w : World} (h : S8 v_log v_room v_n Q w) : callS Tryz.prog 8 #[v_log, v_room, v_n] Q w :=
  callS_of mix (fun a w => Tryz.call8 a w) (by kernel_rfl) (by rw [eq8]; exact h)
-- commons/commonslaw24.TxReads
def S9 (v_l v_block : Value) (Q : Value → World → Prop) (w : World) : Prop :=
 pur Tryz.prog (Builtin.len_ #[153] 3 #[v_l]) fun t17 => 
 pur Tryz.prog (binS .gtr 3 false true t17 (.int .i64 40)) fun t18 => 
 gd t18 false (fun k w_1 => k v_block w_1) (fun t20_1 w_2 => 
 gd t18 false (fun k_1 w_3 => pur Tryz.prog (binS .lss 3 false true t20_1 (.int .i64 0)) fun t21 => k_1 t21 w_3) (fun t21_1 w_4 => 
 pur Tryz.prog (pickS t18 (.bool true) t21_1) fun t22 => 
 gd t22 false (fun k_2 w_5 => k_2 v_block w_5) (fun t24_1 w_6 => 
 gd t22 false (fun k_3 w_7 => pur Tryz.prog (binS .gtr 3 false true t24_1 (.int .i64 9)) fun t25 => k_3 t25 w_7) (fun t25_1 w_8 => 
 pur Tryz.prog (pickS t22 (.bool true) t25_1) fun t26 => 
 condS t26
  (callS Tryz.prog 94 #[] (fun t27 w_9 => 
  Q t27 w_9) w_8)
  (callS Tryz.prog 100 #[] (fun t29 w_10 => 
 pur Tryz.prog (Instr.build 92 #[(1, (.int .i64 10))]) fun t30 => 
 pur Tryz.prog (Instr.build 148 #[(0, t30), (1, (.int .i64 2))]) fun t31 => 
 act Tryz.prog (Instr.buildSlice 129 1 #[(0, t31)]) (fun t32 w_11 => 
 callS Tryz.prog 95 #[t29, t32] (fun t33 w_12 => 
 pur Tryz.prog (Instr.extract t33 0) fun t34 => 
 pur Tryz.prog (Instr.extract t33 1) fun t35 => 
 pur Tryz.prog (binS .neq 144 false true t35 (.int .i64 0)) fun t37 => 
 gd t37 false (fun k_4 w_13 => k_4 t34 w_13) (fun t39_1 w_14 => 
 gd t37 false (fun k_5 w_15 => rd Tryz.prog (binS .eql 143 false true t39_1 (.pointer none)) (fun t40 => k_5 t40 w_15) w_15) (fun t40_1 w_16 => 
 pur Tryz.prog (pickS t37 (.bool true) t40_1) fun t41 => 
 condS t41
  (Q (.bool false) w_16)
  (lp 5 (fun J => fun v_wrote v_read v_w v_r v_i w_17 => ∀ _j : Fr, 
  pur Tryz.prog (Builtin.len_ #[153] 3 #[v_l]) fun t44 => 
  pur Tryz.prog (binS .lss 3 false false v_i t44) fun t45 => 
  condS t45
   (jn 4 (fun J_1 => 
   pur Tryz.prog (Instr.indexAt 153 v_l v_i) fun t50 => 
   pur Tryz.prog (Instr.fieldAt 156 t50 2) fun t51 => 
   rd Tryz.prog (Instr.loadAt 9 t51) (fun t52 => 
   pur Tryz.prog (Builtin.len_ #[9] 3 #[t52]) fun t53 => 
   pur Tryz.prog (binS .gtr 3 false true t53 (.int .i64 300)) fun t54 => 
   condS t54
    (callS Tryz.prog 94 #[] (fun t55 w_18 => 
    Q t55 w_18) w_17)
    (pur Tryz.prog (Instr.indexAt 153 v_l v_i) fun t58 => 
   pur Tryz.prog (Instr.fieldAt 156 t58 0) fun t59 => 
   rd Tryz.prog (Instr.loadAt 3 t59) (fun t60 => 
   pur Tryz.prog (binS .eql 3 false true t60 (.int .i64 2)) fun t61 => 
   condS t61
    (pur Tryz.prog (Instr.indexAt 153 v_l v_i) fun t65 => 
    pur Tryz.prog (Instr.fieldAt 156 t65 1) fun t66 => 
    rd Tryz.prog (Instr.loadAt 3 t66) (fun t67 => 
    pur Tryz.prog (Instr.indexAt 153 v_l v_i) fun t70 => 
    pur Tryz.prog (Instr.fieldAt 156 t70 2) fun t71 => 
    rd Tryz.prog (Instr.loadAt 9 t71) (fun t72 => 
    callS Tryz.prog 101 #[t34, t67, t72] (fun _ w_19 => 
    pur Tryz.prog (Instr.indexAt 153 v_l v_i) fun t76 => 
    pur Tryz.prog (Instr.fieldAt 156 t76 1) fun t77 => 
    rd Tryz.prog (Instr.loadAt 3 t77) (fun t78 => 
    pur Tryz.prog (binS .eql 3 false false t78 v_block) fun t80 => 
    gd t80 true (fun k_6 w_20 => k_6 v_r w_20) (fun t82_1 w_21 => 
    gd t80 true (fun k_7 w_22 => pur Tryz.prog (Op.unary .not t82_1) fun t83 => k_7 t83 w_22) (fun t83_1 w_23 => 
    pur Tryz.prog (pickS t80 t83_1 (.bool false)) fun t84 => 
    condS t84
     (pur Tryz.prog (Instr.indexAt 153 v_l v_i) fun t87 => 
     pur Tryz.prog (Instr.fieldAt 156 t87 2) fun t88 => 
     rd Tryz.prog (Instr.loadAt 9 t88) (fun t89 => 
     J_1 v_wrote t89 v_w (.bool true) w_23) w_23)
     (J_1 v_wrote v_read v_w v_r w_23)) w_21) w_19) w_19) (World.drew w_17)) (World.drew w_17)) (World.drew w_17))
    (pur Tryz.prog (Instr.indexAt 153 v_l v_i) fun t93 => 
    pur Tryz.prog (Instr.fieldAt 156 t93 1) fun t94 => 
    rd Tryz.prog (Instr.loadAt 3 t94) (fun t95 => 
    pur Tryz.prog (Instr.indexAt 153 v_l v_i) fun t98 => 
    pur Tryz.prog (Instr.fieldAt 156 t98 2) fun t99 => 
    rd Tryz.prog (Instr.loadAt 9 t99) (fun t100 => 
    callS Tryz.prog 97 #[t34, t95, t100] (fun t101 w_24 => 
    pur Tryz.prog (binS .eql 144 false true t101 (.int .i64 0)) fun t102 => 
    gd t102 true (fun k_8 w_25 => k_8 v_l w_25) (fun t104_1 w_26 => 
    gd t102 true (fun k_9 w_27 => k_9 v_i w_27) (fun t105_1 w_28 => 
    gd t102 true (fun k_10 w_29 => pur Tryz.prog (Instr.indexAt 153 t104_1 t105_1) fun t106 => k_10 t106 w_29) (fun t106_1 w_30 => 
    gd t102 true (fun k_11 w_31 => pur Tryz.prog (Instr.fieldAt 156 t106_1 1) fun t107 => k_11 t107 w_31) (fun t107_1 w_32 => 
    gd t102 true (fun k_12 w_33 => rd Tryz.prog (Instr.loadAt 3 t107_1) (fun t108 => k_12 t108 w_33) w_33) (fun t108_1 w_34 => 
    gd t102 true (fun k_13 w_35 => k_13 v_block w_35) (fun t109_1 w_36 => 
    gd t102 true (fun k_14 w_37 => pur Tryz.prog (binS .eql 3 false false t108_1 t109_1) fun t110 => k_14 t110 w_37) (fun t110_1 w_38 => 
    pur Tryz.prog (pickS t102 t110_1 (.bool false)) fun t111 => 
    condS t111
     (pur Tryz.prog (Instr.indexAt 153 v_l v_i) fun t114 => 
     pur Tryz.prog (Instr.fieldAt 156 t114 2) fun t115 => 
     rd Tryz.prog (Instr.loadAt 9 t115) (fun t116 => 
     J_1 t116 v_read (.bool true) v_r w_38) w_38)
     (J_1 v_wrote v_read v_w v_r w_38)) w_36) w_34) w_32) w_30) w_28) w_26) w_24) (World.drew w_17)) (World.drew w_17)) (World.drew w_17))) w_17)) w_17)
  (fun v_wrote_1 v_read_1 v_w_1 v_r_1 w_39 => ∀ _j : Fr, 
   pur Tryz.prog (binS .add 3 false true v_i (.int .i64 1)) fun t47 => 
   J v_wrote_1 v_read_1 v_w_1 v_r_1 t47 w_39))
   (callS Tryz.prog 102 #[t34, v_block] (fun t120 w_40 => 
 pur Tryz.prog (Instr.extract t120 0) fun t121 => 
 pur Tryz.prog (Instr.extract t120 1) fun t122 => 
 pur Tryz.prog (binS .neq 4 false false t122 v_w) fun t125 => 
 gd t125 false (fun k_15 w_41 => k_15 v_w w_41) (fun t127_1 w_42 => 
 gd t125 false (fun k_16 w_43 => k_16 t127_1 w_43) (fun t128_1 w_44 => 
 gd t128_1 true (fun k_17 w_45 => k_17 t121 w_45) (fun t129_1 w_46 => 
 gd t128_1 true (fun k_18 w_47 => pur Tryz.prog (Builtin.len_ #[9] 3 #[t129_1]) fun t130 => k_18 t130 w_47) (fun t130_1 w_48 => 
 gd t128_1 true (fun k_19 w_49 => pur Tryz.prog (binS .neq 3 false true t130_1 (.int .i64 96)) fun t131 => k_19 t131 w_49) (fun t131_1 w_50 => 
 gd t128_1 true (fun k_20 w_51 => k_20 t131_1 w_51) (fun t132_1 w_52 => 
 gd t132_1 false (fun k_21 w_53 => k_21 t121 w_53) (fun t133_1 w_54 => 
 gd t132_1 false (fun k_22 w_55 => k_22 v_wrote w_55) (fun t134_1 w_56 => 
 gd t132_1 false (fun k_23 w_57 => pur Tryz.prog (Builtin.len_ #[9] 3 #[t134_1]) fun t135 => k_23 t135 w_57) (fun t135_1 w_58 => 
 gd t132_1 false (fun k_24 w_59 => pur Tryz.prog (Instr.sliceAt 9 t133_1 none (some t135_1) none) fun t136 => k_24 t136 w_59) (fun t136_1 w_60 => 
 gd t132_1 false (fun k_25 w_61 => k_25 v_wrote w_61) (fun t137_1 w_62 => 
 gd t132_1 false (fun k_26 w_63 => pur Tryz.prog (binS .neq 9 false false t136_1 t137_1) fun t138 => k_26 t138 w_63) (fun t138_1 w_64 => 
 gd t128_1 true (fun k_27 w_65 => pur Tryz.prog (pickS t132_1 (.bool true) t138_1) fun t139 => k_27 t139 w_65) (fun t139_1 w_66 => 
 gd t125 false (fun k_28 w_67 => pur Tryz.prog (pickS t128_1 t139_1 (.bool false)) fun t140 => k_28 t140 w_67) (fun t140_1 w_68 => 
 pur Tryz.prog (pickS t125 (.bool true) t140_1) fun t141 => 
 condS t141
  (Q (.bool false) w_68)
  (callS Tryz.prog 103 #[t34] (fun t143 w_69 => 
 lp 1 (fun J_2 => fun v_i_1 w_70 => ∀ _j : Fr, 
  pur Tryz.prog (Builtin.len_ #[150] 3 #[t143]) fun t146 => 
  pur Tryz.prog (binS .lss 3 false false v_i_1 t146) fun t147 => 
  condS t147
   (pur Tryz.prog (Instr.indexAt 150 t143 v_i_1) fun t152 => 
  pur Tryz.prog (Instr.fieldAt 162 t152 0) fun t153 => 
  rd Tryz.prog (Instr.loadAt 3 t153) (fun t154 => 
  pur Tryz.prog (binS .eql 3 false false t154 v_block) fun t156 => 
  condS t156
   (callS Tryz.prog 94 #[] (fun t157 w_71 => 
   gd t157 true (fun k_29 w_72 => k_29 v_r w_72) (fun t159_1 w_73 => 
   pur Tryz.prog (pickS t157 t159_1 (.bool false)) fun t160 => 
   gd t160 true (fun k_30 w_74 => k_30 t143 w_74) (fun t162_1 w_75 => 
   gd t160 true (fun k_31 w_76 => k_31 v_i_1 w_76) (fun t163_1 w_77 => 
   gd t160 true (fun k_32 w_78 => pur Tryz.prog (Instr.indexAt 150 t162_1 t163_1) fun t164 => k_32 t164 w_78) (fun t164_1 w_79 => 
   gd t160 true (fun k_33 w_80 => pur Tryz.prog (Instr.fieldAt 162 t164_1 2) fun t165 => k_33 t165 w_80) (fun t165_1 w_81 => 
   gd t160 true (fun k_34 w_82 => rd Tryz.prog (Instr.loadAt 9 t165_1) (fun t166 => k_34 t166 w_82) w_82) (fun t166_1 w_83 => 
   gd t160 true (fun k_35 w_84 => k_35 v_read w_84) (fun t167_1 w_85 => 
   gd t160 true (fun k_36 w_86 => pur Tryz.prog (binS .eql 9 false false t166_1 t167_1) fun t168 => k_36 t168 w_86) (fun t168_1 w_87 => 
   pur Tryz.prog (pickS t160 t168_1 (.bool false)) fun t169 => 
   Q t169 w_87) w_85) w_83) w_81) w_79) w_77) w_75) w_73) w_71) w_70)
   (pur Tryz.prog (binS .add 3 false true v_i_1 (.int .i64 1)) fun t149 => 
  J_2 t149 w_70)) w_70)
   (callS Tryz.prog 94 #[] (fun t170 w_88 => 
 gd t170 true (fun k_37 w_89 => k_37 v_r w_89) (fun t172_1 w_90 => 
 gd t170 true (fun k_38 w_91 => pur Tryz.prog (Op.unary .not t172_1) fun t173 => k_38 t173 w_91) (fun t173_1 w_92 => 
 pur Tryz.prog (pickS t170 t173_1 (.bool false)) fun t174 => 
 Q t174 w_92) w_90) w_88) w_70)) [(.int .i64 0)] w_69) w_68)) w_66) w_64) w_62) w_60) w_58) w_56) w_54) w_52) w_50) w_48) w_46) w_44) w_42) w_40) w_17)) [(.string ⟨#[]⟩), (.string ⟨#[]⟩), (.bool false), (.bool false), (.int .i64 0)] w_16)) w_14) w_12) w_11) w_10) w_8)) w_6) w_4) w_2) w
theorem eq9 (v_l v_block : Value) (Q : Value → World → Prop) (w : World) : semF Tryz.prog 9 [v_l, v_block] Q w = S9 v_l v_block Q w := by kernel_rfl
theorem ref9 {v_l v_block : Value} {Q : Value → World → Prop} {w : World} (h : S9 v_l v_block Q w) : callS Tryz.prog 9 #[v_l, v_block] Q w :=
  callS_of mix (fun a w => Tryz.call9 a w) (by kernel_rfl) (by rw [eq9]; exact h)
-- commons/span.Valid
def S45 (v_s : Value) (Q : Value → World → Prop) (w : World) : Prop :=
 act Tryz.prog (Instr.box 92 v_s) (fun t1 w_1 => 
 pur Tryz.prog (Instr.fieldAt 92 t1 0) fun t3 => 
 rd Tryz.prog (Instr.loadAt 3 t3) (fun t4 => 
 pur Tryz.prog (binS .geq 3 false true t4 (.int .i64 0)) fun t5 => 
 gd t5 true (fun k w_2 => pur Tryz.prog (Instr.fieldAt 92 t1 0) fun t7 => k t7 w_2) (fun t7_1 w_3 => 
 gd t5 true (fun k_1 w_4 => rd Tryz.prog (Instr.loadAt 3 t7_1) (fun t8 => k_1 t8 w_4) w_4) (fun t8_1 w_5 => 
 gd t5 true (fun k_2 w_6 => pur Tryz.prog (Instr.fieldAt 92 t1 1) fun t9 => k_2 t9 w_6) (fun t9_1 w_7 => 
 gd t5 true (fun k_3 w_8 => rd Tryz.prog (Instr.loadAt 3 t9_1) (fun t10 => k_3 t10 w_8) w_8) (fun t10_1 w_9 => 
 gd t5 true (fun k_4 w_10 => pur Tryz.prog (binS .lss 3 false false t8_1 t10_1) fun t11 => k_4 t11 w_10) (fun t11_1 w_11 => 
 pur Tryz.prog (pickS t5 t11_1 (.bool false)) fun t12 => 
 Q t12 w_11) w_9) w_7) w_5) w_3) w_1) w_1) w
theorem eq45 (v_s : Value) (Q : Value → World → Prop) (w : World) : semF Tryz.prog 45 [v_s] Q w = S45 v_s Q w := by kernel_rfl
theorem ref45 {v_s : Value} {Q : Value → World → Prop} {w : World} (h : S45 v_s Q w) : callS Tryz.prog 45 #[v_s] Q w :=
  callS_of mix (fun a w => Tryz.call45 a w) (by kernel_rfl) (by rw [eq45]; exact h)
-- commons/span.Has
def S47 (v_s v_block : Value) (Q : Value → World → Prop) (w : World) : Prop :=
 act Tryz.prog (Instr.box 92 v_s) (fun t2 w_1 => 
 rd Tryz.prog (Instr.loadAt 92 t2) (fun t5 => 
 callS Tryz.prog 45 #[t5] (fun t6 w_2 => 
 gd t6 true (fun k w_3 => pur Tryz.prog (Instr.fieldAt 92 t2 0) fun t8 => k t8 w_3) (fun t8_1 w_4 => 
 gd t6 true (fun k_1 w_5 => rd Tryz.prog (Instr.loadAt 3 t8_1) (fun t9 => k_1 t9 w_5) w_5) (fun t9_1 w_6 => 
 gd t6 true (fun k_2 w_7 => k_2 v_block w_7) (fun t10_1 w_8 => 
 gd t6 true (fun k_3 w_9 => pur Tryz.prog (binS .leq 3 false false t9_1 t10_1) fun t11 => k_3 t11 w_9) (fun t11_1 w_10 => 
 pur Tryz.prog (pickS t6 t11_1 (.bool false)) fun t12 => 
 gd t12 true (fun k_4 w_11 => k_4 v_block w_11) (fun t14_1 w_12 => 
 gd t12 true (fun k_5 w_13 => pur Tryz.prog (Instr.fieldAt 92 t2 1) fun t15 => k_5 t15 w_13) (fun t15_1 w_14 => 
 gd t12 true (fun k_6 w_15 => rd Tryz.prog (Instr.loadAt 3 t15_1) (fun t16 => k_6 t16 w_15) w_15) (fun t16_1 w_16 => 
 gd t12 true (fun k_7 w_17 => pur Tryz.prog (binS .lss 3 false false t14_1 t16_1) fun t17 => k_7 t17 w_17) (fun t17_1 w_18 => 
 pur Tryz.prog (pickS t12 t17_1 (.bool false)) fun t18 => 
 Q t18 w_18) w_16) w_14) w_12) w_10) w_8) w_6) w_4) w_2) w_1) w_1) w
theorem eq47 (v_s v_block : Value) (Q : Value → World → Prop) (w : World) : semF Tryz.prog 47 [v_s, v_block] Q w = S47 v_s v_block Q w := by kernel_rfl
theorem ref47 {v_s v_block : Value} {Q : Value → World → Prop} {w : World} (h : S47 v_s v_block Q w) : callS Tryz.prog 47 #[v_s, v_block] Q w :=
  callS_of mix (fun a w => Tryz.call47 a w) (by kernel_rfl) (by rw [eq47]; exact h)
-- commons/span.Meet
def S48 (v_a v_b : Value) (Q : Value → World → Prop) (w : World) : Prop :=
 act Tryz.prog (Instr.box 92 v_a) (fun t2 w_1 => 
 act Tryz.prog (Instr.box 92 v_b) (fun t3 w_2 => 
 act Tryz.prog (Instr.alloc 92 true (.tuple #[])) (fun t4 w_3 => 
 pur Tryz.prog (Instr.fieldAt 92 t2 0) fun t7 => 
 rd Tryz.prog (Instr.loadAt 3 t7) (fun t8 => 
 pur Tryz.prog (Instr.fieldAt 92 t3 0) fun t9 => 
 rd Tryz.prog (Instr.loadAt 3 t9) (fun t10 => 
 pur Tryz.prog (Builtin.max_ #[3, 3] 3 #[t8, t10]) fun t11 => 
 pur Tryz.prog (Instr.fieldAt 92 t2 1) fun t12 => 
 rd Tryz.prog (Instr.loadAt 3 t12) (fun t13 => 
 pur Tryz.prog (Instr.fieldAt 92 t3 1) fun t14 => 
 rd Tryz.prog (Instr.loadAt 3 t14) (fun t15 => 
 pur Tryz.prog (Builtin.min_ #[3, 3] 3 #[t13, t15]) fun t16 => 
 pur Tryz.prog (Instr.build 92 #[(0, t11), (1, t16)]) fun t17 => 
 act Tryz.prog (Instr.alloc 92 true (.tuple #[])) (fun t6 w_4 => 
 act Tryz.prog (thenU (Instr.storeAt 92 t6 t17)) (fun _ w_5 => 
 rd Tryz.prog (Instr.loadAt 92 t2) (fun t18 => 
 callS Tryz.prog 45 #[t18] (fun t19 w_6 => 
 pur Tryz.prog (Op.unary .not t19) fun t20 => 
 gd t20 false (fun k w_7 => rd Tryz.prog (Instr.loadAt 92 t3) (fun t22 => k t22 w_7) w_7) (fun t22_1 w_8 => 
 gd t20 false (fun k_1 w_9 => callS Tryz.prog 45 #[t22_1] (fun t23 w_10 => k_1 t23 w_10) w_9) (fun t23_1 w_11 => 
 gd t20 false (fun k_2 w_12 => pur Tryz.prog (Op.unary .not t23_1) fun t24 => k_2 t24 w_12) (fun t24_1 w_13 => 
 pur Tryz.prog (pickS t20 (.bool true) t24_1) fun t25 => 
 gd t25 false (fun k_3 w_14 => rd Tryz.prog (Instr.loadAt 92 t6) (fun t27 => k_3 t27 w_14) w_14) (fun t27_1 w_15 => 
 gd t25 false (fun k_4 w_16 => callS Tryz.prog 45 #[t27_1] (fun t28 w_17 => k_4 t28 w_17) w_16) (fun t28_1 w_18 => 
 gd t25 false (fun k_5 w_19 => pur Tryz.prog (Op.unary .not t28_1) fun t29 => k_5 t29 w_19) (fun t29_1 w_20 => 
 pur Tryz.prog (pickS t25 (.bool true) t29_1) fun t30 => 
 condS t30
  (pur Tryz.prog (Instr.build 92 #[]) fun t31 => 
  act Tryz.prog (thenU (Instr.storeAt 92 t4 t31)) (fun _ w_21 => 
  rd Tryz.prog (resL 92 t4) (fun r => Q (.tuple #[r, (.bool false)]) w_21) w_21) w_20)
  (rd Tryz.prog (Instr.loadAt 92 t6) (fun t32 => 
 act Tryz.prog (thenU (Instr.storeAt 92 t4 t32)) (fun _ w_22 => 
 rd Tryz.prog (resL 92 t4) (fun r_1 => Q (.tuple #[r_1, (.bool true)]) w_22) w_22) w_20) w_20)) w_18) w_15) w_13) w_11) w_8) w_6) w_5) w_5) w_4) w_3) w_3) w_3) w_3) w_3) w_2) w_1) w
theorem eq48 (v_a v_b : Value) (Q : Value → World → Prop) (w : World) : semF Tryz.prog 48 [v_a, v_b] Q w = S48 v_a v_b Q w := by kernel_rfl
theorem ref48 {v_a v_b : Value} {Q : Value → World → Prop} {w : World} (h : S48 v_a v_b Q w) : callS Tryz.prog 48 #[v_a, v_b] Q w :=
  callS_of mix (fun a w => Tryz.call48 a w) (by kernel_rfl) (by rw [eq48]; exact h)
-- commons/span.Meets
def S50 (v_a v_b : Value) (Q : Value → World → Prop) (w : World) : Prop :=
 act Tryz.prog (Instr.box 92 v_a) (fun t2 w_1 => 
 act Tryz.prog (Instr.box 92 v_b) (fun t3 w_2 => 
 rd Tryz.prog (Instr.loadAt 92 t2) (fun t8 => 
 rd Tryz.prog (Instr.loadAt 92 t3) (fun t9 => 
 callS Tryz.prog 48 #[t8, t9] (fun t10 w_3 => 
 pur Tryz.prog (Instr.extract t10 0) fun t11 => 
 pur Tryz.prog (Instr.extract t10 1) fun t12 => 
 act Tryz.prog (Instr.alloc 92 true (.tuple #[])) (fun t5 w_4 => 
 act Tryz.prog (thenU (Instr.storeAt 92 t5 t11)) (fun _ w_5 => 
 Q t12 w_5) w_4) w_3) w_2) w_2) w_2) w_1) w
theorem eq50 (v_a v_b : Value) (Q : Value → World → Prop) (w : World) : semF Tryz.prog 50 [v_a, v_b] Q w = S50 v_a v_b Q w := by kernel_rfl
theorem ref50 {v_a v_b : Value} {Q : Value → World → Prop} {w : World} (h : S50 v_a v_b Q w) : callS Tryz.prog 50 #[v_a, v_b] Q w :=
  callS_of mix (fun a w => Tryz.call50 a w) (by kernel_rfl) (by rw [eq50]; exact h)
-- commons/span.Norm
def S53 (v_l : Value) (Q : Value → World → Prop) (w : World) : Prop :=
 callS Tryz.prog 188 #[v_l] (fun t8 w_1 => 
 callS Tryz.prog 187 #[t8, (.func (.func 189) #[] #[])] (fun t9 w_2 => 
 callS Tryz.prog 190 #[t9, (.func (.func 191) #[] #[])] (fun _ w_3 => 
 pur Tryz.prog (Builtin.len_ #[90] 3 #[t9]) fun t13 => 
 lp 2 (fun J => fun v_out t14 w_4 => ∀ _j : Fr, 
  pur Tryz.prog (binS .lss 3 false false t14 t13) fun t15 => 
  condS t15
   (jn 1 (fun J_1 => 
   pur Tryz.prog (Instr.indexAt 90 t9 t14) fun t16 => 
   rd Tryz.prog (Instr.loadAt 92 t16) (fun t17 => 
   act Tryz.prog (Instr.alloc 92 true (.tuple #[])) (fun t5 w_5 => 
   act Tryz.prog (thenU (Instr.storeAt 92 t5 t17)) (fun _ w_6 => 
   pur Tryz.prog (Builtin.len_ #[90] 3 #[v_out]) fun t19 => 
   pur Tryz.prog (binS .sub 3 false true t19 (.int .i64 1)) fun t20 => 
   pur Tryz.prog (binS .geq 3 false true t20 (.int .i64 0)) fun t22 => 
   gd t22 true (fun k w_7 => pur Tryz.prog (Instr.fieldAt 92 t5 0) fun t24 => k t24 w_7) (fun t24_1 w_8 => 
   gd t22 true (fun k_1 w_9 => rd Tryz.prog (Instr.loadAt 3 t24_1) (fun t25 => k_1 t25 w_9) w_9) (fun t25_1 w_10 => 
   gd t22 true (fun k_2 w_11 => k_2 v_out w_11) (fun t26_1 w_12 => 
   gd t22 true (fun k_3 w_13 => k_3 t20 w_13) (fun t27_1 w_14 => 
   gd t22 true (fun k_4 w_15 => pur Tryz.prog (Instr.indexAt 90 t26_1 t27_1) fun t28 => k_4 t28 w_15) (fun t28_1 w_16 => 
   gd t22 true (fun k_5 w_17 => pur Tryz.prog (Instr.fieldAt 92 t28_1 1) fun t29 => k_5 t29 w_17) (fun t29_1 w_18 => 
   gd t22 true (fun k_6 w_19 => rd Tryz.prog (Instr.loadAt 3 t29_1) (fun t30 => k_6 t30 w_19) w_19) (fun t30_1 w_20 => 
   gd t22 true (fun k_7 w_21 => pur Tryz.prog (binS .leq 3 false false t25_1 t30_1) fun t31 => k_7 t31 w_21) (fun t31_1 w_22 => 
   pur Tryz.prog (pickS t22 t31_1 (.bool false)) fun t32 => 
   condS t32
    (pur Tryz.prog (Instr.indexAt 90 v_out t20) fun t37 => 
    pur Tryz.prog (Instr.fieldAt 92 t37 1) fun t38 => 
    rd Tryz.prog (Instr.loadAt 3 t38) (fun t39 => 
    pur Tryz.prog (Instr.fieldAt 92 t5 1) fun t40 => 
    rd Tryz.prog (Instr.loadAt 3 t40) (fun t41 => 
    pur Tryz.prog (Builtin.max_ #[3, 3] 3 #[t39, t41]) fun t42 => 
    pur Tryz.prog (Instr.indexAt 90 v_out t20) fun t43 => 
    pur Tryz.prog (Instr.fieldAt 92 t43 1) fun t44 => 
    act Tryz.prog (thenU (Instr.storeAt 3 t44 t42)) (fun _ w_23 => 
    J_1 v_out w_23) (World.drew w_22)) (World.drew w_22)) (World.drew w_22))
    (rd Tryz.prog (Instr.loadAt 92 t5) (fun t46 => 
    act Tryz.prog (Instr.buildSlice 90 1 #[(0, t46)]) (fun t47 w_24 => 
    act Tryz.prog (Builtin.append_ #[90, 90] 90 #[v_out, t47]) (fun t48 w_25 => 
    J_1 t48 w_25) w_24) w_22) w_22)) w_20) w_18) w_16) w_14) w_12) w_10) w_8) (World.drew w_6)) w_5) w_4) w_4)
  (fun v_out_1 w_26 => ∀ _j : Fr, 
   pur Tryz.prog (binS .add 3 false true t14 (.int .i64 1)) fun t49 => 
   J v_out_1 t49 w_26))
   (Q v_out w_4)) [(.slice none 0 0), (.int .i64 0)] w_3) w_2) w_1) w
theorem eq53 (v_l : Value) (Q : Value → World → Prop) (w : World) : semF Tryz.prog 53 [v_l] Q w = S53 v_l Q w := by kernel_rfl
theorem ref53 {v_l : Value} {Q : Value → World → Prop} {w : World} (h : S53 v_l Q w) : callS Tryz.prog 53 #[v_l] Q w :=
  callS_of mix (fun a w => Tryz.call53 a w) (by kernel_rfl) (by rw [eq53]; exact h)
-- commons/span.Minus
def S55 (v_a v_b : Value) (Q : Value → World → Prop) (w : World) : Prop :=
 callS Tryz.prog 53 #[v_a] (fun t12 w_1 => 
 callS Tryz.prog 53 #[v_b] (fun t14 w_2 => 
 pur Tryz.prog (Builtin.len_ #[90] 3 #[t14]) fun t15 => 
 lp 2 (fun J => fun v_out t16 w_3 => ∀ _j : Fr, 
  pur Tryz.prog (binS .lss 3 false false t16 t15) fun t17 => 
  condS t17
   (pur Tryz.prog (Instr.indexAt 90 t14 t16) fun t18 => 
  rd Tryz.prog (Instr.loadAt 92 t18) (fun t19 => 
  act Tryz.prog (Instr.alloc 92 true (.tuple #[])) (fun t7 w_4 => 
  act Tryz.prog (thenU (Instr.storeAt 92 t7 t19)) (fun _ w_5 => 
  pur Tryz.prog (Builtin.len_ #[90] 3 #[v_out]) fun t21 => 
  lp 2 (fun J_1 => fun v_left t22 w_6 => ∀ _j : Fr, 
   pur Tryz.prog (binS .lss 3 false false t22 t21) fun t23 => 
   condS t23
    (jn 1 (fun J_2 => 
    pur Tryz.prog (Instr.indexAt 90 v_out t22) fun t24 => 
    rd Tryz.prog (Instr.loadAt 92 t24) (fun t25 => 
    act Tryz.prog (Instr.alloc 92 true (.tuple #[])) (fun t10 w_7 => 
    act Tryz.prog (thenU (Instr.storeAt 92 t10 t25)) (fun _ w_8 => 
    rd Tryz.prog (Instr.loadAt 92 t10) (fun t26 => 
    rd Tryz.prog (Instr.loadAt 92 t7) (fun t27 => 
    callS Tryz.prog 50 #[t26, t27] (fun t28 w_9 => 
    pur Tryz.prog (Op.unary .not t28) fun t29 => 
    condS t29
     (rd Tryz.prog (Instr.loadAt 92 t10) (fun t31 => 
     act Tryz.prog (Instr.buildSlice 90 1 #[(0, t31)]) (fun t32 w_10 => 
     act Tryz.prog (Builtin.append_ #[90, 90] 90 #[v_left, t32]) (fun t33 w_11 => 
     J_2 t33 w_11) w_10) w_9) w_9)
     (pur Tryz.prog (Instr.fieldAt 92 t10 0) fun t35 => 
    rd Tryz.prog (Instr.loadAt 3 t35) (fun t36 => 
    pur Tryz.prog (Instr.fieldAt 92 t7 0) fun t37 => 
    rd Tryz.prog (Instr.loadAt 3 t37) (fun t38 => 
    pur Tryz.prog (Instr.build 92 #[(0, t36), (1, t38)]) fun t39 => 
    pur Tryz.prog (Instr.fieldAt 92 t7 1) fun t40 => 
    rd Tryz.prog (Instr.loadAt 3 t40) (fun t41 => 
    pur Tryz.prog (Instr.fieldAt 92 t10 1) fun t42 => 
    rd Tryz.prog (Instr.loadAt 3 t42) (fun t43 => 
    pur Tryz.prog (Instr.build 92 #[(0, t41), (1, t43)]) fun t44 => 
    act Tryz.prog (Instr.buildSlice 90 2 #[(0, t39), (1, t44)]) (fun t45 w_12 => 
    act Tryz.prog (Builtin.append_ #[90, 90] 90 #[v_left, t45]) (fun t46 w_13 => 
    J_2 t46 w_13) w_12) w_9) w_9) w_9) w_9) w_9)) w_8) w_8) w_8) w_7) w_6) w_6)
   (fun v_left_1 w_14 => ∀ _j : Fr, 
    pur Tryz.prog (binS .add 3 false true t22 (.int .i64 1)) fun t47 => 
    J_1 v_left_1 t47 w_14))
    (callS Tryz.prog 53 #[v_left] (fun t49 w_15 => 
  pur Tryz.prog (binS .add 3 false true t16 (.int .i64 1)) fun t50 => 
  J t49 t50 w_15) w_6)) [(.slice none 0 0), (.int .i64 0)] w_5) w_4) w_3) w_3)
   (Q v_out w_3)) [t12, (.int .i64 0)] w_2) w_1) w
theorem eq55 (v_a v_b : Value) (Q : Value → World → Prop) (w : World) : semF Tryz.prog 55 [v_a, v_b] Q w = S55 v_a v_b Q w := by kernel_rfl
theorem ref55 {v_a v_b : Value} {Q : Value → World → Prop} {w : World} (h : S55 v_a v_b Q w) : callS Tryz.prog 55 #[v_a, v_b] Q w :=
  callS_of mix (fun a w => Tryz.call55 a w) (by kernel_rfl) (by rw [eq55]; exact h)
-- commons/imap.New[int]
def S66 (Q : Value → World → Prop) (w : World) : Prop :=
 pur Tryz.prog (Instr.build 115 #[]) fun t1 => 
 act Tryz.prog (Instr.box 115 t1) (fun t2 w_1 => 
 Q t2 w_1) w
theorem eq66 (Q : Value → World → Prop) (w : World) : semF Tryz.prog 66 [] Q w = S66 Q w := by kernel_rfl
theorem ref66 {Q : Value → World → Prop} {w : World} (h : S66 Q w) : callS Tryz.prog 66 #[] Q w :=
  callS_of mix (fun a w => Tryz.call66 a w) (by kernel_rfl) (by rw [eq66]; exact h)
-- (*commons/imap.Map[int]).Set
def S67 (v_m v_s v_v : Value) (Q : Value → World → Prop) (w : World) : Prop :=
 act Tryz.prog (Instr.box 92 v_s) (fun t4 w_1 => 
 rd Tryz.prog (binS .eql 109 false true v_m (.pointer none)) (fun t8 => 
 gd t8 false (fun k w_2 => rd Tryz.prog (Instr.loadAt 92 t4) (fun t10 => k t10 w_2) w_2) (fun t10_1 w_3 => 
 gd t8 false (fun k_1 w_4 => callS Tryz.prog 45 #[t10_1] (fun t11 w_5 => k_1 t11 w_5) w_4) (fun t11_1 w_6 => 
 gd t8 false (fun k_2 w_7 => pur Tryz.prog (Op.unary .not t11_1) fun t12 => k_2 t12 w_7) (fun t12_1 w_8 => 
 pur Tryz.prog (pickS t8 (.bool true) t12_1) fun t13 => 
 condS t13
  (Q (.bool false) w_8)
  (jn 0 (fun J => 
  ∃ S : World → Prop, S (World.drew w_8) ∧ 
 hld Tryz.prog S (Instr.loadAt 92 t4) fun t16 => 
  hld Tryz.prog S (Instr.loadAt 92 t4) fun t18 => 
  pur Tryz.prog (Instr.build 230 #[(0, t18), (1, v_v)]) fun t20 => 
  (callS Tryz.prog 197 #[v_m, t16] (fun t17 w_9 => S w_9 ∧ 
  act Tryz.prog (Instr.buildSlice 113 1 #[(0, t20)]) (fun t21 w_10 => S w_10 ∧ 
  act Tryz.prog (Builtin.append_ #[113, 113] 113 #[t17, t21]) (fun t22 w_11 => S w_11 ∧ 
  callS Tryz.prog 196 #[v_m, t22] (fun _ w_12 => S w_12 ∧ 
  J  w_12) w_11) w_10) w_9) (World.drew w_8)
  ) ∧ (act Tryz.prog (Instr.buildSlice 113 1 #[(0, t20)]) (fun t21_1 w_13 => S w_13 ∧ 
  callS Tryz.prog 197 #[v_m, t16] (fun t17_1 w_14 => S w_14 ∧ 
  act Tryz.prog (Builtin.append_ #[113, 113] 113 #[t17_1, t21_1]) (fun t22_1 w_15 => S w_15 ∧ 
  callS Tryz.prog 196 #[v_m, t22_1] (fun _ w_16 => S w_16 ∧ 
  J  w_16) w_15) w_14) w_13) (World.drew w_8)))
 (fun  w_17 => ∀ _j : Fr, 
  Q (.bool true) w_17))) w_6) w_3) w_1) w_1) w
theorem eq67 (v_m v_s v_v : Value) (Q : Value → World → Prop) (w : World) : semF Tryz.prog 67 [v_m, v_s, v_v] Q w = S67 v_m v_s v_v Q w := by kernel_rfl
theorem ref67 {v_m v_s v_v : Value} {Q : Value → World → Prop} {w : World} (h : S67 v_m v_s v_v Q w) : callS Tryz.prog 67 #[v_m, v_s, v_v] Q w :=
  callS_of mix (fun a w => Tryz.call67 a w) (by kernel_rfl) (by rw [eq67]; exact h)
-- (*commons/imap.Map[int]).All
def S73 (v_m : Value) (Q : Value → World → Prop) (w : World) : Prop :=
 rd Tryz.prog (binS .eql 109 false true v_m (.pointer none)) (fun t4 => 
 condS t4
  (Q (.slice none 0 0) w)
  (pur Tryz.prog (nilV v_m) fun t6 => 
 pur Tryz.prog (Instr.fieldAt 115 t6 0) fun t7 => 
 rd Tryz.prog (Instr.loadAt 113 t7) (fun t8 => 
 callS Tryz.prog 198 #[t8] (fun t9 w_1 => 
 Q t9 w_1) w) w)) w
theorem eq73 (v_m : Value) (Q : Value → World → Prop) (w : World) : semF Tryz.prog 73 [v_m] Q w = S73 v_m Q w := by kernel_rfl
theorem ref73 {v_m : Value} {Q : Value → World → Prop} {w : World} (h : S73 v_m Q w) : callS Tryz.prog 73 #[v_m] Q w :=
  callS_of mix (fun a w => Tryz.call73 a w) (by kernel_rfl) (by rw [eq73]; exact h)
-- (*commons/imap.Map[int]).Parts
def S74 (v_m v_s : Value) (Q : Value → World → Prop) (w : World) : Prop :=
 act Tryz.prog (Instr.box 92 v_s) (fun t3 w_1 => 
 rd Tryz.prog (binS .eql 109 false true v_m (.pointer none)) (fun t11 => 
 condS t11
  (Q (.slice none 0 0) w_1)
  (pur Tryz.prog (nilV v_m) fun t13 => 
 pur Tryz.prog (Instr.fieldAt 115 t13 0) fun t14 => 
 rd Tryz.prog (Instr.loadAt 113 t14) (fun t15 => 
 pur Tryz.prog (Builtin.len_ #[113] 3 #[t15]) fun t16 => 
 lp 2 (fun J => fun v_out t17 w_2 => ∀ _j : Fr, 
  pur Tryz.prog (binS .lss 3 false false t17 t16) fun t18 => 
  condS t18
   (jn 1 (fun J_1 => 
   pur Tryz.prog (Instr.indexAt 113 t15 t17) fun t19 => 
   rd Tryz.prog (Instr.loadAt 230 t19) (fun t20 => 
   act Tryz.prog (Instr.alloc 230 true (.tuple #[])) (fun t7 w_3 => 
   act Tryz.prog (thenU (Instr.storeAt 230 t7 t20)) (fun _ w_4 => 
   pur Tryz.prog (Instr.fieldAt 230 t7 0) fun t22 => 
   rd Tryz.prog (Instr.loadAt 92 t22) (fun t23 => 
   rd Tryz.prog (Instr.loadAt 92 t3) (fun t24 => 
   callS Tryz.prog 48 #[t23, t24] (fun t25 w_5 => 
   pur Tryz.prog (Instr.extract t25 0) fun t26 => 
   pur Tryz.prog (Instr.extract t25 1) fun t27 => 
   act Tryz.prog (Instr.alloc 92 true (.tuple #[])) (fun t8 w_6 => 
   act Tryz.prog (thenU (Instr.storeAt 92 t8 t26)) (fun _ w_7 => 
   condS t27
    (rd Tryz.prog (Instr.loadAt 92 t8) (fun t30 => 
    pur Tryz.prog (Instr.fieldAt 230 t7 1) fun t31 => 
    rd Tryz.prog (Instr.loadAt 3 t31) (fun t32 => 
    pur Tryz.prog (Instr.build 230 #[(0, t30), (1, t32)]) fun t33 => 
    act Tryz.prog (Instr.buildSlice 113 1 #[(0, t33)]) (fun t34 w_8 => 
    act Tryz.prog (Builtin.append_ #[113, 113] 113 #[v_out, t34]) (fun t35 w_9 => 
    J_1 t35 w_9) w_8) w_7) w_7) w_7)
    (J_1 v_out w_7)) w_6) w_5) w_4) w_4) w_4) w_3) w_2) w_2)
  (fun v_out_1 w_10 => ∀ _j : Fr, 
   pur Tryz.prog (binS .add 3 false true t17 (.int .i64 1)) fun t36 => 
   J v_out_1 t36 w_10))
   (Q v_out w_2)) [(.slice none 0 0), (.int .i64 0)] w_1) w_1)) w_1) w
theorem eq74 (v_m v_s : Value) (Q : Value → World → Prop) (w : World) : semF Tryz.prog 74 [v_m, v_s] Q w = S74 v_m v_s Q w := by kernel_rfl
theorem ref74 {v_m v_s : Value} {Q : Value → World → Prop} {w : World} (h : S74 v_m v_s Q w) : callS Tryz.prog 74 #[v_m, v_s] Q w :=
  callS_of mix (fun a w => Tryz.call74 a w) (by kernel_rfl) (by rw [eq74]; exact h)
-- (*commons/imap.Map[int]).Get
def S77 (v_m v_block : Value) (Q : Value → World → Prop) (w : World) : Prop :=
 rd Tryz.prog (binS .eql 109 false true v_m (.pointer none)) (fun t10 => 
 condS t10
  (Q (.tuple #[(.int .i64 0), (.bool false)]) w)
  (pur Tryz.prog (nilV v_m) fun t13 => 
 pur Tryz.prog (Instr.fieldAt 115 t13 0) fun t14 => 
 rd Tryz.prog (Instr.loadAt 113 t14) (fun t15 => 
 pur Tryz.prog (Builtin.len_ #[113] 3 #[t15]) fun t16 => 
 lp 1 (fun J => fun t17 w_1 => ∀ _j : Fr, 
  pur Tryz.prog (binS .lss 3 false false t17 t16) fun t18 => 
  condS t18
   (pur Tryz.prog (Instr.indexAt 113 t15 t17) fun t19 => 
  rd Tryz.prog (Instr.loadAt 230 t19) (fun t20 => 
  act Tryz.prog (Instr.alloc 230 true (.tuple #[])) (fun t8 w_2 => 
  act Tryz.prog (thenU (Instr.storeAt 230 t8 t20)) (fun _ w_3 => 
  pur Tryz.prog (Instr.fieldAt 230 t8 0) fun t21 => 
  rd Tryz.prog (Instr.loadAt 92 t21) (fun t22 => 
  callS Tryz.prog 47 #[t22, v_block] (fun t24 w_4 => 
  condS t24
   (pur Tryz.prog (Instr.fieldAt 230 t8 1) fun t25 => 
   rd Tryz.prog (Instr.loadAt 3 t25) (fun t26 => 
   Q (.tuple #[t26, (.bool true)]) w_4) w_4)
   (pur Tryz.prog (binS .add 3 false true t17 (.int .i64 1)) fun t27 => 
  J t27 w_4)) w_3) w_3) w_2) w_1) w_1)
   (Q (.tuple #[(.int .i64 0), (.bool false)]) w_1)) [(.int .i64 0)] w) w)) w
theorem eq77 (v_m v_block : Value) (Q : Value → World → Prop) (w : World) : semF Tryz.prog 77 [v_m, v_block] Q w = S77 v_m v_block Q w := by kernel_rfl
theorem ref77 {v_m v_block : Value} {Q : Value → World → Prop} {w : World} (h : S77 v_m v_block Q w) : callS Tryz.prog 77 #[v_m, v_block] Q w :=
  callS_of mix (fun a w => Tryz.call77 a w) (by kernel_rfl) (by rw [eq77]; exact h)
-- commons/mode.Norm
def S85 (v_l : Value) (Q : Value → World → Prop) (w : World) : Prop :=
 callS Tryz.prog 205 #[v_l] (fun t4 w_1 => 
 callS Tryz.prog 204 #[t4] (fun t5 w_2 => 
 Q t5 w_2) w_1) w
theorem eq85 (v_l : Value) (Q : Value → World → Prop) (w : World) : semF Tryz.prog 85 [v_l] Q w = S85 v_l Q w := by kernel_rfl
theorem ref85 {v_l : Value} {Q : Value → World → Prop} {w : World} (h : S85 v_l Q w) : callS Tryz.prog 85 #[v_l] Q w :=
  callS_of mix (fun a w => Tryz.call85 a w) (by kernel_rfl) (by rw [eq85]; exact h)
-- commons/commonslaw24.alive
def S94 (Q : Value → World → Prop) (w : World) : Prop :=
 callS Tryz.prog 100 #[] (fun t10 w_1 => 
 pur Tryz.prog (Instr.build 92 #[(1, (.int .i64 5))]) fun t11 => 
 pur Tryz.prog (Instr.build 148 #[(0, t11), (1, (.int .i64 1))]) fun t12 => 
 act Tryz.prog (Instr.buildSlice 129 1 #[(0, t12)]) (fun t13 w_2 => 
 callS Tryz.prog 95 #[t10, t13] (fun t14 w_3 => 
 pur Tryz.prog (Instr.extract t14 0) fun t15 => 
 pur Tryz.prog (Instr.extract t14 1) fun t16 => 
 pur Tryz.prog (binS .neq 144 false true t16 (.int .i64 0)) fun t18 => 
 gd t18 false (fun k w_4 => k t15 w_4) (fun t20_1 w_5 => 
 gd t18 false (fun k_1 w_6 => rd Tryz.prog (binS .eql 143 false true t20_1 (.pointer none)) (fun t21 => k_1 t21 w_6) w_6) (fun t21_1 w_7 => 
 pur Tryz.prog (pickS t18 (.bool true) t21_1) fun t22 => 
 gd t22 false (fun k_2 w_8 => k_2 t15 w_8) (fun t24_1 w_9 => 
 gd t22 false (fun k_3 w_10 => callS Tryz.prog 97 #[t24_1, (.int .i64 3), (.string ⟨#[120]⟩)] (fun t25 w_11 => k_3 t25 w_11) w_10) (fun t25_1 w_12 => 
 gd t22 false (fun k_4 w_13 => pur Tryz.prog (binS .neq 144 false true t25_1 (.int .i64 13)) fun t26 => k_4 t26 w_13) (fun t26_1 w_14 => 
 pur Tryz.prog (pickS t22 (.bool true) t26_1) fun t27 => 
 condS t27
  (Q (.bool false) w_14)
  (callS Tryz.prog 108 #[t15, (.int .i64 3)] (fun t30 w_15 => 
 pur Tryz.prog (Instr.extract t30 0) fun t31 => 
 pur Tryz.prog (Instr.extract t30 1) fun t32 => 
 act Tryz.prog (Instr.alloc 148 true (.tuple #[])) (fun t3 w_16 => 
 act Tryz.prog (thenU (Instr.storeAt 148 t3 t31)) (fun _ w_17 => 
 callS Tryz.prog 109 #[t15, (.int .i64 3)] (fun t34 w_18 => 
 callS Tryz.prog 97 #[t15, (.int .i64 3), (.string ⟨#[120]⟩)] (fun t36 w_19 => 
 callS Tryz.prog 102 #[t15, (.int .i64 3)] (fun t39 w_20 => 
 pur Tryz.prog (Instr.extract t39 0) fun t40 => 
 pur Tryz.prog (Instr.extract t39 1) fun t41 => 
 gd t32 true (fun k_5 w_21 => rd Tryz.prog (Instr.loadAt 148 t3) (fun t44 => k_5 t44 w_21) w_21) (fun t44_1 w_22 => 
 gd t32 true (fun k_6 w_23 => pur Tryz.prog (Instr.build 92 #[(0, (.int .i64 3)), (1, (.int .i64 4))]) fun t45 => k_6 t45 w_23) (fun t45_1 w_24 => 
 gd t32 true (fun k_7 w_25 => pur Tryz.prog (Instr.build 148 #[(0, t45_1), (1, (.int .i64 2))]) fun t46 => k_7 t46 w_25) (fun t46_1 w_26 => 
 gd t32 true (fun k_8 w_27 => rd Tryz.prog (binS .eql 148 false false t44_1 t46_1) (fun t47 => k_8 t47 w_27) w_27) (fun t47_1 w_28 => 
 pur Tryz.prog (pickS t32 t47_1 (.bool false)) fun t48 => 
 gd t48 true (fun k_9 w_29 => k_9 t34 w_29) (fun t50_1 w_30 => 
 pur Tryz.prog (pickS t48 t50_1 (.bool false)) fun t51 => 
 gd t51 true (fun k_10 w_31 => k_10 t36 w_31) (fun t53_1 w_32 => 
 gd t51 true (fun k_11 w_33 => pur Tryz.prog (binS .eql 144 false true t53_1 (.int .i64 0)) fun t54 => k_11 t54 w_33) (fun t54_1 w_34 => 
 pur Tryz.prog (pickS t51 t54_1 (.bool false)) fun t55 => 
 gd t55 true (fun k_12 w_35 => k_12 t41 w_35) (fun t57_1 w_36 => 
 pur Tryz.prog (pickS t55 t57_1 (.bool false)) fun t58 => 
 gd t58 true (fun k_13 w_37 => k_13 t40 w_37) (fun t60_1 w_38 => 
 gd t58 true (fun k_14 w_39 => pur Tryz.prog (Builtin.len_ #[9] 3 #[t60_1]) fun t61 => k_14 t61 w_39) (fun t61_1 w_40 => 
 gd t58 true (fun k_15 w_41 => pur Tryz.prog (binS .eql 3 false true t61_1 (.int .i64 96)) fun t62 => k_15 t62 w_41) (fun t62_1 w_42 => 
 pur Tryz.prog (pickS t58 t62_1 (.bool false)) fun t63 => 
 gd t63 true (fun k_16 w_43 => k_16 t40 w_43) (fun t65_1 w_44 => 
 gd t63 true (fun k_17 w_45 => pur Tryz.prog (Instr.index 9 t65_1 (.int .i64 0)) fun t66 => k_17 t66 w_45) (fun t66_1 w_46 => 
 gd t63 true (fun k_18 w_47 => pur Tryz.prog (binS .eql 5 false true t66_1 (.int .u8 120)) fun t67 => k_18 t67 w_47) (fun t67_1 w_48 => 
 pur Tryz.prog (pickS t63 t67_1 (.bool false)) fun t68 => 
 Q t68 w_48) w_46) w_44) w_42) w_40) w_38) w_36) w_34) w_32) w_30) w_28) w_26) w_24) w_22) w_20) w_19) w_18) w_17) w_16) w_15) w_14)) w_12) w_9) w_7) w_5) w_3) w_2) w_1) w
theorem eq94 (Q : Value → World → Prop) (w : World) : semF Tryz.prog 94 [] Q w = S94 Q w := by kernel_rfl
theorem ref94 {Q : Value → World → Prop} {w : World} (h : S94 Q w) : callS Tryz.prog 94 #[] Q w :=
  callS_of mix (fun a w => Tryz.call94 a w) (by kernel_rfl) (by rw [eq94]; exact h)
-- commons/tx.New
def S95 (v_s v_l : Value) (Q : Value → World → Prop) (w : World) : Prop :=
 act Tryz.prog (Instr.box 142 v_s) (fun t2 w_1 => 
 rd Tryz.prog (Instr.loadAt 142 t2) (fun t10 => 
 callS Tryz.prog 105 #[t10, v_l] (fun t12 w_2 => 
 pur Tryz.prog (binS .neq 144 false true t12 (.int .i64 0)) fun t14 => 
 condS t14
  (Q (.tuple #[(.pointer none), t12]) w_2)
  (jn 1 (fun J => 
  ∃ S : World → Prop, S (World.drew w_2) ∧ 
 hld Tryz.prog S (Instr.loadAt 142 t2) fun t16 => 
  (callS Tryz.prog 66 #[] (fun t17 w_3 => S w_3 ∧ 
  (act Tryz.prog (Instr.makeMap 177 none) (fun t18 w_4 => S w_4 ∧ 
  act Tryz.prog (Instr.makeMap 177 none) (fun t19 w_5 => S w_5 ∧ 
  pur Tryz.prog (Instr.build 179 #[(0, t16), (1, t17), (2, t18), (3, t19)]) fun t20 => 
  act Tryz.prog (Instr.box 179 t20) (fun t21 w_6 => S w_6 ∧ 
  J t21 w_6) w_5) w_4) w_3
  ) ∧ (act Tryz.prog (Instr.makeMap 177 none) (fun t19_1 w_7 => S w_7 ∧ 
  act Tryz.prog (Instr.makeMap 177 none) (fun t18_1 w_8 => S w_8 ∧ 
  pur Tryz.prog (Instr.build 179 #[(0, t16), (1, t17), (2, t18_1), (3, t19_1)]) fun t20_1 => 
  act Tryz.prog (Instr.box 179 t20_1) (fun t21_1 w_9 => S w_9 ∧ 
  J t21_1 w_9) w_8) w_7) w_3)) (World.drew w_2)
  ) ∧ (act Tryz.prog (Instr.makeMap 177 none) (fun t18_2 w_10 => S w_10 ∧ 
  (callS Tryz.prog 66 #[] (fun t17_1 w_11 => S w_11 ∧ 
  act Tryz.prog (Instr.makeMap 177 none) (fun t19_2 w_12 => S w_12 ∧ 
  pur Tryz.prog (Instr.build 179 #[(0, t16), (1, t17_1), (2, t18_2), (3, t19_2)]) fun t20_2 => 
  act Tryz.prog (Instr.box 179 t20_2) (fun t21_2 w_13 => S w_13 ∧ 
  J t21_2 w_13) w_12) w_11) w_10
  ) ∧ (act Tryz.prog (Instr.makeMap 177 none) (fun t19_3 w_14 => S w_14 ∧ 
  callS Tryz.prog 66 #[] (fun t17_2 w_15 => S w_15 ∧ 
  pur Tryz.prog (Instr.build 179 #[(0, t16), (1, t17_2), (2, t18_2), (3, t19_3)]) fun t20_3 => 
  act Tryz.prog (Instr.box 179 t20_3) (fun t21_3 w_16 => S w_16 ∧ 
  J t21_3 w_16) w_15) w_14) w_10)) (World.drew w_2)
  ) ∧ (act Tryz.prog (Instr.makeMap 177 none) (fun t19_4 w_17 => S w_17 ∧ 
  (callS Tryz.prog 66 #[] (fun t17_3 w_18 => S w_18 ∧ 
  act Tryz.prog (Instr.makeMap 177 none) (fun t18_3 w_19 => S w_19 ∧ 
  pur Tryz.prog (Instr.build 179 #[(0, t16), (1, t17_3), (2, t18_3), (3, t19_4)]) fun t20_4 => 
  act Tryz.prog (Instr.box 179 t20_4) (fun t21_4 w_20 => S w_20 ∧ 
  J t21_4 w_20) w_19) w_18) w_17
  ) ∧ (act Tryz.prog (Instr.makeMap 177 none) (fun t18_4 w_21 => S w_21 ∧ 
  callS Tryz.prog 66 #[] (fun t17_4 w_22 => S w_22 ∧ 
  pur Tryz.prog (Instr.build 179 #[(0, t16), (1, t17_4), (2, t18_4), (3, t19_4)]) fun t20_5 => 
  act Tryz.prog (Instr.box 179 t20_5) (fun t21_5 w_23 => S w_23 ∧ 
  J t21_5 w_23) w_22) w_21) w_17)) (World.drew w_2)))
 (fun v_t w_24 => ∀ _j : Fr, 
  callS Tryz.prog 85 #[v_l] (fun t23 w_25 => 
 pur Tryz.prog (Builtin.len_ #[129] 3 #[t23]) fun t24 => 
 lp 1 (fun J_1 => fun t25 w_26 => ∀ _j : Fr, 
  pur Tryz.prog (binS .lss 3 false false t25 t24) fun t26 => 
  condS t26
   (pur Tryz.prog (Instr.indexAt 129 t23 t25) fun t27 => 
  rd Tryz.prog (Instr.loadAt 148 t27) (fun t28 => 
  act Tryz.prog (Instr.alloc 148 true (.tuple #[])) (fun t9 w_27 => 
  act Tryz.prog (thenU (Instr.storeAt 148 t9 t28)) (fun _ w_28 => 
  pur Tryz.prog (nilV v_t) fun t30 => 
  pur Tryz.prog (Instr.fieldAt 179 t30 1) fun t31 => 
  rd Tryz.prog (Instr.loadAt 109 t31) (fun t32 => 
  pur Tryz.prog (Instr.fieldAt 148 t9 0) fun t33 => 
  rd Tryz.prog (Instr.loadAt 92 t33) (fun t34 => 
  pur Tryz.prog (Instr.fieldAt 148 t9 1) fun t35 => 
  rd Tryz.prog (Instr.loadAt 3 t35) (fun t36 => 
  callS Tryz.prog 67 #[t32, t34, t36] (fun _ w_29 => 
  pur Tryz.prog (binS .add 3 false true t25 (.int .i64 1)) fun t38 => 
  J_1 t38 w_29) (World.drew w_28)) (World.drew w_28)) (World.drew w_28)) (World.drew w_28)) w_27) w_26) w_26)
   (Q (.tuple #[v_t, (.int .i64 0)]) w_26)) [(.int .i64 0)] w_25) w_24))) w_1) w_1) w
theorem eq95 (v_s v_l : Value) (Q : Value → World → Prop) (w : World) : semF Tryz.prog 95 [v_s, v_l] Q w = S95 v_s v_l Q w := by kernel_rfl
theorem ref95 {v_s v_l : Value} {Q : Value → World → Prop} {w : World} (h : S95 v_s v_l Q w) : callS Tryz.prog 95 #[v_s, v_l] Q w :=
  callS_of mix (fun a w => Tryz.call95 a w) (by kernel_rfl) (by rw [eq95]; exact h)
-- commons/commonsref8.Most
def S96 (v_log : Value) (Q : Value → World → Prop) (w : World) : Prop :=
 lp 2 (fun J => fun v_most v_n w_1 => ∀ _j : Fr, 
  pur Tryz.prog (binS .leq 3 false true v_n (.int .i64 60)) fun t6 => 
  gd t6 true (fun k w_2 => k v_log w_2) (fun t8_1 w_3 => 
  gd t6 true (fun k_1 w_4 => pur Tryz.prog (binS .geq 3 false true t8_1 (.int .i64 1)) fun t9 => k_1 t9 w_4) (fun t9_1 w_5 => 
  pur Tryz.prog (pickS t6 t9_1 (.bool false)) fun t10 => 
  gd t10 true (fun k_2 w_6 => k_2 v_log w_6) (fun t12_1 w_7 => 
  gd t10 true (fun k_3 w_8 => pur Tryz.prog (binS .leq 3 false true t12_1 (.int .i64 100000)) fun t13 => k_3 t13 w_8) (fun t13_1 w_9 => 
  pur Tryz.prog (pickS t10 t13_1 (.bool false)) fun t14 => 
  condS t14
   (jn 1 (fun J_1 => 
   callS Tryz.prog 208 #[v_n] (fun t18 w_10 => 
   pur Tryz.prog (binS .sub 3 false true v_log (.int .i64 1)) fun t20 => 
   pur Tryz.prog (binS .quo 3 false true t20 (.int .i64 2)) fun t21 => 
   pur Tryz.prog (binS .leq 3 false false t18 t21) fun t22 => 
   condS t22
    (J_1 v_n w_10)
    (J_1 v_most w_10)) w_9)
  (fun v_most_1 w_11 => ∀ _j : Fr, 
   pur Tryz.prog (binS .add 3 false true v_n (.int .i64 1)) fun t16 => 
   J v_most_1 t16 w_11))
   (Q v_most w_9)) w_7) w_5) w_3) w_1) [(.int .i64 0), (.int .i64 1)] w
theorem eq96 (v_log : Value) (Q : Value → World → Prop) (w : World) : semF Tryz.prog 96 [v_log] Q w = S96 v_log Q w := by kernel_rfl
theorem ref96 {v_log : Value} {Q : Value → World → Prop} {w : World} (h : S96 v_log Q w) : callS Tryz.prog 96 #[v_log] Q w :=
  callS_of mix (fun a w => Tryz.call96 a w) (by kernel_rfl) (by rw [eq96]; exact h)
-- (*commons/tx.Tx).Write
def S97 (v_t v_at v_data : Value) (Q : Value → World → Prop) (w : World) : Prop :=
 callS Tryz.prog 113 #[v_t, v_at] (fun t16 w_1 => 
 pur Tryz.prog (binS .neq 144 false true t16 (.int .i64 0)) fun t18 => 
 condS t18
  (Q t16 w_1)
  (callS Tryz.prog 209 #[v_data] (fun t22 w_2 => 
 pur Tryz.prog (Instr.extract t22 0) fun t23 => 
 pur Tryz.prog (Instr.extract t22 1) fun t24 => 
 pur Tryz.prog (binS .neq 144 false true t24 (.int .i64 0)) fun t26 => 
 condS t26
  (Q t24 w_2)
  (pur Tryz.prog (nilV v_t) fun t30 => 
 pur Tryz.prog (Instr.fieldAt 179 t30 1) fun t31 => 
 rd Tryz.prog (Instr.loadAt 109 t31) (fun t32 => 
 callS Tryz.prog 77 #[t32, v_at] (fun t34 w_3 => 
 pur Tryz.prog (Instr.extract t34 0) fun t35 => 
 pur Tryz.prog (Instr.extract t34 1) fun _ => 
 pur Tryz.prog (binS .neq 3 false true t35 (.int .i64 2)) fun t38 => 
 condS t38
  (Q (.int .i64 13) w_3)
  (pur Tryz.prog (nilV v_t) fun t41 => 
 pur Tryz.prog (Instr.fieldAt 179 t41 2) fun t42 => 
 rd Tryz.prog (Instr.loadAt 177 t42) (fun t43 => 
 rd Tryz.prog (Instr.lookup 177 t43 v_at true) (fun t45 => 
 pur Tryz.prog (Instr.extract t45 0) fun _ => 
 pur Tryz.prog (Instr.extract t45 1) fun t47 => 
 ∃ S : World → Prop, S (World.drew w_3) ∧ 
 pur Tryz.prog (Op.unary .not t47) fun t49 => 
 gd t49 true (fun k w_4 => k v_t w_4) (fun t51_1 w_5 => 
 gd t49 true (fun k_1 w_6 => pur Tryz.prog (nilV t51_1) fun t52 => k_1 t52 w_6) (fun t52_1 w_7 => 
 gd t49 true (fun k_2 w_8 => pur Tryz.prog (Instr.fieldAt 179 t52_1 2) fun t53 => k_2 t53 w_8) (fun t53_1 w_9 => 
 gd t49 true (fun k_3 w_10 => hld Tryz.prog S (Instr.loadAt 177 t53_1) fun t54 => k_3 t54 w_10) (fun t54_1 w_11 => 
 gd t49 true (fun k_4 w_12 => hld Tryz.prog S (Builtin.len_ #[177] 3 #[t54_1]) fun t55 => k_4 t55 w_12) (fun t55_1 w_13 => 
 gd t49 true (fun k_5 w_14 => k_5 v_t w_14) (fun t56_1 w_15 => 
 gd t49 true (fun k_6 w_16 => pur Tryz.prog (nilV t56_1) fun t57 => k_6 t57 w_16) (fun t57_1 w_17 => 
 gd t49 true (fun k_7 w_18 => pur Tryz.prog (Instr.fieldAt 179 t57_1 0) fun t58 => k_7 t58 w_18) (fun t58_1 w_19 => 
 gd t49 true (fun k_8 w_20 => pur Tryz.prog (Instr.fieldAt 142 t58_1 2) fun t59 => k_8 t59 w_20) (fun t59_1 w_21 => 
 gd t49 true (fun k_9 w_22 => hld Tryz.prog S (Instr.loadAt 3 t59_1) fun t60 => k_9 t60 w_22) (fun t60_1 w_23 => 
 gd t49 true (fun k_10 w_24 => callS Tryz.prog 210 #[t60_1] (fun t61 w_25 => S w_25 ∧ k_10 t61 w_25) w_24) (fun t61_1 w_26 => 
 gd t49 true (fun k_11 w_27 => k_11 v_t w_27) (fun t62_1 w_28 => 
 gd t49 true (fun k_12 w_29 => pur Tryz.prog (nilV t62_1) fun t63 => k_12 t63 w_29) (fun t63_1 w_30 => 
 gd t49 true (fun k_13 w_31 => pur Tryz.prog (Instr.fieldAt 179 t63_1 0) fun t64 => k_13 t64 w_31) (fun t64_1 w_32 => 
 gd t49 true (fun k_14 w_33 => pur Tryz.prog (Instr.fieldAt 142 t64_1 3) fun t65 => k_14 t65 w_33) (fun t65_1 w_34 => 
 gd t49 true (fun k_15 w_35 => hld Tryz.prog S (Instr.loadAt 3 t65_1) fun t66 => k_15 t66 w_35) (fun t66_1 w_36 => 
 gd t49 true (fun k_16 w_37 => pur Tryz.prog (Builtin.min_ #[3, 3] 3 #[t61_1, t66_1]) fun t67 => k_16 t67 w_37) (fun t67_1 w_38 => 
 gd t49 true (fun k_17 w_39 => pur Tryz.prog (binS .geq 3 false false t55_1 t67_1) fun t68 => k_17 t68 w_39) (fun t68_1 w_40 => 
 pur Tryz.prog (pickS t49 t68_1 (.bool false)) fun t69 => 
 condS t69
  (Q (.int .i64 31) w_40)
  (pur Tryz.prog (nilV v_t) fun t71 => 
 pur Tryz.prog (Instr.fieldAt 179 t71 2) fun t72 => 
 rd Tryz.prog (Instr.loadAt 177 t72) (fun t73 => 
 act Tryz.prog (thenU (Instr.mapUpdate 177 t73 v_at t23)) (fun _ w_41 => 
 Q (.int .i64 0) w_41) w_40) w_40)) w_38) w_36) w_34) w_32) w_30) w_28) w_26) w_23) w_21) w_19) w_17) w_15) w_13) w_11) w_9) w_7) w_5) (World.drew w_3)) w_3) w_3)) w_2) w_2)) w_1)) w
theorem eq97 (v_t v_at v_data : Value) (Q : Value → World → Prop) (w : World) : semF Tryz.prog 97 [v_t, v_at, v_data] Q w = S97 v_t v_at v_data Q w := by kernel_rfl
theorem ref97 {v_t v_at v_data : Value} {Q : Value → World → Prop} {w : World} (h : S97 v_t v_at v_data Q w) : callS Tryz.prog 97 #[v_t, v_at, v_data] Q w :=
  callS_of mix (fun a w => Tryz.call97 a w) (by kernel_rfl) (by rw [eq97]; exact h)
-- (*commons/tx.Tx).Blocks
def S98 (v_t : Value) (Q : Value → World → Prop) (w : World) : Prop :=
 callS Tryz.prog 211 #[v_t] (fun t4 w_1 => 
 condS t4
  (Q (.int .i64 0) w_1)
  (pur Tryz.prog (nilV v_t) fun t6 => 
 pur Tryz.prog (Instr.fieldAt 179 t6 2) fun t7 => 
 rd Tryz.prog (Instr.loadAt 177 t7) (fun t8 => 
 rd Tryz.prog (Builtin.len_ #[177] 3 #[t8]) (fun t9 => 
 Q t9 w_1) w_1) w_1)) w
theorem eq98 (v_t : Value) (Q : Value → World → Prop) (w : World) : semF Tryz.prog 98 [v_t] Q w = S98 v_t Q w := by kernel_rfl
theorem ref98 {v_t : Value} {Q : Value → World → Prop} {w : World} (h : S98 v_t Q w) : callS Tryz.prog 98 #[v_t] Q w :=
  callS_of mix (fun a w => Tryz.call98 a w) (by kernel_rfl) (by rw [eq98]; exact h)
-- (*commons/tx.Tx).Writes
def S99 (v_t : Value) (Q : Value → World → Prop) (w : World) : Prop :=
 callS Tryz.prog 211 #[v_t] (fun t4 w_1 => 
 condS t4
  (Q (.slice none 0 0) w_1)
  (pur Tryz.prog (nilV v_t) fun t6 => 
 pur Tryz.prog (Instr.fieldAt 179 t6 2) fun t7 => 
 rd Tryz.prog (Instr.loadAt 177 t7) (fun t8 => 
 callS Tryz.prog 212 #[t8] (fun t9 w_2 => 
 Q t9 w_2) w_1) w_1)) w
theorem eq99 (v_t : Value) (Q : Value → World → Prop) (w : World) : semF Tryz.prog 99 [v_t] Q w = S99 v_t Q w := by kernel_rfl
theorem ref99 {v_t : Value} {Q : Value → World → Prop} {w : World} (h : S99 v_t Q w) : callS Tryz.prog 99 #[v_t] Q w :=
  callS_of mix (fun a w => Tryz.call99 a w) (by kernel_rfl) (by rw [eq99]; exact h)
-- commons/commonslaw9.Shape
def S100 (Q : Value → World → Prop) (w : World) : Prop :=
 act Tryz.prog (Instr.alloc 142 true (.tuple #[])) (fun t0 w_1 => 
 pur Tryz.prog (Instr.build 142 #[(0, (.int .i64 2)), (1, (.int .i64 10)), (2, (.int .i64 8)), (3, (.int .i64 4)), (4, (.int .i64 32))]) fun t1 => 
 act Tryz.prog (thenU (Instr.storeAt 142 t0 t1)) (fun _ w_2 => 
 rd Tryz.prog (resL 142 t0) (fun r => Q r w_2) w_2) w_1) w
theorem eq100 (Q : Value → World → Prop) (w : World) : semF Tryz.prog 100 [] Q w = S100 Q w := by kernel_rfl
theorem ref100 {Q : Value → World → Prop} {w : World} (h : S100 Q w) : callS Tryz.prog 100 #[] Q w :=
  callS_of mix (fun a w => Tryz.call100 a w) (by kernel_rfl) (by rw [eq100]; exact h)
-- (*commons/tx.Tx).Mark
def S101 (v_t v_at v_data : Value) (Q : Value → World → Prop) (w : World) : Prop :=
 callS Tryz.prog 211 #[v_t] (fun t9 w_1 => 
 condS t9
  (Q (.tuple #[]) w_1)
  (pur Tryz.prog (nilV v_t) fun t12 => 
 pur Tryz.prog (Instr.fieldAt 179 t12 3) fun t13 => 
 rd Tryz.prog (Instr.loadAt 177 t13) (fun t14 => 
 rd Tryz.prog (Instr.lookup 177 t14 v_at true) (fun t16 => 
 pur Tryz.prog (Instr.extract t16 0) fun _ => 
 pur Tryz.prog (Instr.extract t16 1) fun t18 => 
 pur Tryz.prog (Op.unary .not t18) fun t20 => 
 condS t20
  (jn 0 (fun J => 
   pur Tryz.prog (nilV v_t) fun t22 => 
   pur Tryz.prog (Instr.fieldAt 179 t22 3) fun t23 => 
   (rd Tryz.prog (Instr.loadAt 177 t23) (fun t24 => 
   callS Tryz.prog 213 #[v_data] (fun t27 w_2 => 
   act Tryz.prog (thenU (Instr.mapUpdate 177 t24 v_at t27)) (fun _ w_3 => 
   J  w_3) w_2) (World.drew w_1)) (World.drew w_1)
   ) ∧ (callS Tryz.prog 213 #[v_data] (fun t27_1 w_4 => 
   rd Tryz.prog (Instr.loadAt 177 t23) (fun t24_1 => 
   act Tryz.prog (thenU (Instr.mapUpdate 177 t24_1 v_at t27_1)) (fun _ w_5 => 
   J  w_5) w_4) w_4) (World.drew w_1)))
  (fun  w_6 => ∀ _j : Fr, 
   Q (.tuple #[]) w_6))
  (Q (.tuple #[]) w_1)) w_1) w_1)) w
theorem eq101 (v_t v_at v_data : Value) (Q : Value → World → Prop) (w : World) : semF Tryz.prog 101 [v_t, v_at, v_data] Q w = S101 v_t v_at v_data Q w := by kernel_rfl
theorem ref101 {v_t v_at v_data : Value} {Q : Value → World → Prop} {w : World} (h : S101 v_t v_at v_data Q w) : callS Tryz.prog 101 #[v_t, v_at, v_data] Q w :=
  callS_of mix (fun a w => Tryz.call101 a w) (by kernel_rfl) (by rw [eq101]; exact h)
-- (*commons/tx.Tx).Wrote
def S102 (v_t v_at : Value) (Q : Value → World → Prop) (w : World) : Prop :=
 callS Tryz.prog 211 #[v_t] (fun t9 w_1 => 
 condS t9
  (Q (.tuple #[(.string ⟨#[]⟩), (.bool false)]) w_1)
  (pur Tryz.prog (nilV v_t) fun t12 => 
 pur Tryz.prog (Instr.fieldAt 179 t12 2) fun t13 => 
 rd Tryz.prog (Instr.loadAt 177 t13) (fun t14 => 
 rd Tryz.prog (Instr.lookup 177 t14 v_at true) (fun t16 => 
 pur Tryz.prog (Instr.extract t16 0) fun t17 => 
 pur Tryz.prog (Instr.extract t16 1) fun t18 => 
 Q (.tuple #[t17, t18]) w_1) w_1) w_1)) w
theorem eq102 (v_t v_at : Value) (Q : Value → World → Prop) (w : World) : semF Tryz.prog 102 [v_t, v_at] Q w = S102 v_t v_at Q w := by kernel_rfl
theorem ref102 {v_t v_at : Value} {Q : Value → World → Prop} {w : World} (h : S102 v_t v_at Q w) : callS Tryz.prog 102 #[v_t, v_at] Q w :=
  callS_of mix (fun a w => Tryz.call102 a w) (by kernel_rfl) (by rw [eq102]; exact h)
-- (*commons/tx.Tx).Reads
def S103 (v_t : Value) (Q : Value → World → Prop) (w : World) : Prop :=
 callS Tryz.prog 211 #[v_t] (fun t4 w_1 => 
 condS t4
  (Q (.slice none 0 0) w_1)
  (pur Tryz.prog (nilV v_t) fun t6 => 
 pur Tryz.prog (Instr.fieldAt 179 t6 3) fun t7 => 
 rd Tryz.prog (Instr.loadAt 177 t7) (fun t8 => 
 callS Tryz.prog 212 #[t8] (fun t9 w_2 => 
 Q t9 w_2) w_1) w_1)) w
theorem eq103 (v_t : Value) (Q : Value → World → Prop) (w : World) : semF Tryz.prog 103 [v_t] Q w = S103 v_t Q w := by kernel_rfl
theorem ref103 {v_t : Value} {Q : Value → World → Prop} {w : World} (h : S103 v_t Q w) : callS Tryz.prog 103 #[v_t] Q w :=
  callS_of mix (fun a w => Tryz.call103 a w) (by kernel_rfl) (by rw [eq103]; exact h)
-- commons/tx.Check
def S105 (v_s v_l : Value) (Q : Value → World → Prop) (w : World) : Prop :=
 act Tryz.prog (Instr.box 142 v_s) (fun t2 w_1 => 
 rd Tryz.prog (Instr.loadAt 142 t2) (fun t10 => 
 callS Tryz.prog 215 #[t10] (fun t11 w_2 => 
 pur Tryz.prog (Op.unary .not t11) fun t12 => 
 condS t12
  (Q (.int .i64 1) w_2)
  (pur Tryz.prog (Builtin.len_ #[129] 3 #[v_l]) fun t15 => 
  pur Tryz.prog (binS .eql 3 false true t15 (.int .i64 0)) fun t16 => 
  gd t16 false (fun k w_3 => k v_l w_3) (fun t18_1 w_4 => 
  gd t16 false (fun k_1 w_5 => pur Tryz.prog (Builtin.len_ #[129] 3 #[t18_1]) fun t19 => k_1 t19 w_5) (fun t19_1 w_6 => 
  gd t16 false (fun k_2 w_7 => pur Tryz.prog (binS .gtr 3 false true t19_1 (.int .i64 16)) fun t20 => k_2 t20 w_7) (fun t20_1 w_8 => 
  pur Tryz.prog (pickS t16 (.bool true) t20_1) fun t21 => 
  condS t21
   (Q (.int .i64 2) w_8)
   (pur Tryz.prog (Builtin.len_ #[129] 3 #[v_l]) fun t23 => 
 lp 1 (fun J => fun t24 w_9 => ∀ _j : Fr, 
  pur Tryz.prog (binS .lss 3 false false t24 t23) fun t25 => 
  condS t25
   (pur Tryz.prog (Instr.indexAt 129 v_l t24) fun t26 => 
  rd Tryz.prog (Instr.loadAt 148 t26) (fun t27 => 
  act Tryz.prog (Instr.alloc 148 true (.tuple #[])) (fun t6 w_10 => 
  act Tryz.prog (thenU (Instr.storeAt 148 t6 t27)) (fun _ w_11 => 
  pur Tryz.prog (Instr.fieldAt 148 t6 1) fun t28 => 
  rd Tryz.prog (Instr.loadAt 3 t28) (fun t29 => 
  pur Tryz.prog (binS .neq 3 false true t29 (.int .i64 1)) fun t30 => 
  gd t30 true (fun k_3 w_12 => pur Tryz.prog (Instr.fieldAt 148 t6 1) fun t32 => k_3 t32 w_12) (fun t32_1 w_13 => 
  gd t30 true (fun k_4 w_14 => rd Tryz.prog (Instr.loadAt 3 t32_1) (fun t33 => k_4 t33 w_14) w_14) (fun t33_1 w_15 => 
  gd t30 true (fun k_5 w_16 => pur Tryz.prog (binS .neq 3 false true t33_1 (.int .i64 2)) fun t34 => k_5 t34 w_16) (fun t34_1 w_17 => 
  pur Tryz.prog (pickS t30 t34_1 (.bool false)) fun t35 => 
  condS t35
   (Q (.int .i64 1) w_17)
   (pur Tryz.prog (binS .add 3 false true t24 (.int .i64 1)) fun t36 => 
  J t36 w_17)) w_15) w_13) w_11) w_11) w_10) w_9) w_9)
   (pur Tryz.prog (Builtin.len_ #[129] 3 #[v_l]) fun t38 => 
 lp 1 (fun J_1 => fun t39 w_18 => ∀ _j : Fr, 
  pur Tryz.prog (binS .lss 3 false false t39 t38) fun t40 => 
  condS t40
   (pur Tryz.prog (Instr.indexAt 129 v_l t39) fun t41 => 
  rd Tryz.prog (Instr.loadAt 148 t41) (fun t42 => 
  act Tryz.prog (Instr.alloc 148 true (.tuple #[])) (fun t8 w_19 => 
  act Tryz.prog (thenU (Instr.storeAt 148 t8 t42)) (fun _ w_20 => 
  pur Tryz.prog (Instr.fieldAt 148 t8 0) fun t43 => 
  rd Tryz.prog (Instr.loadAt 92 t43) (fun t44 => 
  callS Tryz.prog 45 #[t44] (fun t45 w_21 => 
  pur Tryz.prog (Op.unary .not t45) fun t46 => 
  gd t46 false (fun k_6 w_22 => pur Tryz.prog (Instr.fieldAt 148 t8 0) fun t48 => k_6 t48 w_22) (fun t48_1 w_23 => 
  gd t46 false (fun k_7 w_24 => pur Tryz.prog (Instr.fieldAt 92 t48_1 1) fun t49 => k_7 t49 w_24) (fun t49_1 w_25 => 
  gd t46 false (fun k_8 w_26 => rd Tryz.prog (Instr.loadAt 3 t49_1) (fun t50 => k_8 t50 w_26) w_26) (fun t50_1 w_27 => 
  gd t46 false (fun k_9 w_28 => pur Tryz.prog (Instr.fieldAt 142 t2 1) fun t51 => k_9 t51 w_28) (fun t51_1 w_29 => 
  gd t46 false (fun k_10 w_30 => rd Tryz.prog (Instr.loadAt 3 t51_1) (fun t52 => k_10 t52 w_30) w_30) (fun t52_1 w_31 => 
  gd t46 false (fun k_11 w_32 => pur Tryz.prog (binS .gtr 3 false false t50_1 t52_1) fun t53 => k_11 t53 w_32) (fun t53_1 w_33 => 
  pur Tryz.prog (pickS t46 (.bool true) t53_1) fun t54 => 
  condS t54
   (Q (.int .i64 30) w_33)
   (pur Tryz.prog (binS .add 3 false true t39 (.int .i64 1)) fun t55 => 
  J_1 t55 w_33)) w_31) w_29) w_27) w_25) w_23) w_21) w_20) w_20) w_19) w_18) w_18)
   (Q (.int .i64 0) w_18)) [(.int .i64 0)] w_9)) [(.int .i64 0)] w_8)) w_6) w_4) w_2)) w_1) w_1) w
theorem eq105 (v_s v_l : Value) (Q : Value → World → Prop) (w : World) : semF Tryz.prog 105 [v_s, v_l] Q w = S105 v_s v_l Q w := by kernel_rfl
theorem ref105 {v_s v_l : Value} {Q : Value → World → Prop} {w : World} (h : S105 v_s v_l Q w) : callS Tryz.prog 105 #[v_s, v_l] Q w :=
  callS_of mix (fun a w => Tryz.call105 a w) (by kernel_rfl) (by rw [eq105]; exact h)
-- (*commons/tx.Tx).Needs
def S108 (v_t v_at : Value) (Q : Value → World → Prop) (w : World) : Prop :=
 act Tryz.prog (Instr.alloc 148 true (.tuple #[])) (fun t4 w_1 => 
 callS Tryz.prog 211 #[v_t] (fun t9 w_2 => 
 condS t9
  (pur Tryz.prog (Instr.build 148 #[]) fun t10 => 
  act Tryz.prog (thenU (Instr.storeAt 148 t4 t10)) (fun _ w_3 => 
  rd Tryz.prog (resL 148 t4) (fun r => Q (.tuple #[r, (.bool false)]) w_3) w_3) w_2)
  (pur Tryz.prog (nilV v_t) fun t13 => 
 pur Tryz.prog (Instr.fieldAt 179 t13 1) fun t14 => 
 rd Tryz.prog (Instr.loadAt 109 t14) (fun t15 => 
 callS Tryz.prog 77 #[t15, v_at] (fun t17 w_4 => 
 pur Tryz.prog (Instr.extract t17 0) fun t18 => 
 pur Tryz.prog (Instr.extract t17 1) fun _ => 
 pur Tryz.prog (binS .neq 3 false true t18 (.int .i64 1)) fun t21 => 
 condS t21
  (pur Tryz.prog (Instr.build 148 #[]) fun t22 => 
  act Tryz.prog (thenU (Instr.storeAt 148 t4 t22)) (fun _ w_5 => 
  rd Tryz.prog (resL 148 t4) (fun r_1 => Q (.tuple #[r_1, (.bool false)]) w_5) w_5) w_4)
  (pur Tryz.prog (binS .add 3 false true v_at (.int .i64 1)) fun t25 => 
 pur Tryz.prog (Instr.build 92 #[(0, v_at), (1, t25)]) fun t26 => 
 pur Tryz.prog (Instr.build 148 #[(0, t26), (1, (.int .i64 2))]) fun t27 => 
 act Tryz.prog (thenU (Instr.storeAt 148 t4 t27)) (fun _ w_6 => 
 rd Tryz.prog (resL 148 t4) (fun r_2 => Q (.tuple #[r_2, (.bool true)]) w_6) w_6) w_4)) w_2) w_2)) w_1) w
theorem eq108 (v_t v_at : Value) (Q : Value → World → Prop) (w : World) : semF Tryz.prog 108 [v_t, v_at] Q w = S108 v_t v_at Q w := by kernel_rfl
theorem ref108 {v_t v_at : Value} {Q : Value → World → Prop} {w : World} (h : S108 v_t v_at Q w) : callS Tryz.prog 108 #[v_t, v_at] Q w :=
  callS_of mix (fun a w => Tryz.call108 a w) (by kernel_rfl) (by rw [eq108]; exact h)
-- (*commons/tx.Tx).Grow
def S109 (v_t v_at : Value) (Q : Value → World → Prop) (w : World) : Prop :=
 callS Tryz.prog 108 #[v_t, v_at] (fun t10 w_1 => 
 pur Tryz.prog (Instr.extract t10 0) fun t11 => 
 pur Tryz.prog (Instr.extract t10 1) fun t12 => 
 act Tryz.prog (Instr.alloc 148 true (.tuple #[])) (fun t5 w_2 => 
 act Tryz.prog (thenU (Instr.storeAt 148 t5 t11)) (fun _ w_3 => 
 gd t12 true (fun k w_4 => k v_t w_4) (fun t15_1 w_5 => 
 gd t12 true (fun k_1 w_6 => pur Tryz.prog (nilV t15_1) fun t16 => k_1 t16 w_6) (fun t16_1 w_7 => 
 gd t12 true (fun k_2 w_8 => pur Tryz.prog (Instr.fieldAt 179 t16_1 1) fun t17 => k_2 t17 w_8) (fun t17_1 w_9 => 
 gd t12 true (fun k_3 w_10 => rd Tryz.prog (Instr.loadAt 109 t17_1) (fun t18 => k_3 t18 w_10) w_10) (fun t18_1 w_11 => 
 gd t12 true (fun k_4 w_12 => pur Tryz.prog (Instr.fieldAt 148 t5 0) fun t19 => k_4 t19 w_12) (fun t19_1 w_13 => 
 gd t12 true (fun k_5 w_14 => rd Tryz.prog (Instr.loadAt 92 t19_1) (fun t20 => k_5 t20 w_14) w_14) (fun t20_1 w_15 => 
 gd t12 true (fun k_6 w_16 => pur Tryz.prog (Instr.fieldAt 148 t5 1) fun t21 => k_6 t21 w_16) (fun t21_1 w_17 => 
 gd t12 true (fun k_7 w_18 => rd Tryz.prog (Instr.loadAt 3 t21_1) (fun t22 => k_7 t22 w_18) w_18) (fun t22_1 w_19 => 
 gd t12 true (fun k_8 w_20 => callS Tryz.prog 67 #[t18_1, t20_1, t22_1] (fun t23 w_21 => k_8 t23 w_21) w_20) (fun t23_1 w_22 => 
 pur Tryz.prog (pickS t12 t23_1 (.bool false)) fun t24 => 
 Q t24 w_22) w_19) w_17) w_15) w_13) w_11) w_9) w_7) w_5) (World.drew w_3)) w_2) w_1) w
theorem eq109 (v_t v_at : Value) (Q : Value → World → Prop) (w : World) : semF Tryz.prog 109 [v_t, v_at] Q w = S109 v_t v_at Q w := by kernel_rfl
theorem ref109 {v_t v_at : Value} {Q : Value → World → Prop} {w : World} (h : S109 v_t v_at Q w) : callS Tryz.prog 109 #[v_t, v_at] Q w :=
  callS_of mix (fun a w => Tryz.call109 a w) (by kernel_rfl) (by rw [eq109]; exact h)
-- (*commons/tx.Tx).MayRead
def S113 (v_t v_at : Value) (Q : Value → World → Prop) (w : World) : Prop :=
 callS Tryz.prog 211 #[v_t] (fun t8 w_1 => 
 condS t8
  (Q (.int .i64 32) w_1)
  (pur Tryz.prog (nilV v_t) fun t11 => 
 pur Tryz.prog (Instr.fieldAt 179 t11 1) fun t12 => 
 rd Tryz.prog (Instr.loadAt 109 t12) (fun t13 => 
 callS Tryz.prog 77 #[t13, v_at] (fun t15 w_2 => 
 pur Tryz.prog (Instr.extract t15 0) fun _ => 
 pur Tryz.prog (Instr.extract t15 1) fun t17 => 
 pur Tryz.prog (Op.unary .not t17) fun t19 => 
 condS t19
  (Q (.int .i64 30) w_2)
  (Q (.int .i64 0) w_2)) w_1) w_1)) w
theorem eq113 (v_t v_at : Value) (Q : Value → World → Prop) (w : World) : semF Tryz.prog 113 [v_t, v_at] Q w = S113 v_t v_at Q w := by kernel_rfl
theorem ref113 {v_t v_at : Value} {Q : Value → World → Prop} {w : World} (h : S113 v_t v_at Q w) : callS Tryz.prog 113 #[v_t, v_at] Q w :=
  callS_of mix (fun a w => Tryz.call113 a w) (by kernel_rfl) (by rw [eq113]; exact h)
-- slices.DeleteFunc[[]commons/api.Span,commons/api.Span]
def S187 (v_s v_del : Value) (Q : Value → World → Prop) (w : World) : Prop :=
 callS Tryz.prog 246 #[v_s, v_del] (fun t10 w_1 => 
 pur Tryz.prog (binS .eql 3 false true t10 (.int .i64 (-1))) fun t12 => 
 condS t12
  (Q v_s w_1)
  (pur Tryz.prog (binS .add 3 false true t10 (.int .i64 1)) fun t15 => 
 lp 2 (fun J => fun v_i v_j w_2 => ∀ _j : Fr, 
  pur Tryz.prog (Builtin.len_ #[90] 3 #[v_s]) fun t18 => 
  pur Tryz.prog (binS .lss 3 false false v_j t18) fun t19 => 
  condS t19
   (jn 1 (fun J_1 => 
   pur Tryz.prog (Instr.indexAt 90 v_s v_j) fun t24 => 
   rd Tryz.prog (Instr.loadAt 92 t24) (fun t25 => 
   act Tryz.prog (Instr.alloc 92 true (.tuple #[])) (fun t7 w_3 => 
   act Tryz.prog (thenU (Instr.storeAt 92 t7 t25)) (fun _ w_4 => 
   rd Tryz.prog (Instr.loadAt 92 t7) (fun t27 => 
   callF Tryz.prog v_del #[t27] (fun t28 w_5 => 
   pur Tryz.prog (Op.unary .not t28) fun t29 => 
   condS t29
    (rd Tryz.prog (Instr.loadAt 92 t7) (fun t32 => 
    pur Tryz.prog (Instr.indexAt 90 v_s v_i) fun t33 => 
    act Tryz.prog (thenU (Instr.storeAt 92 t33 t32)) (fun _ w_6 => 
    pur Tryz.prog (binS .add 3 false true v_i (.int .i64 1)) fun t35 => 
    J_1 t35 w_6) w_5) w_5)
    (J_1 v_i w_5)) w_4) w_4) w_3) w_2) w_2)
  (fun v_i_1 w_7 => ∀ _j : Fr, 
   pur Tryz.prog (binS .add 3 false true v_j (.int .i64 1)) fun t21 => 
   J v_i_1 t21 w_7))
   (pur Tryz.prog (Instr.sliceAt 90 v_s (some v_i) none none) fun t38 => 
 act Tryz.prog (Builtin.clear_ #[90] 0 #[t38]) (fun _ w_8 => 
 pur Tryz.prog (Instr.sliceAt 90 v_s none (some v_i) none) fun t41 => 
 Q t41 w_8) w_2)) [t10, t15] w_1)) w
theorem eq187 (v_s v_del : Value) (Q : Value → World → Prop) (w : World) : semF Tryz.prog 187 [v_s, v_del] Q w = S187 v_s v_del Q w := by kernel_rfl
theorem ref187 {v_s v_del : Value} {Q : Value → World → Prop} {w : World} (h : S187 v_s v_del Q w) : callS Tryz.prog 187 #[v_s, v_del] Q w :=
  callS_of mix (fun a w => Tryz.call187 a w) (by kernel_rfl) (by rw [eq187]; exact h)
-- slices.Clone[[]commons/api.Span,commons/api.Span]
def S188 (v_s : Value) (Q : Value → World → Prop) (w : World) : Prop :=
 rd Tryz.prog (binS .eql 90 false true v_s (.slice none 0 0)) (fun t4 => 
 condS t4
  (Q (.slice none 0 0) w)
  (act Tryz.prog (Instr.buildSlice 90 0 #[]) (fun t5 w_1 => 
 act Tryz.prog (Builtin.append_ #[90, 90] 90 #[t5, v_s]) (fun t7 w_2 => 
 Q t7 w_2) w_1) w)) w
theorem eq188 (v_s : Value) (Q : Value → World → Prop) (w : World) : semF Tryz.prog 188 [v_s] Q w = S188 v_s Q w := by kernel_rfl
theorem ref188 {v_s : Value} {Q : Value → World → Prop} {w : World} (h : S188 v_s Q w) : callS Tryz.prog 188 #[v_s] Q w :=
  callS_of mix (fun a w => Tryz.call188 a w) (by kernel_rfl) (by rw [eq188]; exact h)
-- commons/span.Norm$1
def S189 (v_s : Value) (Q : Value → World → Prop) (w : World) : Prop :=
 act Tryz.prog (Instr.box 92 v_s) (fun t1 w_1 => 
 rd Tryz.prog (Instr.loadAt 92 t1) (fun t3 => 
 callS Tryz.prog 45 #[t3] (fun t4 w_2 => 
 pur Tryz.prog (Op.unary .not t4) fun t5 => 
 Q t5 w_2) w_1) w_1) w
theorem eq189 (v_s : Value) (Q : Value → World → Prop) (w : World) : semF Tryz.prog 189 [v_s] Q w = S189 v_s Q w := by kernel_rfl
theorem ref189 {v_s : Value} {Q : Value → World → Prop} {w : World} (h : S189 v_s Q w) : callS Tryz.prog 189 #[v_s] Q w :=
  callS_of mix (fun a w => Tryz.call189 a w) (by kernel_rfl) (by rw [eq189]; exact h)
-- slices.SortFunc[[]commons/api.Span,commons/api.Span]
def S190 (v_x v_cmp : Value) (Q : Value → World → Prop) (w : World) : Prop :=
 pur Tryz.prog (Builtin.len_ #[90] 3 #[v_x]) fun t6 => 
 pur Tryz.prog (convert 3 300 t6) fun t10 => 
 callS Tryz.prog 248 #[t10] (fun t11 w_1 => 
 callS Tryz.prog 247 #[v_x, (.int .i64 0), t6, t11, v_cmp] (fun _ w_2 => 
 Q (.tuple #[]) w_2) w_1) w
theorem eq190 (v_x v_cmp : Value) (Q : Value → World → Prop) (w : World) : semF Tryz.prog 190 [v_x, v_cmp] Q w = S190 v_x v_cmp Q w := by kernel_rfl
theorem ref190 {v_x v_cmp : Value} {Q : Value → World → Prop} {w : World} (h : S190 v_x v_cmp Q w) : callS Tryz.prog 190 #[v_x, v_cmp] Q w :=
  callS_of mix (fun a w => Tryz.call190 a w) (by kernel_rfl) (by rw [eq190]; exact h)
-- commons/span.Norm$2
def S191 (v_a v_b : Value) (Q : Value → World → Prop) (w : World) : Prop :=
 act Tryz.prog (Instr.box 92 v_a) (fun t2 w_1 => 
 act Tryz.prog (Instr.box 92 v_b) (fun t3 w_2 => 
 ∃ S : World → Prop, S (World.drew w_2) ∧ 
 pur Tryz.prog (Instr.fieldAt 92 t2 0) fun t5 => 
 hld Tryz.prog S (Instr.loadAt 3 t5) fun t6 => 
 pur Tryz.prog (Instr.fieldAt 92 t3 0) fun t7 => 
 hld Tryz.prog S (Instr.loadAt 3 t7) fun t8 => 
 callS Tryz.prog 193 #[t6, t8] (fun t9 w_3 => S w_3 ∧ 
 pur Tryz.prog (Instr.fieldAt 92 t2 1) fun t10 => 
 hld Tryz.prog S (Instr.loadAt 3 t10) fun t11 => 
 pur Tryz.prog (Instr.fieldAt 92 t3 1) fun t12 => 
 hld Tryz.prog S (Instr.loadAt 3 t12) fun t13 => 
 callS Tryz.prog 193 #[t11, t13] (fun t14 w_4 => S w_4 ∧ 
 act Tryz.prog (Instr.buildSlice 65 2 #[(0, t9), (1, t14)]) (fun t15 w_5 => S w_5 ∧ 
 callS Tryz.prog 192 #[t15] (fun t16 w_6 => S w_6 ∧ 
 Q t16 w_6) w_5) w_4) w_3) (World.drew w_2)) w_1) w
theorem eq191 (v_a v_b : Value) (Q : Value → World → Prop) (w : World) : semF Tryz.prog 191 [v_a, v_b] Q w = S191 v_a v_b Q w := by kernel_rfl
theorem ref191 {v_a v_b : Value} {Q : Value → World → Prop} {w : World} (h : S191 v_a v_b Q w) : callS Tryz.prog 191 #[v_a, v_b] Q w :=
  callS_of mix (fun a w => Tryz.call191 a w) (by kernel_rfl) (by rw [eq191]; exact h)
-- cmp.Or[int]
def S192 (v_vals : Value) (Q : Value → World → Prop) (w : World) : Prop :=
 pur Tryz.prog (Builtin.len_ #[65] 3 #[v_vals]) fun t7 => 
 lp 1 (fun J => fun t8 w_1 => ∀ _j : Fr, 
  pur Tryz.prog (binS .lss 3 false false t8 t7) fun t9 => 
  condS t9
   (pur Tryz.prog (Instr.indexAt 65 v_vals t8) fun t10 => 
  rd Tryz.prog (Instr.loadAt 3 t10) (fun t11 => 
  pur Tryz.prog (binS .neq 3 false false t11 (.int .i64 0)) fun t14 => 
  condS t14
   (Q t11 w_1)
   (pur Tryz.prog (binS .add 3 false true t8 (.int .i64 1)) fun t16 => 
  J t16 w_1)) w_1)
   (Q (.int .i64 0) w_1)) [(.int .i64 0)] w
theorem eq192 (v_vals : Value) (Q : Value → World → Prop) (w : World) : semF Tryz.prog 192 [v_vals] Q w = S192 v_vals Q w := by kernel_rfl
theorem ref192 {v_vals : Value} {Q : Value → World → Prop} {w : World} (h : S192 v_vals Q w) : callS Tryz.prog 192 #[v_vals] Q w :=
  callS_of mix (fun a w => Tryz.call192 a w) (by kernel_rfl) (by rw [eq192]; exact h)
-- cmp.Compare[int]
def S193 (v_x v_y : Value) (Q : Value → World → Prop) (w : World) : Prop :=
 callS Tryz.prog 249 #[v_x] (fun t8 w_1 => 
 callS Tryz.prog 249 #[v_y] (fun t10 w_2 => 
 condS t8
  (condS t10
   (Q (.int .i64 0) w_2)
   (Q (.int .i64 (-1)) w_2))
  (condS t10
  (Q (.int .i64 1) w_2)
  (pur Tryz.prog (binS .lss 3 false false v_x v_y) fun t16 => 
 condS t16
  (Q (.int .i64 (-1)) w_2)
  (pur Tryz.prog (binS .gtr 3 false false v_x v_y) fun t19 => 
 condS t19
  (Q (.int .i64 1) w_2)
  (Q (.int .i64 0) w_2))))) w_1) w
theorem eq193 (v_x v_y : Value) (Q : Value → World → Prop) (w : World) : semF Tryz.prog 193 [v_x, v_y] Q w = S193 v_x v_y Q w := by kernel_rfl
theorem ref193 {v_x v_y : Value} {Q : Value → World → Prop} {w : World} (h : S193 v_x v_y Q w) : callS Tryz.prog 193 #[v_x, v_y] Q w :=
  callS_of mix (fun a w => Tryz.call193 a w) (by kernel_rfl) (by rw [eq193]; exact h)
-- (*commons/imap.Map[int]).lay
def S196 (v_m v_l : Value) (Q : Value → World → Prop) (w : World) : Prop :=
 callS Tryz.prog 251 #[v_l, (.func (.func 252) #[] #[])] (fun _ w_1 => 
 pur Tryz.prog (nilV v_m) fun t10 => 
 pur Tryz.prog (Instr.fieldAt 115 t10 0) fun t11 => 
 act Tryz.prog (thenU (Instr.storeAt 113 t11 (.slice none 0 0))) (fun _ w_2 => 
 pur Tryz.prog (Builtin.len_ #[113] 3 #[v_l]) fun t13 => 
 lp 1 (fun J => fun t14 w_3 => ∀ _j : Fr, 
  pur Tryz.prog (binS .lss 3 false false t14 t13) fun t15 => 
  condS t15
   (jn 0 (fun J_1 => 
   pur Tryz.prog (Instr.indexAt 113 v_l t14) fun t16 => 
   rd Tryz.prog (Instr.loadAt 230 t16) (fun t17 => 
   act Tryz.prog (Instr.alloc 230 true (.tuple #[])) (fun t5 w_4 => 
   act Tryz.prog (thenU (Instr.storeAt 230 t5 t17)) (fun _ w_5 => 
   pur Tryz.prog (nilV v_m) fun t19 => 
   pur Tryz.prog (Instr.fieldAt 115 t19 0) fun t20 => 
   rd Tryz.prog (Instr.loadAt 113 t20) (fun t21 => 
   pur Tryz.prog (Builtin.len_ #[113] 3 #[t21]) fun t22 => 
   pur Tryz.prog (binS .sub 3 false true t22 (.int .i64 1)) fun t23 => 
   pur Tryz.prog (binS .geq 3 false true t23 (.int .i64 0)) fun t25 => 
   gd t25 true (fun k w_6 => k v_m w_6) (fun t27_1 w_7 => 
   gd t25 true (fun k_1 w_8 => pur Tryz.prog (nilV t27_1) fun t28 => k_1 t28 w_8) (fun t28_1 w_9 => 
   gd t25 true (fun k_2 w_10 => pur Tryz.prog (Instr.fieldAt 115 t28_1 0) fun t29 => k_2 t29 w_10) (fun t29_1 w_11 => 
   gd t25 true (fun k_3 w_12 => rd Tryz.prog (Instr.loadAt 113 t29_1) (fun t30 => k_3 t30 w_12) w_12) (fun t30_1 w_13 => 
   gd t25 true (fun k_4 w_14 => k_4 t23 w_14) (fun t31_1 w_15 => 
   gd t25 true (fun k_5 w_16 => pur Tryz.prog (Instr.indexAt 113 t30_1 t31_1) fun t32 => k_5 t32 w_16) (fun t32_1 w_17 => 
   gd t25 true (fun k_6 w_18 => pur Tryz.prog (Instr.fieldAt 230 t32_1 0) fun t33 => k_6 t33 w_18) (fun t33_1 w_19 => 
   gd t25 true (fun k_7 w_20 => pur Tryz.prog (Instr.fieldAt 92 t33_1 1) fun t34 => k_7 t34 w_20) (fun t34_1 w_21 => 
   gd t25 true (fun k_8 w_22 => rd Tryz.prog (Instr.loadAt 3 t34_1) (fun t35 => k_8 t35 w_22) w_22) (fun t35_1 w_23 => 
   gd t25 true (fun k_9 w_24 => pur Tryz.prog (Instr.fieldAt 230 t5 0) fun t36 => k_9 t36 w_24) (fun t36_1 w_25 => 
   gd t25 true (fun k_10 w_26 => pur Tryz.prog (Instr.fieldAt 92 t36_1 0) fun t37 => k_10 t37 w_26) (fun t37_1 w_27 => 
   gd t25 true (fun k_11 w_28 => rd Tryz.prog (Instr.loadAt 3 t37_1) (fun t38 => k_11 t38 w_28) w_28) (fun t38_1 w_29 => 
   gd t25 true (fun k_12 w_30 => pur Tryz.prog (binS .eql 3 false false t35_1 t38_1) fun t39 => k_12 t39 w_30) (fun t39_1 w_31 => 
   pur Tryz.prog (pickS t25 t39_1 (.bool false)) fun t40 => 
   gd t40 true (fun k_13 w_32 => k_13 v_m w_32) (fun t42_1 w_33 => 
   gd t40 true (fun k_14 w_34 => pur Tryz.prog (nilV t42_1) fun t43 => k_14 t43 w_34) (fun t43_1 w_35 => 
   gd t40 true (fun k_15 w_36 => pur Tryz.prog (Instr.fieldAt 115 t43_1 0) fun t44 => k_15 t44 w_36) (fun t44_1 w_37 => 
   gd t40 true (fun k_16 w_38 => rd Tryz.prog (Instr.loadAt 113 t44_1) (fun t45 => k_16 t45 w_38) w_38) (fun t45_1 w_39 => 
   gd t40 true (fun k_17 w_40 => k_17 t23 w_40) (fun t46_1 w_41 => 
   gd t40 true (fun k_18 w_42 => pur Tryz.prog (Instr.indexAt 113 t45_1 t46_1) fun t47 => k_18 t47 w_42) (fun t47_1 w_43 => 
   gd t40 true (fun k_19 w_44 => pur Tryz.prog (Instr.fieldAt 230 t47_1 1) fun t48 => k_19 t48 w_44) (fun t48_1 w_45 => 
   gd t40 true (fun k_20 w_46 => rd Tryz.prog (Instr.loadAt 3 t48_1) (fun t49 => k_20 t49 w_46) w_46) (fun t49_1 w_47 => 
   gd t40 true (fun k_21 w_48 => pur Tryz.prog (Instr.fieldAt 230 t5 1) fun t50 => k_21 t50 w_48) (fun t50_1 w_49 => 
   gd t40 true (fun k_22 w_50 => rd Tryz.prog (Instr.loadAt 3 t50_1) (fun t51 => k_22 t51 w_50) w_50) (fun t51_1 w_51 => 
   gd t40 true (fun k_23 w_52 => pur Tryz.prog (binS .eql 3 false false t49_1 t51_1) fun t52 => k_23 t52 w_52) (fun t52_1 w_53 => 
   pur Tryz.prog (pickS t40 t52_1 (.bool false)) fun t53 => 
   condS t53
    (pur Tryz.prog (nilV v_m) fun t55 => 
    pur Tryz.prog (Instr.fieldAt 115 t55 0) fun t56 => 
    rd Tryz.prog (Instr.loadAt 113 t56) (fun t57 => 
    pur Tryz.prog (Instr.fieldAt 230 t5 0) fun t59 => 
    pur Tryz.prog (Instr.fieldAt 92 t59 1) fun t60 => 
    rd Tryz.prog (Instr.loadAt 3 t60) (fun t61 => 
    pur Tryz.prog (Instr.indexAt 113 t57 t23) fun t62 => 
    pur Tryz.prog (Instr.fieldAt 230 t62 0) fun t63 => 
    pur Tryz.prog (Instr.fieldAt 92 t63 1) fun t64 => 
    act Tryz.prog (thenU (Instr.storeAt 3 t64 t61)) (fun _ w_54 => 
    J_1  w_54) (World.drew w_53)) (World.drew w_53)) (World.drew w_53))
    (jn 0 (fun J_2 => 
     pur Tryz.prog (nilV v_m) fun t67 => 
     pur Tryz.prog (Instr.fieldAt 115 t67 0) fun t68 => 
     rd Tryz.prog (Instr.loadAt 230 t5) (fun t70 => 
     (rd Tryz.prog (Instr.loadAt 113 t68) (fun t69 => 
     act Tryz.prog (Instr.buildSlice 113 1 #[(0, t70)]) (fun t71 w_55 => 
     act Tryz.prog (Builtin.append_ #[113, 113] 113 #[t69, t71]) (fun t72 w_56 => 
     pur Tryz.prog (nilV v_m) fun t73 => 
     pur Tryz.prog (Instr.fieldAt 115 t73 0) fun t74 => 
     act Tryz.prog (thenU (Instr.storeAt 113 t74 t72)) (fun _ w_57 => 
     J_2  w_57) w_56) w_55) (World.drew w_53)) (World.drew w_53)
     ) ∧ (act Tryz.prog (Instr.buildSlice 113 1 #[(0, t70)]) (fun t71_1 w_58 => 
     rd Tryz.prog (Instr.loadAt 113 t68) (fun t69_1 => 
     act Tryz.prog (Builtin.append_ #[113, 113] 113 #[t69_1, t71_1]) (fun t72_1 w_59 => 
     pur Tryz.prog (nilV v_m) fun t73_1 => 
     pur Tryz.prog (Instr.fieldAt 115 t73_1 0) fun t74_1 => 
     act Tryz.prog (thenU (Instr.storeAt 113 t74_1 t72_1)) (fun _ w_60 => 
     J_2  w_60) w_59) w_58) w_58) (World.drew w_53))) (World.drew w_53))
    (fun  w_61 => ∀ _j : Fr, 
     J_1  w_61))) w_51) w_49) w_47) w_45) w_43) w_41) w_39) w_37) w_35) w_33) w_31) w_29) w_27) w_25) w_23) w_21) w_19) w_17) w_15) w_13) w_11) w_9) w_7) (World.drew w_5)) w_5) w_4) w_3) w_3)
  (fun  w_62 => ∀ _j : Fr, 
   pur Tryz.prog (binS .add 3 false true t14 (.int .i64 1)) fun t75 => 
   J t75 w_62))
   (Q (.tuple #[]) w_3)) [(.int .i64 0)] w_2) w_1) w
theorem eq196 (v_m v_l : Value) (Q : Value → World → Prop) (w : World) : semF Tryz.prog 196 [v_m, v_l] Q w = S196 v_m v_l Q w := by kernel_rfl
theorem ref196 {v_m v_l : Value} {Q : Value → World → Prop} {w : World} (h : S196 v_m v_l Q w) : callS Tryz.prog 196 #[v_m, v_l] Q w :=
  callS_of mix (fun a w => Tryz.call196 a w) (by kernel_rfl) (by rw [eq196]; exact h)
-- (*commons/imap.Map[int]).without
def S197 (v_m v_s : Value) (Q : Value → World → Prop) (w : World) : Prop :=
 act Tryz.prog (Instr.box 92 v_s) (fun t3 w_1 => 
 pur Tryz.prog (nilV v_m) fun t11 => 
 pur Tryz.prog (Instr.fieldAt 115 t11 0) fun t12 => 
 rd Tryz.prog (Instr.loadAt 113 t12) (fun t13 => 
 pur Tryz.prog (Builtin.len_ #[113] 3 #[t13]) fun t14 => 
 lp 2 (fun J => fun v_out t15 w_2 => ∀ _j : Fr, 
  pur Tryz.prog (binS .lss 3 false false t15 t14) fun t16 => 
  condS t16
   (pur Tryz.prog (Instr.indexAt 113 t13 t15) fun t17 => 
  rd Tryz.prog (Instr.loadAt 230 t17) (fun t18 => 
  act Tryz.prog (Instr.alloc 230 true (.tuple #[])) (fun t7 w_3 => 
  act Tryz.prog (thenU (Instr.storeAt 230 t7 t18)) (fun _ w_4 => 
  pur Tryz.prog (Instr.fieldAt 230 t7 0) fun t19 => 
  rd Tryz.prog (Instr.loadAt 92 t19) (fun t20 => 
  act Tryz.prog (Instr.buildSlice 90 1 #[(0, t20)]) (fun t21 w_5 => 
  rd Tryz.prog (Instr.loadAt 92 t3) (fun t22 => 
  act Tryz.prog (Instr.buildSlice 90 1 #[(0, t22)]) (fun t23 w_6 => 
  callS Tryz.prog 55 #[t21, t23] (fun t24 w_7 => 
  pur Tryz.prog (Builtin.len_ #[90] 3 #[t24]) fun t25 => 
  lp 2 (fun J_1 => fun v_out_1 t26 w_8 => ∀ _j : Fr, 
   pur Tryz.prog (binS .lss 3 false false t26 t25) fun t27 => 
   condS t27
    (pur Tryz.prog (Instr.indexAt 90 t24 t26) fun t28 => 
   rd Tryz.prog (Instr.loadAt 92 t28) (fun t29 => 
   act Tryz.prog (Instr.alloc 92 true (.tuple #[])) (fun t9 w_9 => 
   act Tryz.prog (thenU (Instr.storeAt 92 t9 t29)) (fun _ w_10 => 
   rd Tryz.prog (Instr.loadAt 92 t9) (fun t31 => 
   pur Tryz.prog (Instr.fieldAt 230 t7 1) fun t32 => 
   rd Tryz.prog (Instr.loadAt 3 t32) (fun t33 => 
   pur Tryz.prog (Instr.build 230 #[(0, t31), (1, t33)]) fun t34 => 
   act Tryz.prog (Instr.buildSlice 113 1 #[(0, t34)]) (fun t35 w_11 => 
   act Tryz.prog (Builtin.append_ #[113, 113] 113 #[v_out_1, t35]) (fun t36 w_12 => 
   pur Tryz.prog (binS .add 3 false true t26 (.int .i64 1)) fun t37 => 
   J_1 t36 t37 w_12) w_11) w_10) w_10) w_10) w_9) w_8) w_8)
    (pur Tryz.prog (binS .add 3 false true t15 (.int .i64 1)) fun t38 => 
  J v_out_1 t38 w_8)) [v_out, (.int .i64 0)] w_7) w_6) w_5) w_5) w_4) w_4) w_3) w_2) w_2)
   (Q v_out w_2)) [(.slice none 0 0), (.int .i64 0)] w_1) w_1) w
theorem eq197 (v_m v_s : Value) (Q : Value → World → Prop) (w : World) : semF Tryz.prog 197 [v_m, v_s] Q w = S197 v_m v_s Q w := by kernel_rfl
theorem ref197 {v_m v_s : Value} {Q : Value → World → Prop} {w : World} (h : S197 v_m v_s Q w) : callS Tryz.prog 197 #[v_m, v_s] Q w :=
  callS_of mix (fun a w => Tryz.call197 a w) (by kernel_rfl) (by rw [eq197]; exact h)
-- slices.Clone[[]commons/imap.Part[int],commons/imap.Part[int]]
def S198 (v_s : Value) (Q : Value → World → Prop) (w : World) : Prop :=
 rd Tryz.prog (binS .eql 113 false true v_s (.slice none 0 0)) (fun t4 => 
 condS t4
  (Q (.slice none 0 0) w)
  (act Tryz.prog (Instr.buildSlice 113 0 #[]) (fun t5 w_1 => 
 act Tryz.prog (Builtin.append_ #[113, 113] 113 #[t5, v_s]) (fun t7 w_2 => 
 Q t7 w_2) w_1) w)) w
theorem eq198 (v_s : Value) (Q : Value → World → Prop) (w : World) : semF Tryz.prog 198 [v_s] Q w = S198 v_s Q w := by kernel_rfl
theorem ref198 {v_s : Value} {Q : Value → World → Prop} {w : World} (h : S198 v_s Q w) : callS Tryz.prog 198 #[v_s] Q w :=
  callS_of mix (fun a w => Tryz.call198 a w) (by kernel_rfl) (by rw [eq198]; exact h)
-- commons/mode.locks
def S204 (v_m : Value) (Q : Value → World → Prop) (w : World) : Prop :=
 callS Tryz.prog 73 #[v_m] (fun t7 w_1 => 
 pur Tryz.prog (Builtin.len_ #[113] 3 #[t7]) fun t8 => 
 lp 2 (fun J => fun v_out t9 w_2 => ∀ _j : Fr, 
  pur Tryz.prog (binS .lss 3 false false t9 t8) fun t10 => 
  condS t10
   (pur Tryz.prog (Instr.indexAt 113 t7 t9) fun t11 => 
  rd Tryz.prog (Instr.loadAt 230 t11) (fun t12 => 
  act Tryz.prog (Instr.alloc 230 true (.tuple #[])) (fun t5 w_3 => 
  act Tryz.prog (thenU (Instr.storeAt 230 t5 t12)) (fun _ w_4 => 
  pur Tryz.prog (Instr.fieldAt 230 t5 0) fun t14 => 
  rd Tryz.prog (Instr.loadAt 92 t14) (fun t15 => 
  pur Tryz.prog (Instr.fieldAt 230 t5 1) fun t16 => 
  rd Tryz.prog (Instr.loadAt 3 t16) (fun t17 => 
  pur Tryz.prog (Instr.build 148 #[(0, t15), (1, t17)]) fun t18 => 
  act Tryz.prog (Instr.buildSlice 129 1 #[(0, t18)]) (fun t19 w_5 => 
  act Tryz.prog (Builtin.append_ #[129, 129] 129 #[v_out, t19]) (fun t20 w_6 => 
  pur Tryz.prog (binS .add 3 false true t9 (.int .i64 1)) fun t21 => 
  J t20 t21 w_6) w_5) w_4) w_4) w_4) w_3) w_2) w_2)
   (Q v_out w_2)) [(.slice none 0 0), (.int .i64 0)] w_1) w
theorem eq204 (v_m : Value) (Q : Value → World → Prop) (w : World) : semF Tryz.prog 204 [v_m] Q w = S204 v_m Q w := by kernel_rfl
theorem ref204 {v_m : Value} {Q : Value → World → Prop} {w : World} (h : S204 v_m Q w) : callS Tryz.prog 204 #[v_m] Q w :=
  callS_of mix (fun a w => Tryz.call204 a w) (by kernel_rfl) (by rw [eq204]; exact h)
-- commons/mode.asked
def S205 (v_l : Value) (Q : Value → World → Prop) (w : World) : Prop :=
 callS Tryz.prog 66 #[] (fun t6 w_1 => 
 pur Tryz.prog (Builtin.len_ #[129] 3 #[v_l]) fun t8 => 
 lp 1 (fun J => fun t9 w_2 => ∀ _j : Fr, 
  pur Tryz.prog (binS .lss 3 false false t9 t8) fun t10 => 
  condS t10
   (jn 0 (fun J_1 => 
   pur Tryz.prog (Instr.indexAt 129 v_l t9) fun t11 => 
   rd Tryz.prog (Instr.loadAt 148 t11) (fun t12 => 
   act Tryz.prog (Instr.alloc 148 true (.tuple #[])) (fun t5 w_3 => 
   act Tryz.prog (thenU (Instr.storeAt 148 t5 t12)) (fun _ w_4 => 
   pur Tryz.prog (Instr.fieldAt 148 t5 1) fun t13 => 
   rd Tryz.prog (Instr.loadAt 3 t13) (fun t14 => 
   pur Tryz.prog (binS .eql 3 false true t14 (.int .i64 1)) fun t15 => 
   gd t15 false (fun k w_5 => pur Tryz.prog (Instr.fieldAt 148 t5 1) fun t17 => k t17 w_5) (fun t17_1 w_6 => 
   gd t15 false (fun k_1 w_7 => rd Tryz.prog (Instr.loadAt 3 t17_1) (fun t18 => k_1 t18 w_7) w_7) (fun t18_1 w_8 => 
   gd t15 false (fun k_2 w_9 => pur Tryz.prog (binS .eql 3 false true t18_1 (.int .i64 2)) fun t19 => k_2 t19 w_9) (fun t19_1 w_10 => 
   pur Tryz.prog (pickS t15 (.bool true) t19_1) fun t20 => 
   condS t20
    (rd Tryz.prog (Instr.loadAt 148 t5) (fun t22 => 
    callS Tryz.prog 254 #[t6, t22] (fun _ w_11 => 
    J_1  w_11) w_10) w_10)
    (J_1  w_10)) w_8) w_6) w_4) w_4) w_3) w_2) w_2)
  (fun  w_12 => ∀ _j : Fr, 
   pur Tryz.prog (binS .add 3 false true t9 (.int .i64 1)) fun t24 => 
   J t24 w_12))
   (Q t6 w_2)) [(.int .i64 0)] w_1) w
theorem eq205 (v_l : Value) (Q : Value → World → Prop) (w : World) : semF Tryz.prog 205 [v_l] Q w = S205 v_l Q w := by kernel_rfl
theorem ref205 {v_l : Value} {Q : Value → World → Prop} {w : World} (h : S205 v_l Q w) : callS Tryz.prog 205 #[v_l] Q w :=
  callS_of mix (fun a w => Tryz.call205 a w) (by kernel_rfl) (by rw [eq205]; exact h)
-- commons/commonsref8.Sectors
def S208 (v_n : Value) (Q : Value → World → Prop) (w : World) : Prop :=
 pur Tryz.prog (binS .lss 3 false true v_n (.int .i64 1)) fun t4 => 
 gd t4 false (fun k w_1 => k v_n w_1) (fun t6_1 w_2 => 
 gd t4 false (fun k_1 w_3 => pur Tryz.prog (binS .gtr 3 false true t6_1 (.int .i64 60)) fun t7 => k_1 t7 w_3) (fun t7_1 w_4 => 
 pur Tryz.prog (pickS t4 (.bool true) t7_1) fun t8 => 
 condS t8
  (Q (.int .i64 0) w_4)
  (pur Tryz.prog (binS .mul 3 true false (.int .i64 108) v_n) fun t10 => 
 pur Tryz.prog (binS .add 3 false true t10 (.int .i64 41)) fun t11 => 
 pur Tryz.prog (binS .quo 3 false true t11 (.int .i64 42)) fun t12 => 
 Q t12 w_4)) w_2) w
theorem eq208 (v_n : Value) (Q : Value → World → Prop) (w : World) : semF Tryz.prog 208 [v_n] Q w = S208 v_n Q w := by kernel_rfl
theorem ref208 {v_n : Value} {Q : Value → World → Prop} {w : World} (h : S208 v_n Q w) : callS Tryz.prog 208 #[v_n] Q w :=
  callS_of mix (fun a w => Tryz.call208 a w) (by kernel_rfl) (by rw [eq208]; exact h)
-- commons/block.Pad
def S209 (v_s : Value) (Q : Value → World → Prop) (w : World) : Prop :=
 pur Tryz.prog (Builtin.len_ #[9] 3 #[v_s]) fun t5 => 
 pur Tryz.prog (binS .gtr 3 false true t5 (.int .i64 96)) fun t6 => 
 condS t6
  (Q (.tuple #[(.string ⟨#[]⟩), (.int .i64 2)]) w)
  (pur Tryz.prog (Builtin.len_ #[9] 3 #[v_s]) fun t9 => 
 pur Tryz.prog (binS .sub 3 true false (.int .i64 96) t9) fun t10 => 
 callS Tryz.prog 255 #[t10] (fun t11 w_1 => 
 pur Tryz.prog (binS .add 9 false false v_s t11) fun t12 => 
 Q (.tuple #[t12, (.int .i64 0)]) w_1) w)
theorem eq209 (v_s : Value) (Q : Value → World → Prop) (w : World) : semF Tryz.prog 209 [v_s] Q w = S209 v_s Q w := by kernel_rfl
theorem ref209 {v_s : Value} {Q : Value → World → Prop} {w : World} (h : S209 v_s Q w) : callS Tryz.prog 209 #[v_s] Q w :=
  callS_of mix (fun a w => Tryz.call209 a w) (by kernel_rfl) (by rw [eq209]; exact h)
-- commons/rec.Most
def S210 (v_log : Value) (Q : Value → World → Prop) (w : World) : Prop :=
 pur Tryz.prog (binS .lss 3 false true v_log (.int .i64 1)) fun t5 => 
 gd t5 false (fun k w_1 => k v_log w_1) (fun t7_1 w_2 => 
 gd t5 false (fun k_1 w_3 => pur Tryz.prog (binS .gtr 3 false true t7_1 (.int .i64 100000)) fun t8 => k_1 t8 w_3) (fun t8_1 w_4 => 
 pur Tryz.prog (pickS t5 (.bool true) t8_1) fun t9 => 
 condS t9
  (Q (.int .i64 0) w_4)
  (lp 1 (fun J => fun v_n w_5 => ∀ _j : Fr, 
  pur Tryz.prog (binS .lss 3 false true v_n (.int .i64 60)) fun t11 => 
  gd t11 true (fun k_2 w_6 => k_2 v_n w_6) (fun t13_1 w_7 => 
  gd t11 true (fun k_3 w_8 => pur Tryz.prog (binS .add 3 false true t13_1 (.int .i64 1)) fun t14 => k_3 t14 w_8) (fun t14_1 w_9 => 
  gd t11 true (fun k_4 w_10 => callS Tryz.prog 256 #[t14_1] (fun t15 w_11 => k_4 t15 w_11) w_10) (fun t15_1 w_12 => 
  gd t11 true (fun k_5 w_13 => k_5 v_log w_13) (fun t16_1 w_14 => 
  gd t11 true (fun k_6 w_15 => pur Tryz.prog (binS .sub 3 false true t16_1 (.int .i64 1)) fun t17 => k_6 t17 w_15) (fun t17_1 w_16 => 
  gd t11 true (fun k_7 w_17 => pur Tryz.prog (binS .quo 3 false true t17_1 (.int .i64 2)) fun t18 => k_7 t18 w_17) (fun t18_1 w_18 => 
  gd t11 true (fun k_8 w_19 => pur Tryz.prog (binS .leq 3 false false t15_1 t18_1) fun t19 => k_8 t19 w_19) (fun t19_1 w_20 => 
  pur Tryz.prog (pickS t11 t19_1 (.bool false)) fun t20 => 
  condS t20
   (pur Tryz.prog (binS .add 3 false true v_n (.int .i64 1)) fun t22 => 
  J t22 w_20)
   (Q v_n w_20)) w_18) w_16) w_14) w_12) w_9) w_7) w_5) [(.int .i64 0)] w_4)) w_2) w
theorem eq210 (v_log : Value) (Q : Value → World → Prop) (w : World) : semF Tryz.prog 210 [v_log] Q w = S210 v_log Q w := by kernel_rfl
theorem ref210 {v_log : Value} {Q : Value → World → Prop} {w : World} (h : S210 v_log Q w) : callS Tryz.prog 210 #[v_log] Q w :=
  callS_of mix (fun a w => Tryz.call210 a w) (by kernel_rfl) (by rw [eq210]; exact h)
-- (*commons/tx.Tx).none
def S211 (v_t : Value) (Q : Value → World → Prop) (w : World) : Prop :=
 rd Tryz.prog (binS .eql 143 false true v_t (.pointer none)) (fun t4 => 
 gd t4 false (fun k w_1 => k v_t w_1) (fun t6_1 w_2 => 
 gd t4 false (fun k_1 w_3 => pur Tryz.prog (nilV t6_1) fun t7 => k_1 t7 w_3) (fun t7_1 w_4 => 
 gd t4 false (fun k_2 w_5 => pur Tryz.prog (Instr.fieldAt 179 t7_1 1) fun t8 => k_2 t8 w_5) (fun t8_1 w_6 => 
 gd t4 false (fun k_3 w_7 => rd Tryz.prog (Instr.loadAt 109 t8_1) (fun t9 => k_3 t9 w_7) w_7) (fun t9_1 w_8 => 
 gd t4 false (fun k_4 w_9 => rd Tryz.prog (binS .eql 109 false true t9_1 (.pointer none)) (fun t10 => k_4 t10 w_9) w_9) (fun t10_1 w_10 => 
 pur Tryz.prog (pickS t4 (.bool true) t10_1) fun t11 => 
 Q t11 w_10) w_8) w_6) w_4) w_2) w) w
theorem eq211 (v_t : Value) (Q : Value → World → Prop) (w : World) : semF Tryz.prog 211 [v_t] Q w = S211 v_t Q w := by kernel_rfl
theorem ref211 {v_t : Value} {Q : Value → World → Prop} {w : World} (h : S211 v_t Q w) : callS Tryz.prog 211 #[v_t] Q w :=
  callS_of mix (fun a w => Tryz.call211 a w) (by kernel_rfl) (by rw [eq211]; exact h)
-- commons/tx.images
def S212 (v_m : Value) (Q : Value → World → Prop) (w : World) : Prop :=
 callS Tryz.prog 258 #[v_m] (fun t7 w_1 => 
 callS Tryz.prog 257 #[t7] (fun t8 w_2 => 
 pur Tryz.prog (Builtin.len_ #[65] 3 #[t8]) fun t9 => 
 lp 2 (fun J => fun v_out t10 w_3 => ∀ _j : Fr, 
  pur Tryz.prog (binS .lss 3 false false t10 t9) fun t11 => 
  condS t11
   (pur Tryz.prog (Instr.indexAt 65 t8 t10) fun t12 => 
  rd Tryz.prog (Instr.loadAt 3 t12) (fun t13 => 
  rd Tryz.prog (Instr.lookup 177 v_m t13 false) (fun t18 => 
  pur Tryz.prog (Instr.build 162 #[(0, t13), (2, t18)]) fun t19 => 
  act Tryz.prog (Instr.buildSlice 150 1 #[(0, t19)]) (fun t20 w_4 => 
  act Tryz.prog (Builtin.append_ #[150, 150] 150 #[v_out, t20]) (fun t21 w_5 => 
  pur Tryz.prog (binS .add 3 false true t10 (.int .i64 1)) fun t22 => 
  J t21 t22 w_5) w_4) w_3) w_3) w_3)
   (Q v_out w_3)) [(.slice none 0 0), (.int .i64 0)] w_2) w_1) w
theorem eq212 (v_m : Value) (Q : Value → World → Prop) (w : World) : semF Tryz.prog 212 [v_m] Q w = S212 v_m Q w := by kernel_rfl
theorem ref212 {v_m : Value} {Q : Value → World → Prop} {w : World} (h : S212 v_m Q w) : callS Tryz.prog 212 #[v_m] Q w :=
  callS_of mix (fun a w => Tryz.call212 a w) (by kernel_rfl) (by rw [eq212]; exact h)
-- strings.Clone
def S213 (v_s : Value) (Q : Value → World → Prop) (w : World) : Prop :=
 callS Tryz.prog 259 #[v_s] (fun t4 w_1 => 
 Q t4 w_1) w
theorem eq213 (v_s : Value) (Q : Value → World → Prop) (w : World) : semF Tryz.prog 213 [v_s] Q w = S213 v_s Q w := by kernel_rfl
theorem ref213 {v_s : Value} {Q : Value → World → Prop} {w : World} (h : S213 v_s Q w) : callS Tryz.prog 213 #[v_s] Q w :=
  callS_of mix (fun a w => Tryz.call213 a w) (by kernel_rfl) (by rw [eq213]; exact h)
-- commons/super.Valid
def S215 (v_s : Value) (Q : Value → World → Prop) (w : World) : Prop :=
 act Tryz.prog (Instr.box 142 v_s) (fun t1 w_1 => 
 pur Tryz.prog (Instr.fieldAt 142 t1 0) fun t3 => 
 rd Tryz.prog (Instr.loadAt 3 t3) (fun t4 => 
 callS Tryz.prog 260 #[t4, (.int .i64 1), (.int .i64 16)] (fun t5 w_2 => 
 gd t5 true (fun k w_3 => pur Tryz.prog (Instr.fieldAt 142 t1 1) fun t7 => k t7 w_3) (fun t7_1 w_4 => 
 gd t5 true (fun k_1 w_5 => rd Tryz.prog (Instr.loadAt 3 t7_1) (fun t8 => k_1 t8 w_5) w_5) (fun t8_1 w_6 => 
 gd t5 true (fun k_2 w_7 => callS Tryz.prog 260 #[t8_1, (.int .i64 1), (.int .i64 4096)] (fun t9 w_8 => k_2 t9 w_8) w_7) (fun t9_1 w_9 => 
 pur Tryz.prog (pickS t5 t9_1 (.bool false)) fun t10 => 
 gd t10 true (fun k_3 w_10 => pur Tryz.prog (Instr.fieldAt 142 t1 2) fun t12 => k_3 t12 w_10) (fun t12_1 w_11 => 
 gd t10 true (fun k_4 w_12 => rd Tryz.prog (Instr.loadAt 3 t12_1) (fun t13 => k_4 t13 w_12) w_12) (fun t13_1 w_13 => 
 gd t10 true (fun k_5 w_14 => callS Tryz.prog 260 #[t13_1, (.int .i64 8), (.int .i64 256)] (fun t14 w_15 => k_5 t14 w_15) w_14) (fun t14_1 w_16 => 
 pur Tryz.prog (pickS t10 t14_1 (.bool false)) fun t15 => 
 gd t15 true (fun k_6 w_17 => pur Tryz.prog (Instr.fieldAt 142 t1 3) fun t17 => k_6 t17 w_17) (fun t17_1 w_18 => 
 gd t15 true (fun k_7 w_19 => rd Tryz.prog (Instr.loadAt 3 t17_1) (fun t18 => k_7 t18 w_19) w_19) (fun t18_1 w_20 => 
 gd t15 true (fun k_8 w_21 => callS Tryz.prog 260 #[t18_1, (.int .i64 2), (.int .i64 1000)] (fun t19 w_22 => k_8 t19 w_22) w_21) (fun t19_1 w_23 => 
 pur Tryz.prog (pickS t15 t19_1 (.bool false)) fun t20 => 
 gd t20 true (fun k_9 w_24 => pur Tryz.prog (Instr.fieldAt 142 t1 4) fun t22 => k_9 t22 w_24) (fun t22_1 w_25 => 
 gd t20 true (fun k_10 w_26 => rd Tryz.prog (Instr.loadAt 3 t22_1) (fun t23 => k_10 t23 w_26) w_26) (fun t23_1 w_27 => 
 gd t20 true (fun k_11 w_28 => callS Tryz.prog 260 #[t23_1, (.int .i64 32), (.int .i64 1000)] (fun t24 w_29 => k_11 t24 w_29) w_28) (fun t24_1 w_30 => 
 pur Tryz.prog (pickS t20 t24_1 (.bool false)) fun t25 => 
 Q t25 w_30) w_27) w_25) w_23) w_20) w_18) w_16) w_13) w_11) w_9) w_6) w_4) w_2) w_1) w_1) w
theorem eq215 (v_s : Value) (Q : Value → World → Prop) (w : World) : semF Tryz.prog 215 [v_s] Q w = S215 v_s Q w := by kernel_rfl
theorem ref215 {v_s : Value} {Q : Value → World → Prop} {w : World} (h : S215 v_s Q w) : callS Tryz.prog 215 #[v_s] Q w :=
  callS_of mix (fun a w => Tryz.call215 a w) (by kernel_rfl) (by rw [eq215]; exact h)
-- slices.IndexFunc[[]commons/api.Span,commons/api.Span]
def S246 (v_s v_f : Value) (Q : Value → World → Prop) (w : World) : Prop :=
 pur Tryz.prog (Builtin.len_ #[90] 3 #[v_s]) fun t7 => 
 lp 1 (fun J => fun t8 w_1 => ∀ _j : Fr, 
  pur Tryz.prog (binS .lss 3 false false t8 t7) fun t9 => 
  condS t9
   (pur Tryz.prog (Instr.indexAt 90 v_s t8) fun t14 => 
  rd Tryz.prog (Instr.loadAt 92 t14) (fun t15 => 
  callF Tryz.prog v_f #[t15] (fun t16 w_2 => 
  condS t16
   (Q t8 w_2)
   (pur Tryz.prog (binS .add 3 false true t8 (.int .i64 1)) fun t18 => 
  J t18 w_2)) w_1) w_1)
   (Q (.int .i64 (-1)) w_1)) [(.int .i64 0)] w
theorem eq246 (v_s v_f : Value) (Q : Value → World → Prop) (w : World) : semF Tryz.prog 246 [v_s, v_f] Q w = S246 v_s v_f Q w := by kernel_rfl
theorem ref246 {v_s v_f : Value} {Q : Value → World → Prop} {w : World} (h : S246 v_s v_f Q w) : callS Tryz.prog 246 #[v_s, v_f] Q w :=
  callS_of mix (fun a w => Tryz.call246 a w) (by kernel_rfl) (by rw [eq246]; exact h)
-- cmp.isNaN[int]
def S249 (v_x : Value) (Q : Value → World → Prop) (w : World) : Prop :=
 pur Tryz.prog (binS .neq 3 false false v_x v_x) fun t5 => 
 Q t5 w
theorem eq249 (v_x : Value) (Q : Value → World → Prop) (w : World) : semF Tryz.prog 249 [v_x] Q w = S249 v_x Q w := by kernel_rfl
theorem ref249 {v_x : Value} {Q : Value → World → Prop} {w : World} (h : S249 v_x Q w) : callS Tryz.prog 249 #[v_x] Q w :=
  callS_of mix (fun a w => Tryz.call249 a w) (by kernel_rfl) (by rw [eq249]; exact h)
-- slices.SortFunc[[]commons/imap.Part[int],commons/imap.Part[int]]
def S251 (v_x v_cmp : Value) (Q : Value → World → Prop) (w : World) : Prop :=
 pur Tryz.prog (Builtin.len_ #[113] 3 #[v_x]) fun t6 => 
 pur Tryz.prog (convert 3 300 t6) fun t10 => 
 callS Tryz.prog 248 #[t10] (fun t11 w_1 => 
 callS Tryz.prog 275 #[v_x, (.int .i64 0), t6, t11, v_cmp] (fun _ w_2 => 
 Q (.tuple #[]) w_2) w_1) w
theorem eq251 (v_x v_cmp : Value) (Q : Value → World → Prop) (w : World) : semF Tryz.prog 251 [v_x, v_cmp] Q w = S251 v_x v_cmp Q w := by kernel_rfl
theorem ref251 {v_x v_cmp : Value} {Q : Value → World → Prop} {w : World} (h : S251 v_x v_cmp Q w) : callS Tryz.prog 251 #[v_x, v_cmp] Q w :=
  callS_of mix (fun a w => Tryz.call251 a w) (by kernel_rfl) (by rw [eq251]; exact h)
-- (*commons/imap.Map[int]).lay$1
def S252 (v_a v_b : Value) (Q : Value → World → Prop) (w : World) : Prop :=
 act Tryz.prog (Instr.box 230 v_a) (fun t2 w_1 => 
 act Tryz.prog (Instr.box 230 v_b) (fun t3 w_2 => 
 pur Tryz.prog (Instr.fieldAt 230 t2 0) fun t5 => 
 pur Tryz.prog (Instr.fieldAt 92 t5 0) fun t6 => 
 rd Tryz.prog (Instr.loadAt 3 t6) (fun t7 => 
 pur Tryz.prog (Instr.fieldAt 230 t3 0) fun t8 => 
 pur Tryz.prog (Instr.fieldAt 92 t8 0) fun t9 => 
 rd Tryz.prog (Instr.loadAt 3 t9) (fun t10 => 
 callS Tryz.prog 193 #[t7, t10] (fun t11 w_3 => 
 Q t11 w_3) w_2) w_2) w_2) w_1) w
theorem eq252 (v_a v_b : Value) (Q : Value → World → Prop) (w : World) : semF Tryz.prog 252 [v_a, v_b] Q w = S252 v_a v_b Q w := by kernel_rfl
theorem ref252 {v_a v_b : Value} {Q : Value → World → Prop} {w : World} (h : S252 v_a v_b Q w) : callS Tryz.prog 252 #[v_a, v_b] Q w :=
  callS_of mix (fun a w => Tryz.call252 a w) (by kernel_rfl) (by rw [eq252]; exact h)
-- commons/mode.Raise
def S254 (v_m v_l : Value) (Q : Value → World → Prop) (w : World) : Prop :=
 act Tryz.prog (Instr.box 148 v_l) (fun t3 w_1 => 
 pur Tryz.prog (Instr.fieldAt 148 t3 0) fun t8 => 
 rd Tryz.prog (Instr.loadAt 92 t8) (fun t9 => 
 callS Tryz.prog 74 #[v_m, t9] (fun t10 w_2 => 
 pur Tryz.prog (Instr.fieldAt 148 t3 0) fun t12 => 
 rd Tryz.prog (Instr.loadAt 92 t12) (fun t13 => 
 pur Tryz.prog (Instr.fieldAt 148 t3 1) fun t14 => 
 rd Tryz.prog (Instr.loadAt 3 t14) (fun t15 => 
 callS Tryz.prog 67 #[v_m, t13, t15] (fun _ w_3 => 
 pur Tryz.prog (Builtin.len_ #[113] 3 #[t10]) fun t18 => 
 lp 1 (fun J => fun t19 w_4 => ∀ _j : Fr, 
  pur Tryz.prog (binS .lss 3 false false t19 t18) fun t20 => 
  condS t20
   (pur Tryz.prog (Instr.indexAt 113 t10 t19) fun t21 => 
  rd Tryz.prog (Instr.loadAt 230 t21) (fun t22 => 
  act Tryz.prog (Instr.alloc 230 true (.tuple #[])) (fun t6 w_5 => 
  act Tryz.prog (thenU (Instr.storeAt 230 t6 t22)) (fun _ w_6 => 
  ∃ S : World → Prop, S (World.drew w_6) ∧ 
  pur Tryz.prog (Instr.fieldAt 230 t6 0) fun t24 => 
  hld Tryz.prog S (Instr.loadAt 92 t24) fun t25 => 
  pur Tryz.prog (Instr.fieldAt 230 t6 1) fun t26 => 
  hld Tryz.prog S (Instr.loadAt 3 t26) fun t27 => 
  pur Tryz.prog (Instr.fieldAt 148 t3 1) fun t28 => 
  hld Tryz.prog S (Instr.loadAt 3 t28) fun t29 => 
  callS Tryz.prog 276 #[t27, t29] (fun t30 w_7 => S w_7 ∧ 
  callS Tryz.prog 67 #[v_m, t25, t30] (fun _ w_8 => S w_8 ∧ 
  pur Tryz.prog (binS .add 3 false true t19 (.int .i64 1)) fun t32 => 
  J t32 w_8) w_7) (World.drew w_6)) w_5) w_4) w_4)
   (Q (.tuple #[]) w_4)) [(.int .i64 0)] w_3) w_2) w_2) w_2) w_1) w_1) w
theorem eq254 (v_m v_l : Value) (Q : Value → World → Prop) (w : World) : semF Tryz.prog 254 [v_m, v_l] Q w = S254 v_m v_l Q w := by kernel_rfl
theorem ref254 {v_m v_l : Value} {Q : Value → World → Prop} {w : World} (h : S254 v_m v_l Q w) : callS Tryz.prog 254 #[v_m, v_l] Q w :=
  callS_of mix (fun a w => Tryz.call254 a w) (by kernel_rfl) (by rw [eq254]; exact h)
-- commons/block.zero
def S255 (v_n : Value) (Q : Value → World → Prop) (w : World) : Prop :=
 callS Tryz.prog 277 #[(.string ⟨#[0]⟩), v_n] (fun t4 w_1 => 
 Q t4 w_1) w
theorem eq255 (v_n : Value) (Q : Value → World → Prop) (w : World) : semF Tryz.prog 255 [v_n] Q w = S255 v_n Q w := by kernel_rfl
theorem ref255 {v_n : Value} {Q : Value → World → Prop} {w : World} (h : S255 v_n Q w) : callS Tryz.prog 255 #[v_n] Q w :=
  callS_of mix (fun a w => Tryz.call255 a w) (by kernel_rfl) (by rw [eq255]; exact h)
-- commons/rec.Sectors
def S256 (v_images : Value) (Q : Value → World → Prop) (w : World) : Prop :=
 pur Tryz.prog (binS .lss 3 false true v_images (.int .i64 1)) fun t4 => 
 gd t4 false (fun k w_1 => k v_images w_1) (fun t6_1 w_2 => 
 gd t4 false (fun k_1 w_3 => pur Tryz.prog (binS .gtr 3 false true t6_1 (.int .i64 60)) fun t7 => k_1 t7 w_3) (fun t7_1 w_4 => 
 pur Tryz.prog (pickS t4 (.bool true) t7_1) fun t8 => 
 condS t8
  (Q (.int .i64 0) w_4)
  (pur Tryz.prog (binS .mul 3 true false (.int .i64 108) v_images) fun t10 => 
 pur Tryz.prog (binS .add 3 false true t10 (.int .i64 42)) fun t11 => 
 pur Tryz.prog (binS .sub 3 false true t11 (.int .i64 1)) fun t12 => 
 pur Tryz.prog (binS .quo 3 false true t12 (.int .i64 42)) fun t13 => 
 Q t13 w_4)) w_2) w
theorem eq256 (v_images : Value) (Q : Value → World → Prop) (w : World) : semF Tryz.prog 256 [v_images] Q w = S256 v_images Q w := by kernel_rfl
theorem ref256 {v_images : Value} {Q : Value → World → Prop} {w : World} (h : S256 v_images Q w) : callS Tryz.prog 256 #[v_images] Q w :=
  callS_of mix (fun a w => Tryz.call256 a w) (by kernel_rfl) (by rw [eq256]; exact h)
-- slices.Sorted[int]
def S257 (v_seq : Value) (Q : Value → World → Prop) (w : World) : Prop :=
 callS Tryz.prog 278 #[v_seq] (fun t5 w_1 => 
 callS Tryz.prog 279 #[t5] (fun _ w_2 => 
 Q t5 w_2) w_1) w
theorem eq257 (v_seq : Value) (Q : Value → World → Prop) (w : World) : semF Tryz.prog 257 [v_seq] Q w = S257 v_seq Q w := by kernel_rfl
theorem ref257 {v_seq : Value} {Q : Value → World → Prop} {w : World} (h : S257 v_seq Q w) : callS Tryz.prog 257 #[v_seq] Q w :=
  callS_of mix (fun a w => Tryz.call257 a w) (by kernel_rfl) (by rw [eq257]; exact h)
-- maps.Keys[map[int]string,int,string]
def S258 (v_m : Value) (Q : Value → World → Prop) (w : World) : Prop :=
 act Tryz.prog (Instr.box 177 v_m) (fun t1 w_1 => 
 pur Tryz.prog (pure (.func (.func 280) #[] #[t1])) fun t3 => 
 Q t3 w_1) w
theorem eq258 (v_m : Value) (Q : Value → World → Prop) (w : World) : semF Tryz.prog 258 [v_m] Q w = S258 v_m Q w := by kernel_rfl
theorem ref258 {v_m : Value} {Q : Value → World → Prop} {w : World} (h : S258 v_m Q w) : callS Tryz.prog 258 #[v_m] Q w :=
  callS_of mix (fun a w => Tryz.call258 a w) (by kernel_rfl) (by rw [eq258]; exact h)
-- internal/stringslite.Clone
def S259 (v_s : Value) (Q : Value → World → Prop) (w : World) : Prop :=
 pur Tryz.prog (Builtin.len_ #[9] 3 #[v_s]) fun t5 => 
 pur Tryz.prog (binS .eql 3 false true t5 (.int .i64 0)) fun t6 => 
 condS t6
  (Q (.string ⟨#[]⟩) w)
  (pur Tryz.prog (Builtin.len_ #[9] 3 #[v_s]) fun t8 => 
 act Tryz.prog (Instr.makeSlice 240 t8 t8) (fun t9 w_1 => 
 act Tryz.prog (Builtin.copy_ #[240, 9] 3 #[t9, v_s]) (fun _ w_2 => 
 pur Tryz.prog (Instr.indexAt 240 t9 (.int .i64 0)) fun _ => 
 pur Tryz.prog (Builtin.len_ #[240] 3 #[t9]) fun _ => 
 act Tryz.prog (stuck "no such builtin here") (fun t17 w_3 => 
 Q t17 w_3) w_2) w_1) w)
theorem eq259 (v_s : Value) (Q : Value → World → Prop) (w : World) : semF Tryz.prog 259 [v_s] Q w = S259 v_s Q w := by kernel_rfl
theorem ref259 {v_s : Value} {Q : Value → World → Prop} {w : World} (h : S259 v_s Q w) : callS Tryz.prog 259 #[v_s] Q w :=
  callS_of mix (fun a w => Tryz.call259 a w) (by kernel_rfl) (by rw [eq259]; exact h)
-- commons/super.in
def S260 (v_n v_least v_most : Value) (Q : Value → World → Prop) (w : World) : Prop :=
 pur Tryz.prog (binS .geq 3 false false v_n v_least) fun t9 => 
 gd t9 true (fun k w_1 => k v_n w_1) (fun t11_1 w_2 => 
 gd t9 true (fun k_1 w_3 => k_1 v_most w_3) (fun t12_1 w_4 => 
 gd t9 true (fun k_2 w_5 => pur Tryz.prog (binS .leq 3 false false t11_1 t12_1) fun t13 => k_2 t13 w_5) (fun t13_1 w_6 => 
 pur Tryz.prog (pickS t9 t13_1 (.bool false)) fun t14 => 
 Q t14 w_6) w_4) w_2) w
theorem eq260 (v_n v_least v_most : Value) (Q : Value → World → Prop) (w : World) : semF Tryz.prog 260 [v_n, v_least, v_most] Q w = S260 v_n v_least v_most Q w := by kernel_rfl
theorem ref260 {v_n v_least v_most : Value} {Q : Value → World → Prop} {w : World} (h : S260 v_n v_least v_most Q w) : callS Tryz.prog 260 #[v_n, v_least, v_most] Q w :=
  callS_of mix (fun a w => Tryz.call260 a w) (by kernel_rfl) (by rw [eq260]; exact h)
-- commons/mode.Join
def S276 (v_a v_b : Value) (Q : Value → World → Prop) (w : World) : Prop :=
 pur Tryz.prog (Builtin.max_ #[3, 3] 3 #[v_a, v_b]) fun t7 => 
 Q t7 w
theorem eq276 (v_a v_b : Value) (Q : Value → World → Prop) (w : World) : semF Tryz.prog 276 [v_a, v_b] Q w = S276 v_a v_b Q w := by kernel_rfl
theorem ref276 {v_a v_b : Value} {Q : Value → World → Prop} {w : World} (h : S276 v_a v_b Q w) : callS Tryz.prog 276 #[v_a, v_b] Q w :=
  callS_of mix (fun a w => Tryz.call276 a w) (by kernel_rfl) (by rw [eq276]; exact h)
-- strings.Repeat
def S277 (v_s v_count : Value) (Q : Value → World → Prop) (w : World) : Prop :=
 pur Tryz.prog (binS .eql 3 false true v_count (.int .i64 0)) fun t13 => 
 condS t13
  (Q (.string ⟨#[]⟩) w)
  (pur Tryz.prog (binS .eql 3 false true v_count (.int .i64 1)) fun t15 => 
  condS t15
   (Q v_s w)
   (jn 0 (fun J => 
  pur Tryz.prog (binS .lss 3 false true v_count (.int .i64 0)) fun t18 => 
  condS t18
   (act Tryz.prog (Instr.makeInterface 9 (.string ⟨#[115, 116, 114, 105, 110, 103, 115, 58, 32, 110, 101, 103, 97, 116, 105, 118, 101, 32, 82, 101, 112, 101, 97, 116, 32, 99, 111, 117, 110, 116]⟩)) (fun _ w_1 => 
   act Tryz.prog (stuck "no such operation here") (fun _ w_2 => 
   J  w_2) w_1) w)
   (J  w))
 (fun  w_3 => ∀ _j : Fr, 
  pur Tryz.prog (Builtin.len_ #[9] 3 #[v_s]) fun t22 => 
  pur Tryz.prog (convert 3 300 t22) fun t23 => 
  pur Tryz.prog (convert 3 300 v_count) fun t25 => 
  callS Tryz.prog 302 #[t23, t25] (fun t26 w_4 => 
  pur Tryz.prog (Instr.extract t26 0) fun t27 => 
  pur Tryz.prog (Instr.extract t26 1) fun t28 => 
  jn 0 (fun J_1 => 
   pur Tryz.prog (binS .gtr 300 false true t27 (.int .u64 0)) fun t30 => 
   gd t30 false (fun k w_5 => k t28 w_5) (fun t32_1 w_6 => 
   gd t30 false (fun k_1 w_7 => pur Tryz.prog (binS .gtr 300 false true t32_1 (.int .u64 9223372036854775807)) fun t33 => k_1 t33 w_7) (fun t33_1 w_8 => 
   pur Tryz.prog (pickS t30 (.bool true) t33_1) fun t34 => 
   condS t34
    (act Tryz.prog (Instr.makeInterface 9 (.string ⟨#[115, 116, 114, 105, 110, 103, 115, 58, 32, 82, 101, 112, 101, 97, 116, 32, 111, 117, 116, 112, 117, 116, 32, 108, 101, 110, 103, 116, 104, 32, 111, 118, 101, 114, 102, 108, 111, 119]⟩)) (fun _ w_9 => 
    act Tryz.prog (stuck "no such operation here") (fun _ w_10 => 
    J_1  w_10) w_9) w_8)
    (J_1  w_8)) w_6) w_4)
  (fun  w_11 => ∀ _j : Fr, 
   pur Tryz.prog (convert 300 3 t28) fun t37 => 
   pur Tryz.prog (Builtin.len_ #[9] 3 #[v_s]) fun t39 => 
   pur Tryz.prog (binS .eql 3 false true t39 (.int .i64 0)) fun t40 => 
   condS t40
    (Q (.string ⟨#[]⟩) w_11)
    (jn 0 (fun J_2 => 
    pur Tryz.prog (Instr.index 9 v_s (.int .i64 0)) fun t42 => 
    jn 1 (fun J_3 => 
     pur Tryz.prog (binS .eql 5 false true t42 (.int .u8 32)) fun t44 => 
     condS t44
      (J_3 t44 w_11)
      (pur Tryz.prog (binS .eql 5 false true t42 (.int .u8 45)) fun t45 => 
      condS t45
       (J_3 t45 w_11)
       (pur Tryz.prog (binS .eql 5 false true t42 (.int .u8 48)) fun t46 => 
       condS t46
        (J_3 t46 w_11)
        (pur Tryz.prog (binS .eql 5 false true t42 (.int .u8 61)) fun t47 => 
        condS t47
         (J_3 t47 w_11)
         (pur Tryz.prog (binS .eql 5 false true t42 (.int .u8 9)) fun t48 => 
         J_3 t48 w_11)))))
    (fun t43 w_12 => ∀ _j : Fr, 
     condS t43
      (pur Tryz.prog (binS .leq 3 false true t37 (.int .i64 128)) fun t51 => 
      gd t51 true (fun k_2 w_13 => k_2 v_s w_13) (fun t53_1 w_14 => 
      gd t51 true (fun k_3 w_15 => callS Tryz.prog 303 #[(.string ⟨#[32, 32, 32, 32, 32, 32, 32, 32, 32, 32, 32, 32, 32, 32, 32, 32, 32, 32, 32, 32, 32, 32, 32, 32, 32, 32, 32, 32, 32, 32, 32, 32, 32, 32, 32, 32, 32, 32, 32, 32, 32, 32, 32, 32, 32, 32, 32, 32, 32, 32, 32, 32, 32, 32, 32, 32, 32, 32, 32, 32, 32, 32, 32, 32, 32, 32, 32, 32, 32, 32, 32, 32, 32, 32, 32, 32, 32, 32, 32, 32, 32, 32, 32, 32, 32, 32, 32, 32, 32, 32, 32, 32, 32, 32, 32, 32, 32, 32, 32, 32, 32, 32, 32, 32, 32, 32, 32, 32, 32, 32, 32, 32, 32, 32, 32, 32, 32, 32, 32, 32, 32, 32, 32, 32, 32, 32, 32, 32]⟩), t53_1] (fun t54 w_16 => k_3 t54 w_16) w_15) (fun t54_1 w_17 => 
      pur Tryz.prog (pickS t51 t54_1 (.bool false)) fun t55 => 
      condS t55
       (pur Tryz.prog (Instr.sliceAt 9 (.string ⟨#[32, 32, 32, 32, 32, 32, 32, 32, 32, 32, 32, 32, 32, 32, 32, 32, 32, 32, 32, 32, 32, 32, 32, 32, 32, 32, 32, 32, 32, 32, 32, 32, 32, 32, 32, 32, 32, 32, 32, 32, 32, 32, 32, 32, 32, 32, 32, 32, 32, 32, 32, 32, 32, 32, 32, 32, 32, 32, 32, 32, 32, 32, 32, 32, 32, 32, 32, 32, 32, 32, 32, 32, 32, 32, 32, 32, 32, 32, 32, 32, 32, 32, 32, 32, 32, 32, 32, 32, 32, 32, 32, 32, 32, 32, 32, 32, 32, 32, 32, 32, 32, 32, 32, 32, 32, 32, 32, 32, 32, 32, 32, 32, 32, 32, 32, 32, 32, 32, 32, 32, 32, 32, 32, 32, 32, 32, 32, 32]⟩) none (some t37) none) fun t57 => 
       Q t57 w_17)
       (pur Tryz.prog (binS .leq 3 false true t37 (.int .i64 128)) fun t60 => 
       gd t60 true (fun k_4 w_18 => k_4 v_s w_18) (fun t62_1 w_19 => 
       gd t60 true (fun k_5 w_20 => callS Tryz.prog 303 #[(.string ⟨#[45, 45, 45, 45, 45, 45, 45, 45, 45, 45, 45, 45, 45, 45, 45, 45, 45, 45, 45, 45, 45, 45, 45, 45, 45, 45, 45, 45, 45, 45, 45, 45, 45, 45, 45, 45, 45, 45, 45, 45, 45, 45, 45, 45, 45, 45, 45, 45, 45, 45, 45, 45, 45, 45, 45, 45, 45, 45, 45, 45, 45, 45, 45, 45, 45, 45, 45, 45, 45, 45, 45, 45, 45, 45, 45, 45, 45, 45, 45, 45, 45, 45, 45, 45, 45, 45, 45, 45, 45, 45, 45, 45, 45, 45, 45, 45, 45, 45, 45, 45, 45, 45, 45, 45, 45, 45, 45, 45, 45, 45, 45, 45, 45, 45, 45, 45, 45, 45, 45, 45, 45, 45, 45, 45, 45, 45, 45, 45]⟩), t62_1] (fun t63 w_21 => k_5 t63 w_21) w_20) (fun t63_1 w_22 => 
       pur Tryz.prog (pickS t60 t63_1 (.bool false)) fun t64 => 
       condS t64
        (pur Tryz.prog (Instr.sliceAt 9 (.string ⟨#[45, 45, 45, 45, 45, 45, 45, 45, 45, 45, 45, 45, 45, 45, 45, 45, 45, 45, 45, 45, 45, 45, 45, 45, 45, 45, 45, 45, 45, 45, 45, 45, 45, 45, 45, 45, 45, 45, 45, 45, 45, 45, 45, 45, 45, 45, 45, 45, 45, 45, 45, 45, 45, 45, 45, 45, 45, 45, 45, 45, 45, 45, 45, 45, 45, 45, 45, 45, 45, 45, 45, 45, 45, 45, 45, 45, 45, 45, 45, 45, 45, 45, 45, 45, 45, 45, 45, 45, 45, 45, 45, 45, 45, 45, 45, 45, 45, 45, 45, 45, 45, 45, 45, 45, 45, 45, 45, 45, 45, 45, 45, 45, 45, 45, 45, 45, 45, 45, 45, 45, 45, 45, 45, 45, 45, 45, 45, 45]⟩) none (some t37) none) fun t66 => 
        Q t66 w_22)
        (pur Tryz.prog (binS .leq 3 false true t37 (.int .i64 64)) fun t69 => 
        gd t69 true (fun k_6 w_23 => k_6 v_s w_23) (fun t71_1 w_24 => 
        gd t69 true (fun k_7 w_25 => callS Tryz.prog 303 #[(.string ⟨#[48, 48, 48, 48, 48, 48, 48, 48, 48, 48, 48, 48, 48, 48, 48, 48, 48, 48, 48, 48, 48, 48, 48, 48, 48, 48, 48, 48, 48, 48, 48, 48, 48, 48, 48, 48, 48, 48, 48, 48, 48, 48, 48, 48, 48, 48, 48, 48, 48, 48, 48, 48, 48, 48, 48, 48, 48, 48, 48, 48, 48, 48, 48, 48]⟩), t71_1] (fun t72 w_26 => k_7 t72 w_26) w_25) (fun t72_1 w_27 => 
        pur Tryz.prog (pickS t69 t72_1 (.bool false)) fun t73 => 
        condS t73
         (pur Tryz.prog (Instr.sliceAt 9 (.string ⟨#[48, 48, 48, 48, 48, 48, 48, 48, 48, 48, 48, 48, 48, 48, 48, 48, 48, 48, 48, 48, 48, 48, 48, 48, 48, 48, 48, 48, 48, 48, 48, 48, 48, 48, 48, 48, 48, 48, 48, 48, 48, 48, 48, 48, 48, 48, 48, 48, 48, 48, 48, 48, 48, 48, 48, 48, 48, 48, 48, 48, 48, 48, 48, 48]⟩) none (some t37) none) fun t75 => 
         Q t75 w_27)
         (pur Tryz.prog (binS .leq 3 false true t37 (.int .i64 128)) fun t78 => 
         gd t78 true (fun k_8 w_28 => k_8 v_s w_28) (fun t80_1 w_29 => 
         gd t78 true (fun k_9 w_30 => callS Tryz.prog 303 #[(.string ⟨#[61, 61, 61, 61, 61, 61, 61, 61, 61, 61, 61, 61, 61, 61, 61, 61, 61, 61, 61, 61, 61, 61, 61, 61, 61, 61, 61, 61, 61, 61, 61, 61, 61, 61, 61, 61, 61, 61, 61, 61, 61, 61, 61, 61, 61, 61, 61, 61, 61, 61, 61, 61, 61, 61, 61, 61, 61, 61, 61, 61, 61, 61, 61, 61, 61, 61, 61, 61, 61, 61, 61, 61, 61, 61, 61, 61, 61, 61, 61, 61, 61, 61, 61, 61, 61, 61, 61, 61, 61, 61, 61, 61, 61, 61, 61, 61, 61, 61, 61, 61, 61, 61, 61, 61, 61, 61, 61, 61, 61, 61, 61, 61, 61, 61, 61, 61, 61, 61, 61, 61, 61, 61, 61, 61, 61, 61, 61, 61]⟩), t80_1] (fun t81 w_31 => k_9 t81 w_31) w_30) (fun t81_1 w_32 => 
         pur Tryz.prog (pickS t78 t81_1 (.bool false)) fun t82 => 
         condS t82
          (pur Tryz.prog (Instr.sliceAt 9 (.string ⟨#[61, 61, 61, 61, 61, 61, 61, 61, 61, 61, 61, 61, 61, 61, 61, 61, 61, 61, 61, 61, 61, 61, 61, 61, 61, 61, 61, 61, 61, 61, 61, 61, 61, 61, 61, 61, 61, 61, 61, 61, 61, 61, 61, 61, 61, 61, 61, 61, 61, 61, 61, 61, 61, 61, 61, 61, 61, 61, 61, 61, 61, 61, 61, 61, 61, 61, 61, 61, 61, 61, 61, 61, 61, 61, 61, 61, 61, 61, 61, 61, 61, 61, 61, 61, 61, 61, 61, 61, 61, 61, 61, 61, 61, 61, 61, 61, 61, 61, 61, 61, 61, 61, 61, 61, 61, 61, 61, 61, 61, 61, 61, 61, 61, 61, 61, 61, 61, 61, 61, 61, 61, 61, 61, 61, 61, 61, 61, 61]⟩) none (some t37) none) fun t84 => 
          Q t84 w_32)
          (pur Tryz.prog (binS .leq 3 false true t37 (.int .i64 64)) fun t87 => 
          gd t87 true (fun k_10 w_33 => k_10 v_s w_33) (fun t89_1 w_34 => 
          gd t87 true (fun k_11 w_35 => callS Tryz.prog 303 #[(.string ⟨#[9, 9, 9, 9, 9, 9, 9, 9, 9, 9, 9, 9, 9, 9, 9, 9, 9, 9, 9, 9, 9, 9, 9, 9, 9, 9, 9, 9, 9, 9, 9, 9, 9, 9, 9, 9, 9, 9, 9, 9, 9, 9, 9, 9, 9, 9, 9, 9, 9, 9, 9, 9, 9, 9, 9, 9, 9, 9, 9, 9, 9, 9, 9, 9]⟩), t89_1] (fun t90 w_36 => k_11 t90 w_36) w_35) (fun t90_1 w_37 => 
          pur Tryz.prog (pickS t87 t90_1 (.bool false)) fun t91 => 
          condS t91
           (pur Tryz.prog (Instr.sliceAt 9 (.string ⟨#[9, 9, 9, 9, 9, 9, 9, 9, 9, 9, 9, 9, 9, 9, 9, 9, 9, 9, 9, 9, 9, 9, 9, 9, 9, 9, 9, 9, 9, 9, 9, 9, 9, 9, 9, 9, 9, 9, 9, 9, 9, 9, 9, 9, 9, 9, 9, 9, 9, 9, 9, 9, 9, 9, 9, 9, 9, 9, 9, 9, 9, 9, 9, 9]⟩) none (some t37) none) fun t93 => 
           Q t93 w_37)
           (J_2  w_37)) w_34) w_32)) w_29) w_27)) w_24) w_22)) w_19) w_17)) w_14) w_12)
      (J_2  w_12)))
   (fun  w_38 => ∀ _j : Fr, 
    jn 1 (fun J_4 => 
     pur Tryz.prog (binS .gtr 3 false true t37 (.int .i64 8192)) fun t96 => 
     condS t96
      (pur Tryz.prog (Builtin.len_ #[9] 3 #[v_s]) fun t98 => 
      pur Tryz.prog (binS .quo 3 true false (.int .i64 8192) t98) fun t99 => 
      pur Tryz.prog (Builtin.len_ #[9] 3 #[v_s]) fun t101 => 
      pur Tryz.prog (binS .mul 3 false false t99 t101) fun t102 => 
      pur Tryz.prog (binS .eql 3 false true t102 (.int .i64 0)) fun t104 => 
      condS t104
       (pur Tryz.prog (Builtin.len_ #[9] 3 #[v_s]) fun t106 => 
       J_4 t106 w_38)
       (J_4 t102 w_38))
      (J_4 t37 w_38))
    (fun v_chunkMax w_39 => ∀ _j : Fr, 
     act Tryz.prog (Instr.alloc 347 true (.tuple #[])) (fun t9 w_40 => 
     callS Tryz.prog 304 #[t9, t37] (fun _ w_41 => 
     callS Tryz.prog 305 #[t9, v_s] (fun _ w_42 => 
     lp 0 (fun J_5 => fun  w_43 => ∀ _j : Fr, 
      callS Tryz.prog 306 #[t9] (fun t111 w_44 => 
      pur Tryz.prog (binS .lss 3 false false t111 t37) fun t113 => 
      condS t113
       (callS Tryz.prog 306 #[t9] (fun t115 w_45 => 
      pur Tryz.prog (binS .sub 3 false false t37 t115) fun t116 => 
      callS Tryz.prog 306 #[t9] (fun t117 w_46 => 
      pur Tryz.prog (Builtin.min_ #[3, 3, 3] 3 #[t116, t117, v_chunkMax]) fun t119 => 
      callS Tryz.prog 307 #[t9] (fun t120 w_47 => 
      pur Tryz.prog (Instr.sliceAt 9 t120 none (some t119) none) fun t122 => 
      callS Tryz.prog 305 #[t9, t122] (fun _ w_48 => 
      J_5  w_48) w_47) w_46) w_45) w_44)
       (callS Tryz.prog 307 #[t9] (fun t124 w_49 => 
     Q t124 w_49) w_44)) w_43) [] w_42) w_41) w_40) w_39))))) w_3)))
theorem eq277 (v_s v_count : Value) (Q : Value → World → Prop) (w : World) : semF Tryz.prog 277 [v_s, v_count] Q w = S277 v_s v_count Q w := by kernel_rfl
theorem ref277 {v_s v_count : Value} {Q : Value → World → Prop} {w : World} (h : S277 v_s v_count Q w) : callS Tryz.prog 277 #[v_s, v_count] Q w :=
  callS_of mix (fun a w => Tryz.call277 a w) (by kernel_rfl) (by rw [eq277]; exact h)
-- slices.Collect[int]
def S278 (v_seq : Value) (Q : Value → World → Prop) (w : World) : Prop :=
 callS Tryz.prog 308 #[(.slice none 0 0), v_seq] (fun t4 w_1 => 
 Q t4 w_1) w
theorem eq278 (v_seq : Value) (Q : Value → World → Prop) (w : World) : semF Tryz.prog 278 [v_seq] Q w = S278 v_seq Q w := by kernel_rfl
theorem ref278 {v_seq : Value} {Q : Value → World → Prop} {w : World} (h : S278 v_seq Q w) : callS Tryz.prog 278 #[v_seq] Q w :=
  callS_of mix (fun a w => Tryz.call278 a w) (by kernel_rfl) (by rw [eq278]; exact h)
-- slices.Sort[[]int,int]
def S279 (v_x : Value) (Q : Value → World → Prop) (w : World) : Prop :=
 pur Tryz.prog (Builtin.len_ #[65] 3 #[v_x]) fun t4 => 
 pur Tryz.prog (convert 3 300 t4) fun t8 => 
 callS Tryz.prog 248 #[t8] (fun t9 w_1 => 
 callS Tryz.prog 309 #[v_x, (.int .i64 0), t4, t9] (fun _ w_2 => 
 Q (.tuple #[]) w_2) w_1) w
theorem eq279 (v_x : Value) (Q : Value → World → Prop) (w : World) : semF Tryz.prog 279 [v_x] Q w = S279 v_x Q w := by kernel_rfl
theorem ref279 {v_x : Value} {Q : Value → World → Prop} {w : World} (h : S279 v_x Q w) : callS Tryz.prog 279 #[v_x] Q w :=
  callS_of mix (fun a w => Tryz.call279 a w) (by kernel_rfl) (by rw [eq279]; exact h)
-- maps.Keys[map[int]string,int,string]$1
def S280 (v_yield t1 : Value) (Q : Value → World → Prop) (w : World) : Prop :=
 rd Tryz.prog (Instr.loadAt 177 t1) (fun t4 => 
 act Tryz.prog (Instr.range 177 t4) (fun t5 w_1 => 
 lp 0 (fun J => fun  w_2 => ∀ _j : Fr, 
  act Tryz.prog (Instr.next t5 false 0) (fun t6 w_3 => 
  pur Tryz.prog (Instr.extract t6 0) fun t7 => 
  condS t7
   (rd Tryz.prog (Instr.entry t5) (fun t8 => 
  pur Tryz.prog (Instr.extract t8 0) fun t9 => 
  callF Tryz.prog v_yield #[t9] (fun t12 w_4 => 
  pur Tryz.prog (Op.unary .not t12) fun t13 => 
  condS t13
   (Q (.tuple #[]) w_4)
   (J  w_4)) w_3) w_3)
   (Q (.tuple #[]) w_3)) w_2) [] w_1) w) w
theorem eq280 (v_yield t1 : Value) (Q : Value → World → Prop) (w : World) : semF Tryz.prog 280 [v_yield, t1] Q w = S280 v_yield t1 Q w := by kernel_rfl
theorem ref280 {v_yield t1 : Value} {Q : Value → World → Prop} {w : World} (h : S280 v_yield t1 Q w) : callS Tryz.prog 280 #[v_yield, t1] Q w :=
  callS_of mix (fun a w => Tryz.call280 a w) (by kernel_rfl) (by rw [eq280]; exact h)
-- math/bits.Mul
def S302 (v_x v_y : Value) (Q : Value → World → Prop) (w : World) : Prop :=
 condS (.bool false)
  (pur Tryz.prog (convert 300 321 v_x) fun t12 => 
  pur Tryz.prog (convert 300 321 v_y) fun t14 => 
  callS Tryz.prog 317 #[t12, t14] (fun t15 w_1 => 
  pur Tryz.prog (Instr.extract t15 0) fun t16 => 
  pur Tryz.prog (Instr.extract t15 1) fun t17 => 
  pur Tryz.prog (convert 321 300 t16) fun t19 => 
  pur Tryz.prog (convert 321 300 t17) fun t21 => 
  Q (.tuple #[t19, t21]) w_1) w)
  (callS Tryz.prog 318 #[v_x, v_y] (fun t25 w_2 => 
 pur Tryz.prog (Instr.extract t25 0) fun t26 => 
 pur Tryz.prog (Instr.extract t25 1) fun t27 => 
 Q (.tuple #[t26, t27]) w_2) w)
theorem eq302 (v_x v_y : Value) (Q : Value → World → Prop) (w : World) : semF Tryz.prog 302 [v_x, v_y] Q w = S302 v_x v_y Q w := by kernel_rfl
theorem ref302 {v_x v_y : Value} {Q : Value → World → Prop} {w : World} (h : S302 v_x v_y Q w) : callS Tryz.prog 302 #[v_x, v_y] Q w :=
  callS_of mix (fun a w => Tryz.call302 a w) (by kernel_rfl) (by rw [eq302]; exact h)
-- strings.HasPrefix
def S303 (v_s v_prefix : Value) (Q : Value → World → Prop) (w : World) : Prop :=
 callS Tryz.prog 319 #[v_s, v_prefix] (fun t7 w_1 => 
 Q t7 w_1) w
theorem eq303 (v_s v_prefix : Value) (Q : Value → World → Prop) (w : World) : semF Tryz.prog 303 [v_s, v_prefix] Q w = S303 v_s v_prefix Q w := by kernel_rfl
theorem ref303 {v_s v_prefix : Value} {Q : Value → World → Prop} {w : World} (h : S303 v_s v_prefix Q w) : callS Tryz.prog 303 #[v_s, v_prefix] Q w :=
  callS_of mix (fun a w => Tryz.call303 a w) (by kernel_rfl) (by rw [eq303]; exact h)
-- (*strings.Builder).Grow
def S304 (v_b v_n : Value) (Q : Value → World → Prop) (w : World) : Prop :=
 callS Tryz.prog 320 #[v_b] (fun _ w_1 => 
 jn 0 (fun J => 
  pur Tryz.prog (binS .lss 3 false true v_n (.int .i64 0)) fun t7 => 
  condS t7
   (act Tryz.prog (Instr.makeInterface 9 (.string ⟨#[115, 116, 114, 105, 110, 103, 115, 46, 66, 117, 105, 108, 100, 101, 114, 46, 71, 114, 111, 119, 58, 32, 110, 101, 103, 97, 116, 105, 118, 101, 32, 99, 111, 117, 110, 116]⟩)) (fun _ w_2 => 
   act Tryz.prog (stuck "no such operation here") (fun _ w_3 => 
   J  w_3) w_2) w_1)
   (J  w_1))
 (fun  w_4 => ∀ _j : Fr, 
  pur Tryz.prog (nilV v_b) fun t10 => 
  pur Tryz.prog (Instr.fieldAt 347 t10 1) fun t11 => 
  rd Tryz.prog (Instr.loadAt 240 t11) (fun t12 => 
  pur Tryz.prog (Builtin.cap_ #[240] 3 #[t12]) fun t13 => 
  pur Tryz.prog (nilV v_b) fun t15 => 
  pur Tryz.prog (Instr.fieldAt 347 t15 1) fun t16 => 
  rd Tryz.prog (Instr.loadAt 240 t16) (fun t17 => 
  pur Tryz.prog (Builtin.len_ #[240] 3 #[t17]) fun t18 => 
  pur Tryz.prog (binS .sub 3 false false t13 t18) fun t19 => 
  pur Tryz.prog (binS .lss 3 false false t19 v_n) fun t21 => 
  condS t21
   (callS Tryz.prog 321 #[v_b, v_n] (fun _ w_5 => 
   Q (.tuple #[]) w_5) (World.drew w_4))
   (Q (.tuple #[]) (World.drew w_4))) (World.drew w_4)) (World.drew w_4))) w
theorem eq304 (v_b v_n : Value) (Q : Value → World → Prop) (w : World) : semF Tryz.prog 304 [v_b, v_n] Q w = S304 v_b v_n Q w := by kernel_rfl
theorem ref304 {v_b v_n : Value} {Q : Value → World → Prop} {w : World} (h : S304 v_b v_n Q w) : callS Tryz.prog 304 #[v_b, v_n] Q w :=
  callS_of mix (fun a w => Tryz.call304 a w) (by kernel_rfl) (by rw [eq304]; exact h)
-- (*strings.Builder).WriteString
def S305 (v_b v_s : Value) (Q : Value → World → Prop) (w : World) : Prop :=
 callS Tryz.prog 320 #[v_b] (fun _ w_1 => 
 pur Tryz.prog (nilV v_b) fun t10 => 
 pur Tryz.prog (Instr.fieldAt 347 t10 1) fun t11 => 
 rd Tryz.prog (Instr.loadAt 240 t11) (fun t12 => 
 act Tryz.prog (Builtin.append_ #[240, 9] 240 #[t12, v_s]) (fun t14 w_2 => 
 pur Tryz.prog (nilV v_b) fun t15 => 
 pur Tryz.prog (Instr.fieldAt 347 t15 1) fun t16 => 
 act Tryz.prog (thenU (Instr.storeAt 240 t16 t14)) (fun _ w_3 => 
 pur Tryz.prog (Builtin.len_ #[9] 3 #[v_s]) fun t18 => 
 Q (.tuple #[t18, .nilIface]) w_3) w_2) w_1) w_1) w
theorem eq305 (v_b v_s : Value) (Q : Value → World → Prop) (w : World) : semF Tryz.prog 305 [v_b, v_s] Q w = S305 v_b v_s Q w := by kernel_rfl
theorem ref305 {v_b v_s : Value} {Q : Value → World → Prop} {w : World} (h : S305 v_b v_s Q w) : callS Tryz.prog 305 #[v_b, v_s] Q w :=
  callS_of mix (fun a w => Tryz.call305 a w) (by kernel_rfl) (by rw [eq305]; exact h)
-- (*strings.Builder).Len
def S306 (v_b : Value) (Q : Value → World → Prop) (w : World) : Prop :=
 pur Tryz.prog (nilV v_b) fun t4 => 
 pur Tryz.prog (Instr.fieldAt 347 t4 1) fun t5 => 
 rd Tryz.prog (Instr.loadAt 240 t5) (fun t6 => 
 pur Tryz.prog (Builtin.len_ #[240] 3 #[t6]) fun t7 => 
 Q t7 w) w
theorem eq306 (v_b : Value) (Q : Value → World → Prop) (w : World) : semF Tryz.prog 306 [v_b] Q w = S306 v_b Q w := by kernel_rfl
theorem ref306 {v_b : Value} {Q : Value → World → Prop} {w : World} (h : S306 v_b Q w) : callS Tryz.prog 306 #[v_b] Q w :=
  callS_of mix (fun a w => Tryz.call306 a w) (by kernel_rfl) (by rw [eq306]; exact h)
-- (*strings.Builder).String
def S307 (v_b : Value) (Q : Value → World → Prop) (w : World) : Prop :=
 ∃ S : World → Prop, S (World.drew w) ∧ 
 pur Tryz.prog (nilV v_b) fun t4 => 
 pur Tryz.prog (Instr.fieldAt 347 t4 1) fun t5 => 
 hld Tryz.prog S (Instr.loadAt 240 t5) fun _ => 
 act Tryz.prog (stuck "no such builtin here") (fun _ w_1 => S w_1 ∧ 
 pur Tryz.prog (nilV v_b) fun t9 => 
 pur Tryz.prog (Instr.fieldAt 347 t9 1) fun t10 => 
 hld Tryz.prog S (Instr.loadAt 240 t10) fun t11 => 
 pur Tryz.prog (Builtin.len_ #[240] 3 #[t11]) fun _ => 
 act Tryz.prog (stuck "no such builtin here") (fun t13 w_2 => S w_2 ∧ 
 Q t13 w_2) w_1) (World.drew w)
theorem eq307 (v_b : Value) (Q : Value → World → Prop) (w : World) : semF Tryz.prog 307 [v_b] Q w = S307 v_b Q w := by kernel_rfl
theorem ref307 {v_b : Value} {Q : Value → World → Prop} {w : World} (h : S307 v_b Q w) : callS Tryz.prog 307 #[v_b] Q w :=
  callS_of mix (fun a w => Tryz.call307 a w) (by kernel_rfl) (by rw [eq307]; exact h)
-- math/bits.Mul32
def S317 (v_x v_y : Value) (Q : Value → World → Prop) (w : World) : Prop :=
 pur Tryz.prog (convert 321 160 v_x) fun t8 => 
 pur Tryz.prog (convert 321 160 v_y) fun t10 => 
 pur Tryz.prog (binS .mul 160 false false t8 t10) fun t11 => 
 pur Tryz.prog (binS .shr 160 false true t11 (.int .u64 32)) fun t13 => 
 pur Tryz.prog (convert 160 321 t13) fun t14 => 
 pur Tryz.prog (convert 160 321 t11) fun t16 => 
 Q (.tuple #[t14, t16]) w
theorem eq317 (v_x v_y : Value) (Q : Value → World → Prop) (w : World) : semF Tryz.prog 317 [v_x, v_y] Q w = S317 v_x v_y Q w := by kernel_rfl
theorem ref317 {v_x v_y : Value} {Q : Value → World → Prop} {w : World} (h : S317 v_x v_y Q w) : callS Tryz.prog 317 #[v_x, v_y] Q w :=
  callS_of mix (fun a w => Tryz.call317 a w) (by kernel_rfl) (by rw [eq317]; exact h)
-- math/bits.Mul64
def S318 (v_x v_y : Value) (Q : Value → World → Prop) (w : World) : Prop :=
 pur Tryz.prog (binS .and 160 false true v_x (.int .u64 4294967295)) fun t15 => 
 pur Tryz.prog (binS .shr 160 false true v_x (.int .u64 32)) fun t17 => 
 pur Tryz.prog (binS .and 160 false true v_y (.int .u64 4294967295)) fun t19 => 
 pur Tryz.prog (binS .shr 160 false true v_y (.int .u64 32)) fun t21 => 
 pur Tryz.prog (binS .mul 160 false false t15 t19) fun t24 => 
 pur Tryz.prog (binS .mul 160 false false t17 t19) fun t27 => 
 pur Tryz.prog (binS .shr 160 false true t24 (.int .u64 32)) fun t29 => 
 pur Tryz.prog (binS .add 160 false false t27 t29) fun t30 => 
 pur Tryz.prog (binS .and 160 false true t30 (.int .u64 4294967295)) fun t32 => 
 pur Tryz.prog (binS .shr 160 false true t30 (.int .u64 32)) fun t34 => 
 pur Tryz.prog (binS .mul 160 false false t15 t21) fun t38 => 
 pur Tryz.prog (binS .add 160 false false t32 t38) fun t39 => 
 pur Tryz.prog (binS .mul 160 false false t17 t21) fun t42 => 
 pur Tryz.prog (binS .add 160 false false t42 t34) fun t44 => 
 pur Tryz.prog (binS .shr 160 false true t39 (.int .u64 32)) fun t46 => 
 pur Tryz.prog (binS .add 160 false false t44 t46) fun t47 => 
 pur Tryz.prog (binS .mul 160 false false v_x v_y) fun t50 => 
 Q (.tuple #[t47, t50]) w
theorem eq318 (v_x v_y : Value) (Q : Value → World → Prop) (w : World) : semF Tryz.prog 318 [v_x, v_y] Q w = S318 v_x v_y Q w := by kernel_rfl
theorem ref318 {v_x v_y : Value} {Q : Value → World → Prop} {w : World} (h : S318 v_x v_y Q w) : callS Tryz.prog 318 #[v_x, v_y] Q w :=
  callS_of mix (fun a w => Tryz.call318 a w) (by kernel_rfl) (by rw [eq318]; exact h)
-- internal/stringslite.HasPrefix
def S319 (v_s v_prefix : Value) (Q : Value → World → Prop) (w : World) : Prop :=
 pur Tryz.prog (Builtin.len_ #[9] 3 #[v_s]) fun t6 => 
 pur Tryz.prog (Builtin.len_ #[9] 3 #[v_prefix]) fun t8 => 
 pur Tryz.prog (binS .geq 3 false false t6 t8) fun t9 => 
 gd t9 true (fun k w_1 => k v_s w_1) (fun t11_1 w_2 => 
 gd t9 true (fun k_1 w_3 => k_1 v_prefix w_3) (fun t12_1 w_4 => 
 gd t9 true (fun k_2 w_5 => pur Tryz.prog (Builtin.len_ #[9] 3 #[t12_1]) fun t13 => k_2 t13 w_5) (fun t13_1 w_6 => 
 gd t9 true (fun k_3 w_7 => pur Tryz.prog (Instr.sliceAt 9 t11_1 none (some t13_1) none) fun t14 => k_3 t14 w_7) (fun t14_1 w_8 => 
 gd t9 true (fun k_4 w_9 => k_4 v_prefix w_9) (fun t15_1 w_10 => 
 gd t9 true (fun k_5 w_11 => pur Tryz.prog (binS .eql 9 false false t14_1 t15_1) fun t16 => k_5 t16 w_11) (fun t16_1 w_12 => 
 pur Tryz.prog (pickS t9 t16_1 (.bool false)) fun t17 => 
 Q t17 w_12) w_10) w_8) w_6) w_4) w_2) w
theorem eq319 (v_s v_prefix : Value) (Q : Value → World → Prop) (w : World) : semF Tryz.prog 319 [v_s, v_prefix] Q w = S319 v_s v_prefix Q w := by kernel_rfl
theorem ref319 {v_s v_prefix : Value} {Q : Value → World → Prop} {w : World} (h : S319 v_s v_prefix Q w) : callS Tryz.prog 319 #[v_s, v_prefix] Q w :=
  callS_of mix (fun a w => Tryz.call319 a w) (by kernel_rfl) (by rw [eq319]; exact h)
-- (*strings.Builder).grow
def S321 (v_b v_n : Value) (Q : Value → World → Prop) (w : World) : Prop :=
 ∃ S : World → Prop, S (World.drew w) ∧ 
 pur Tryz.prog (nilV v_b) fun t6 => 
 pur Tryz.prog (Instr.fieldAt 347 t6 1) fun t7 => 
 hld Tryz.prog S (Instr.loadAt 240 t7) fun t8 => 
 pur Tryz.prog (Builtin.cap_ #[240] 3 #[t8]) fun t9 => 
 pur Tryz.prog (binS .mul 3 true false (.int .i64 2) t9) fun t10 => 
 pur Tryz.prog (binS .add 3 false false t10 v_n) fun t12 => 
 callS Tryz.prog 334 #[t12] (fun t13 w_1 => S w_1 ∧ 
 pur Tryz.prog (nilV v_b) fun t15 => 
 pur Tryz.prog (Instr.fieldAt 347 t15 1) fun t16 => 
 hld Tryz.prog S (Instr.loadAt 240 t16) fun t17 => 
 pur Tryz.prog (Builtin.len_ #[240] 3 #[t17]) fun t18 => 
 pur Tryz.prog (Instr.sliceAt 240 t13 none (some t18) none) fun t19 => 
 pur Tryz.prog (nilV v_b) fun t22 => 
 pur Tryz.prog (Instr.fieldAt 347 t22 1) fun t23 => 
 rd Tryz.prog (Instr.loadAt 240 t23) (fun t24 => 
 act Tryz.prog (Builtin.copy_ #[240, 240] 3 #[t19, t24]) (fun _ w_2 => 
 pur Tryz.prog (nilV v_b) fun t28 => 
 pur Tryz.prog (Instr.fieldAt 347 t28 1) fun t29 => 
 act Tryz.prog (thenU (Instr.storeAt 240 t29 t19)) (fun _ w_3 => 
 Q (.tuple #[]) w_3) w_2) w_1) w_1) (World.drew w)
theorem eq321 (v_b v_n : Value) (Q : Value → World → Prop) (w : World) : semF Tryz.prog 321 [v_b, v_n] Q w = S321 v_b v_n Q w := by kernel_rfl
theorem ref321 {v_b v_n : Value} {Q : Value → World → Prop} {w : World} (h : S321 v_b v_n Q w) : callS Tryz.prog 321 #[v_b, v_n] Q w :=
  callS_of mix (fun a w => Tryz.call321 a w) (by kernel_rfl) (by rw [eq321]; exact h)
end Go.Proofs.YtdnbegjamoeahaaGreatU
