/- The readings of the functions' code, printed by a program, each held equal to the one that is computed: for all arguments, all worlds.
   Conditions: none. -/
import Derived.Test.YtmmnifbponhhfaaGreatTShC
import Derived.Test.YtmmnifbponhhfaaGreatProg
import Derived.KernelRfl
set_option linter.unusedSimpArgs false
set_option linter.unusedVariables false
namespace Go.Proofs.YtmmnifbponhhfaaGreatT
open Go.Sh
set_option maxRecDepth 100000
theorem mix : Tryz.prog.follows .mixedOrders = true := by kernel_rfl




-- commons/commonslaw26.HistTells
def S3 (v_l v_cuts : Value) (Q : Value → World → Prop) (w : World) : Prop :=
 callS Tryz.prog 4 #[v_l] (fun t23 w_1 => 
 pur Tryz.prog (Op.unary .not t23) fun t24 => 
 gd t24 false (fun k w_2 => k v_cuts w_2) (fun t26_1 w_3 => 
 gd t24 false (fun k_1 w_4 => pur Tryz.prog (Builtin.len_ #[23] 3 #[t26_1]) fun t27 => k_1 t27 w_4) (fun t27_1 w_5 => 
 gd t24 false (fun k_2 w_6 => pur Tryz.prog (binS .gtr 3 false true t27_1 (.int .i64 40)) fun t28 => k_2 t28 w_6) (fun t28_1 w_7 => 
 pur Tryz.prog (pickS t24 (.bool true) t28_1) fun t29 => 
 condS t29
  (callS Tryz.prog 5 #[] (fun t30 w_8 => 
  Q t30 w_8) w_7)
  (pur Tryz.prog (Instr.build 43 #[]) fun t31 => 
 act Tryz.prog (Instr.box 43 t31) (fun t32 w_9 => 
 callS Tryz.prog 6 #[v_l] (fun t34 w_10 => 
 lp 1 (fun J => fun v_k w_11 => ∀ _j : Fr, 
  pur Tryz.prog (binS .lss 3 false true v_k (.int .i64 2)) fun t36 => 
  condS t36
   (callS Tryz.prog 7 #[v_cuts] (fun t40 w_12 => 
  callS Tryz.prog 8 #[v_l] (fun t43 w_13 => 
  pur Tryz.prog (Instr.extract t43 0) fun t44 => 
  pur Tryz.prog (Instr.extract t43 1) fun t45 => 
  callS Tryz.prog 9 #[t34] (fun t48 w_14 => 
  pur Tryz.prog (Instr.extract t48 0) fun t49 => 
  pur Tryz.prog (Instr.extract t48 1) fun t50 => 
  pur Tryz.prog (binS .neq 47 false false t45 t50) fun t53 => 
  gd t53 false (fun k_3 w_15 => k_3 t44 w_15) (fun t55_1 w_16 => 
  gd t53 false (fun k_4 w_17 => pur Tryz.prog (Builtin.len_ #[29] 3 #[t55_1]) fun t56 => k_4 t56 w_17) (fun t56_1 w_18 => 
  gd t53 false (fun k_5 w_19 => k_5 t49 w_19) (fun t57_1 w_20 => 
  gd t53 false (fun k_6 w_21 => pur Tryz.prog (Builtin.len_ #[29] 3 #[t57_1]) fun t58 => k_6 t58 w_21) (fun t58_1 w_22 => 
  gd t53 false (fun k_7 w_23 => pur Tryz.prog (binS .neq 3 false false t56_1 t58_1) fun t59 => k_7 t59 w_23) (fun t59_1 w_24 => 
  pur Tryz.prog (pickS t53 (.bool true) t59_1) fun t60 => 
  condS t60
   (Q (.bool false) w_24)
   (lp 1 (fun J_1 => fun v_i w_25 => ∀ _j : Fr, 
   pur Tryz.prog (Builtin.len_ #[29] 3 #[t44]) fun t63 => 
   pur Tryz.prog (binS .lss 3 false false v_i t63) fun t64 => 
   condS t64
    (pur Tryz.prog (Instr.indexAt 29 t44 v_i) fun t70 => 
   rd Tryz.prog (Instr.loadAt 23 t70) (fun t71 => 
   callS Tryz.prog 10 #[t32, t71] (fun _ w_26 => 
   pur Tryz.prog (Instr.indexAt 29 t44 v_i) fun t75 => 
   rd Tryz.prog (Instr.loadAt 23 t75) (fun t76 => 
   pur Tryz.prog (Instr.indexAt 29 t49 v_i) fun t79 => 
   rd Tryz.prog (Instr.loadAt 23 t79) (fun t80 => 
   callS Tryz.prog 11 #[t76, t80] (fun t81 w_27 => 
   pur Tryz.prog (Op.unary .not t81) fun t82 => 
   condS t82
    (Q (.bool false) w_27)
    (pur Tryz.prog (binS .add 3 false true v_i (.int .i64 1)) fun t66 => 
   J_1 t66 w_27)) (World.drew w_26)) (World.drew w_26)) (World.drew w_26)) w_25) w_25)
    (callS Tryz.prog 12 #[v_l, t40] (fun t86 w_28 => 
  pur Tryz.prog (Instr.extract t86 0) fun t87 => 
  pur Tryz.prog (Instr.extract t86 1) fun t88 => 
  callS Tryz.prog 13 #[t34, v_cuts] (fun t92 w_29 => 
  pur Tryz.prog (Instr.extract t92 0) fun t93 => 
  pur Tryz.prog (Instr.extract t92 1) fun t94 => 
  callS Tryz.prog 14 #[t32, t88] (fun _ w_30 => 
  pur Tryz.prog (binS .neq 4 false false t87 t93) fun t100 => 
  gd t100 false (fun k_8 w_31 => k_8 t88 w_31) (fun t102_1 w_32 => 
  gd t100 false (fun k_9 w_33 => k_9 t94 w_33) (fun t103_1 w_34 => 
  gd t100 false (fun k_10 w_35 => callS Tryz.prog 15 #[t102_1, t103_1] (fun t104 w_36 => k_10 t104 w_36) w_35) (fun t104_1 w_37 => 
  gd t100 false (fun k_11 w_38 => pur Tryz.prog (Op.unary .not t104_1) fun t105 => k_11 t105 w_38) (fun t105_1 w_39 => 
  pur Tryz.prog (pickS t100 (.bool true) t105_1) fun t106 => 
  gd t106 false (fun k_12 w_40 => k_12 t40 w_40) (fun t108_1 w_41 => 
  gd t106 false (fun k_13 w_42 => k_13 v_cuts w_42) (fun t109_1 w_43 => 
  gd t106 false (fun k_14 w_44 => callS Tryz.prog 16 #[t108_1, t109_1] (fun t110 w_45 => k_14 t110 w_45) w_44) (fun t110_1 w_46 => 
  gd t106 false (fun k_15 w_47 => pur Tryz.prog (Op.unary .not t110_1) fun t111 => k_15 t111 w_47) (fun t111_1 w_48 => 
  pur Tryz.prog (pickS t106 (.bool true) t111_1) fun t112 => 
  condS t112
   (Q (.bool false) w_48)
   (pur Tryz.prog (binS .add 3 false true v_k (.int .i64 1)) fun t38 => 
  J t38 w_48)) w_46) w_43) w_41) w_39) w_37) w_34) w_32) w_30) w_29) w_28) w_25)) [(.int .i64 0)] w_24)) w_22) w_20) w_18) w_16) w_14) w_13) w_12) w_11)
   (pur Tryz.prog (Builtin.len_ #[22] 3 #[v_l]) fun t114 => 
 pur Tryz.prog (binS .gtr 3 false true t114 (.int .i64 40)) fun t115 => 
 condS t115
  (callS Tryz.prog 5 #[] (fun t116 w_49 => 
  gd t116 true (fun k_16 w_50 => k_16 t32 w_50) (fun t118_1 w_51 => 
  gd t116 true (fun k_17 w_52 => callS Tryz.prog 17 #[t118_1] (fun t119 w_53 => k_17 t119 w_53) w_52) (fun t119_1 w_54 => 
  pur Tryz.prog (pickS t116 t119_1 (.bool false)) fun t120 => 
  Q t120 w_54) w_51) w_49) w_11)
  (callS Tryz.prog 18 #[v_l] (fun t123 w_55 => 
 pur Tryz.prog (Instr.extract t123 0) fun t124 => 
 pur Tryz.prog (Instr.extract t123 1) fun t125 => 
 callS Tryz.prog 19 #[t34] (fun t128 w_56 => 
 pur Tryz.prog (Instr.extract t128 0) fun t129 => 
 pur Tryz.prog (Instr.extract t128 1) fun t130 => 
 callS Tryz.prog 5 #[] (fun t131 w_57 => 
 gd t131 true (fun k_18 w_58 => k_18 t124 w_58) (fun t133_1 w_59 => 
 gd t131 true (fun k_19 w_60 => k_19 t129 w_60) (fun t134_1 w_61 => 
 gd t131 true (fun k_20 w_62 => pur Tryz.prog (binS .eql 4 false false t133_1 t134_1) fun t135 => k_20 t135 w_62) (fun t135_1 w_63 => 
 pur Tryz.prog (pickS t131 t135_1 (.bool false)) fun t136 => 
 gd t136 true (fun k_21 w_64 => k_21 t125 w_64) (fun t138_1 w_65 => 
 gd t136 true (fun k_22 w_66 => k_22 t130 w_66) (fun t139_1 w_67 => 
 gd t136 true (fun k_23 w_68 => pur Tryz.prog (binS .eql 47 false false t138_1 t139_1) fun t140 => k_23 t140 w_68) (fun t140_1 w_69 => 
 pur Tryz.prog (pickS t136 t140_1 (.bool false)) fun t141 => 
 gd t141 true (fun k_24 w_70 => k_24 t32 w_70) (fun t143_1 w_71 => 
 gd t141 true (fun k_25 w_72 => callS Tryz.prog 17 #[t143_1] (fun t144 w_73 => k_25 t144 w_73) w_72) (fun t144_1 w_74 => 
 pur Tryz.prog (pickS t141 t144_1 (.bool false)) fun t145 => 
 Q t145 w_74) w_71) w_69) w_67) w_65) w_63) w_61) w_59) w_57) w_56) w_55) w_11))) [(.int .i64 0)] w_10) w_9) w_7)) w_5) w_3) w_1) w
theorem eq3 (v_l v_cuts : Value) (Q : Value → World → Prop) (w : World) : semF Tryz.prog 3 [v_l, v_cuts] Q w = S3 v_l v_cuts Q w := by kernel_rfl
theorem ref3 {v_l v_cuts : Value} {Q : Value → World → Prop} {w : World} (h : S3 v_l v_cuts Q w) : callS Tryz.prog 3 #[v_l, v_cuts] Q w :=
  callS_of mix (fun a w => Tryz.call3 a w) (by kernel_rfl) (by rw [eq3]; exact h)
-- commons/commonslaw26.Small
def S4 (v_l : Value) (Q : Value → World → Prop) (w : World) : Prop :=
 lp 1 (fun J => fun v_i w_1 => ∀ _j : Fr, 
  pur Tryz.prog (Builtin.len_ #[22] 3 #[v_l]) fun t6 => 
  pur Tryz.prog (binS .lss 3 false false v_i t6) fun t7 => 
  gd t7 true (fun k w_2 => k v_i w_2) (fun t9_1 w_3 => 
  gd t7 true (fun k_1 w_4 => pur Tryz.prog (binS .lss 3 false true t9_1 (.int .i64 300)) fun t10 => k_1 t10 w_4) (fun t10_1 w_5 => 
  pur Tryz.prog (pickS t7 t10_1 (.bool false)) fun t11 => 
  condS t11
   (pur Tryz.prog (Instr.indexAt 22 v_l v_i) fun t16 => 
  pur Tryz.prog (Instr.fieldAt 66 t16 4) fun t17 => 
  rd Tryz.prog (Instr.loadAt 53 t17) (fun t18 => 
  callS Tryz.prog 20 #[(.int .i64 12), (.int .i64 1500), t18] (fun t19 w_6 => 
  pur Tryz.prog (Op.unary .not t19) fun t20 => 
  gd t20 false (fun k_2 w_7 => k_2 v_l w_7) (fun t22_1 w_8 => 
  gd t20 false (fun k_3 w_9 => k_3 v_i w_9) (fun t23_1 w_10 => 
  gd t20 false (fun k_4 w_11 => pur Tryz.prog (Instr.indexAt 22 t22_1 t23_1) fun t24 => k_4 t24 w_11) (fun t24_1 w_12 => 
  gd t20 false (fun k_5 w_13 => pur Tryz.prog (Instr.fieldAt 66 t24_1 5) fun t25 => k_5 t25 w_13) (fun t25_1 w_14 => 
  gd t20 false (fun k_6 w_15 => rd Tryz.prog (Instr.loadAt 53 t25_1) (fun t26 => k_6 t26 w_15) w_15) (fun t26_1 w_16 => 
  gd t20 false (fun k_7 w_17 => callS Tryz.prog 20 #[(.int .i64 12), (.int .i64 1500), t26_1] (fun t27 w_18 => k_7 t27 w_18) w_17) (fun t27_1 w_19 => 
  gd t20 false (fun k_8 w_20 => pur Tryz.prog (Op.unary .not t27_1) fun t28 => k_8 t28 w_20) (fun t28_1 w_21 => 
  pur Tryz.prog (pickS t20 (.bool true) t28_1) fun t29 => 
  condS t29
   (Q (.bool false) w_21)
   (pur Tryz.prog (binS .add 3 false true v_i (.int .i64 1)) fun t13 => 
  J t13 w_21)) w_19) w_16) w_14) w_12) w_10) w_8) w_6) w_5) w_5)
   (pur Tryz.prog (Builtin.len_ #[22] 3 #[v_l]) fun t31 => 
 pur Tryz.prog (binS .leq 3 false true t31 (.int .i64 210)) fun t32 => 
 Q t32 w_5)) w_3) w_1) [(.int .i64 0)] w
theorem eq4 (v_l : Value) (Q : Value → World → Prop) (w : World) : semF Tryz.prog 4 [v_l] Q w = S4 v_l Q w := by kernel_rfl
theorem ref4 {v_l : Value} {Q : Value → World → Prop} {w : World} (h : S4 v_l Q w) : callS Tryz.prog 4 #[v_l] Q w :=
  callS_of mix (fun a w => Tryz.call4 a w) (by kernel_rfl) (by rw [eq4]; exact h)
-- commons/commonslaw26.alive
def S5 (Q : Value → World → Prop) (w : World) : Prop :=
 act Tryz.prog (Instr.makeSlice 67 (.int .i64 96) (.int .i64 96)) (fun t6 w_1 => 
 act Tryz.prog (convert 67 9 t6) (fun t7 w_2 => 
 pur Tryz.prog (Instr.build 69 #[(0, (.int .i64 1)), (2, t7)]) fun t8 => 
 act Tryz.prog (Instr.alloc 69 true (.tuple #[])) (fun t1 w_3 => 
 act Tryz.prog (thenU (Instr.storeAt 69 t1 t8)) (fun _ w_4 => 
 jn 2 (fun J => 
  ∃ S : World → Prop, S (World.drew w_4) ∧ 
 pur Tryz.prog (Instr.build 66 #[(0, (.int .i64 3)), (1, (.int .i64 1)), (2, (.int .u64 1))]) fun t13 => 
  hld Tryz.prog S (Instr.loadAt 69 t1) fun t14 => 
  (callS Tryz.prog 21 #[(.int .i64 1), (.int .u64 0)] (fun t10 w_5 => S w_5 ∧ 
  (act Tryz.prog (Instr.buildSlice 53 1 #[(0, t10)]) (fun t11 w_6 => S w_6 ∧ 
  pur Tryz.prog (Instr.build 66 #[(0, (.int .i64 1)), (1, (.int .i64 1)), (2, (.int .u64 1)), (3, (.int .u64 1)), (5, t11)]) fun t12 => 
  act Tryz.prog (Instr.buildSlice 53 1 #[(0, t14)]) (fun t15 w_7 => S w_7 ∧ 
  pur Tryz.prog (Instr.build 66 #[(0, (.int .i64 1)), (1, (.int .i64 2)), (2, (.int .u64 2)), (4, t15)]) fun t16 => 
  act Tryz.prog (Instr.buildSlice 22 3 #[(0, t12), (1, t13), (2, t16)]) (fun t17 w_8 => S w_8 ∧ 
  callS Tryz.prog 18 #[t17] (fun t18 w_9 => S w_9 ∧ 
  pur Tryz.prog (Instr.extract t18 0) fun t19 => 
  pur Tryz.prog (Instr.extract t18 1) fun t20 => 
  J t19 t20 w_9) w_8) w_7) w_6) w_5
  ) ∧ (act Tryz.prog (Instr.buildSlice 53 1 #[(0, t14)]) (fun t15_1 w_10 => S w_10 ∧ 
  act Tryz.prog (Instr.buildSlice 53 1 #[(0, t10)]) (fun t11_1 w_11 => S w_11 ∧ 
  pur Tryz.prog (Instr.build 66 #[(0, (.int .i64 1)), (1, (.int .i64 1)), (2, (.int .u64 1)), (3, (.int .u64 1)), (5, t11_1)]) fun t12_1 => 
  pur Tryz.prog (Instr.build 66 #[(0, (.int .i64 1)), (1, (.int .i64 2)), (2, (.int .u64 2)), (4, t15_1)]) fun t16_1 => 
  act Tryz.prog (Instr.buildSlice 22 3 #[(0, t12_1), (1, t13), (2, t16_1)]) (fun t17_1 w_12 => S w_12 ∧ 
  callS Tryz.prog 18 #[t17_1] (fun t18_1 w_13 => S w_13 ∧ 
  pur Tryz.prog (Instr.extract t18_1 0) fun t19_1 => 
  pur Tryz.prog (Instr.extract t18_1 1) fun t20_1 => 
  J t19_1 t20_1 w_13) w_12) w_11) w_10) w_5)) (World.drew w_4)
  ) ∧ (act Tryz.prog (Instr.buildSlice 53 1 #[(0, t14)]) (fun t15_2 w_14 => S w_14 ∧ 
  callS Tryz.prog 21 #[(.int .i64 1), (.int .u64 0)] (fun t10_1 w_15 => S w_15 ∧ 
  act Tryz.prog (Instr.buildSlice 53 1 #[(0, t10_1)]) (fun t11_2 w_16 => S w_16 ∧ 
  pur Tryz.prog (Instr.build 66 #[(0, (.int .i64 1)), (1, (.int .i64 1)), (2, (.int .u64 1)), (3, (.int .u64 1)), (5, t11_2)]) fun t12_2 => 
  pur Tryz.prog (Instr.build 66 #[(0, (.int .i64 1)), (1, (.int .i64 2)), (2, (.int .u64 2)), (4, t15_2)]) fun t16_2 => 
  act Tryz.prog (Instr.buildSlice 22 3 #[(0, t12_2), (1, t13), (2, t16_2)]) (fun t17_2 w_17 => S w_17 ∧ 
  callS Tryz.prog 18 #[t17_2] (fun t18_2 w_18 => S w_18 ∧ 
  pur Tryz.prog (Instr.extract t18_2 0) fun t19_2 => 
  pur Tryz.prog (Instr.extract t18_2 1) fun t20_2 => 
  J t19_2 t20_2 w_18) w_17) w_16) w_15) w_14) (World.drew w_4)))
 (fun v_ok v_e w_19 => ∀ _j : Fr, 
  callS Tryz.prog 21 #[(.int .i64 1), (.int .u64 0)] (fun t22 w_20 => 
 act Tryz.prog (Instr.buildSlice 53 1 #[(0, t22)]) (fun t23 w_21 => 
 pur Tryz.prog (Instr.build 66 #[(0, (.int .i64 4)), (4, t23)]) fun t24 => 
 act Tryz.prog (Instr.buildSlice 22 1 #[(0, t24)]) (fun t25 w_22 => 
 callS Tryz.prog 18 #[t25] (fun t26 w_23 => 
 pur Tryz.prog (Instr.extract t26 0) fun t27 => 
 pur Tryz.prog (Instr.extract t26 1) fun t28 => 
 gd v_ok true (fun k w_24 => k v_e w_24) (fun t31_1 w_25 => 
 gd v_ok true (fun k_1 w_26 => pur Tryz.prog (binS .eql 47 false true t31_1 (.int .i64 0)) fun t32 => k_1 t32 w_26) (fun t32_1 w_27 => 
 pur Tryz.prog (pickS v_ok t32_1 (.bool false)) fun t33 => 
 gd t33 true (fun k_2 w_28 => k_2 t27 w_28) (fun t35_1 w_29 => 
 gd t33 true (fun k_3 w_30 => pur Tryz.prog (Op.unary .not t35_1) fun t36 => k_3 t36 w_30) (fun t36_1 w_31 => 
 pur Tryz.prog (pickS t33 t36_1 (.bool false)) fun t37 => 
 gd t37 true (fun k_4 w_32 => k_4 t28 w_32) (fun t39_1 w_33 => 
 gd t37 true (fun k_5 w_34 => pur Tryz.prog (binS .eql 47 false true t39_1 (.int .i64 0)) fun t40 => k_5 t40 w_34) (fun t40_1 w_35 => 
 pur Tryz.prog (pickS t37 t40_1 (.bool false)) fun t41 => 
 Q t41 w_35) w_33) w_31) w_29) w_27) w_25) w_23) w_22) w_21) w_20) w_19)) w_3) w_2) w_1) w
theorem eq5 (Q : Value → World → Prop) (w : World) : semF Tryz.prog 5 [] Q w = S5 Q w := by kernel_rfl
theorem ref5 {Q : Value → World → Prop} {w : World} (h : S5 Q w) : callS Tryz.prog 5 #[] Q w :=
  callS_of mix (fun a w => Tryz.call5 a w) (by kernel_rfl) (by rw [eq5]; exact h)
-- commons/commonslaw26.Plain
def S6 (v_l : Value) (Q : Value → World → Prop) (w : World) : Prop :=
 lp 2 (fun J => fun v_out v_i w_1 => ∀ _j : Fr, 
  pur Tryz.prog (Builtin.len_ #[22] 3 #[v_l]) fun t7 => 
  pur Tryz.prog (binS .lss 3 false false v_i t7) fun t8 => 
  condS t8
   (pur Tryz.prog (Instr.indexAt 22 v_l v_i) fun t14 => 
  pur Tryz.prog (Instr.fieldAt 66 t14 0) fun t15 => 
  rd Tryz.prog (Instr.loadAt 3 t15) (fun t16 => 
  pur Tryz.prog (Instr.indexAt 22 v_l v_i) fun t19 => 
  pur Tryz.prog (Instr.fieldAt 66 t19 1) fun t20 => 
  rd Tryz.prog (Instr.loadAt 3 t20) (fun t21 => 
  pur Tryz.prog (Instr.indexAt 22 v_l v_i) fun t24 => 
  pur Tryz.prog (Instr.fieldAt 66 t24 2) fun t25 => 
  rd Tryz.prog (Instr.loadAt 64 t25) (fun t26 => 
  pur Tryz.prog (Instr.indexAt 22 v_l v_i) fun t29 => 
  pur Tryz.prog (Instr.fieldAt 66 t29 3) fun t30 => 
  rd Tryz.prog (Instr.loadAt 64 t30) (fun t31 => 
  pur Tryz.prog (Instr.indexAt 22 v_l v_i) fun t34 => 
  pur Tryz.prog (Instr.fieldAt 66 t34 4) fun t35 => 
  rd Tryz.prog (Instr.loadAt 53 t35) (fun t36 => 
  pur Tryz.prog (Instr.indexAt 22 v_l v_i) fun t39 => 
  pur Tryz.prog (Instr.fieldAt 66 t39 5) fun t40 => 
  rd Tryz.prog (Instr.loadAt 53 t40) (fun t41 => 
  pur Tryz.prog (Instr.build 71 #[(0, t16), (1, t21), (2, t26), (3, t31), (4, t36), (5, t41)]) fun t42 => 
  act Tryz.prog (Instr.buildSlice 44 1 #[(0, t42)]) (fun t43 w_2 => 
  act Tryz.prog (Builtin.append_ #[44, 44] 44 #[v_out, t43]) (fun t44 w_3 => 
  pur Tryz.prog (binS .add 3 false true v_i (.int .i64 1)) fun t10 => 
  J t44 t10 w_3) w_2) (World.drew w_1)) (World.drew w_1)) (World.drew w_1)) (World.drew w_1)) (World.drew w_1)) (World.drew w_1)) (World.drew w_1))
   (Q v_out w_1)) [(.slice none 0 0), (.int .i64 0)] w
theorem eq6 (v_l : Value) (Q : Value → World → Prop) (w : World) : semF Tryz.prog 6 [v_l] Q w = S6 v_l Q w := by kernel_rfl
theorem ref6 {v_l : Value} {Q : Value → World → Prop} {w : World} (h : S6 v_l Q w) : callS Tryz.prog 6 #[v_l] Q w :=
  callS_of mix (fun a w => Tryz.call6 a w) (by kernel_rfl) (by rw [eq6]; exact h)
-- commons/commonsbook.LentNums
def S7 (v_l : Value) (Q : Value → World → Prop) (w : World) : Prop :=
 act Tryz.prog (Builtin.append_ #[23, 23] 23 #[(.slice none 0 0), v_l]) (fun t4 w_1 => 
 act Tryz.prog (Instr.buildSlice 23 1 #[(0, (.int .u64 77))]) (fun t5 w_2 => 
 act Tryz.prog (Builtin.append_ #[23, 23] 23 #[t4, t5]) (fun t6 w_3 => 
 pur Tryz.prog (Builtin.len_ #[23] 3 #[v_l]) fun t8 => 
 pur Tryz.prog (Instr.sliceAt 23 t6 none (some t8) none) fun t9 => 
 Q t9 w_3) w_2) w_1) w
theorem eq7 (v_l : Value) (Q : Value → World → Prop) (w : World) : semF Tryz.prog 7 [v_l] Q w = S7 v_l Q w := by kernel_rfl
theorem ref7 {v_l : Value} {Q : Value → World → Prop} {w : World} (h : S7 v_l Q w) : callS Tryz.prog 7 #[v_l] Q w :=
  callS_of mix (fun a w => Tryz.call7 a w) (by kernel_rfl) (by rw [eq7]; exact h)
-- commons/hist.Cuts
def S8 (v_l : Value) (Q : Value → World → Prop) (w : World) : Prop :=
 pur Tryz.prog (Builtin.len_ #[22] 3 #[v_l]) fun t17 => 
 pur Tryz.prog (binS .gtr 3 false true t17 (.int .i64 200)) fun t18 => 
 condS t18
  (Q (.tuple #[(.slice none 0 0), (.int .i64 2)]) w)
  (pur Tryz.prog (Builtin.len_ #[22] 3 #[v_l]) fun t20 => 
 lp 2 (fun J => fun v_ways t21 w_1 => ∀ _j : Fr, 
  pur Tryz.prog (binS .lss 3 false false t21 t20) fun t22 => 
  condS t22
   (jn 1 (fun J_1 => 
   pur Tryz.prog (Instr.indexAt 22 v_l t21) fun t24 => 
   rd Tryz.prog (Instr.loadAt 66 t24) (fun t25 => 
   act Tryz.prog (Instr.alloc 66 true (.tuple #[])) (fun t6 w_2 => 
   act Tryz.prog (thenU (Instr.storeAt 66 t6 t25)) (fun _ w_3 => 
   pur Tryz.prog (Instr.fieldAt 66 t6 0) fun t26 => 
   rd Tryz.prog (Instr.loadAt 3 t26) (fun t27 => 
   pur Tryz.prog (binS .neq 3 false true t27 (.int .i64 3)) fun t28 => 
   condS t28
    (J_1 v_ways w_3)
    (callS Tryz.prog 22 #[v_l, t21] (fun t32 w_4 => 
   pur Tryz.prog (Instr.extract t32 0) fun t33 => 
   pur Tryz.prog (Instr.extract t32 1) fun t34 => 
   pur Tryz.prog (binS .sub 64 false false t34 t33) fun t37 => 
   pur Tryz.prog (binS .geq 64 false true t37 (.int .u64 3000)) fun t38 => 
   gd t38 false (fun k w_5 => k v_ways w_5) (fun t40_1 w_6 => 
   gd t38 false (fun k_1 w_7 => k_1 t34 w_7) (fun t41_1 w_8 => 
   gd t38 false (fun k_2 w_9 => k_2 t33 w_9) (fun t42_1 w_10 => 
   gd t38 false (fun k_3 w_11 => pur Tryz.prog (binS .sub 64 false false t41_1 t42_1) fun t43 => k_3 t43 w_11) (fun t43_1 w_12 => 
   gd t38 false (fun k_4 w_13 => pur Tryz.prog (binS .add 64 false true t43_1 (.int .u64 1)) fun t44 => k_4 t44 w_13) (fun t44_1 w_14 => 
   gd t38 false (fun k_5 w_15 => pur Tryz.prog (binS .mul 64 false false t40_1 t44_1) fun t45 => k_5 t45 w_15) (fun t45_1 w_16 => 
   gd t38 false (fun k_6 w_17 => pur Tryz.prog (binS .gtr 64 false true t45_1 (.int .u64 3000)) fun t46 => k_6 t46 w_17) (fun t46_1 w_18 => 
   pur Tryz.prog (pickS t38 (.bool true) t46_1) fun t47 => 
   condS t47
    (Q (.tuple #[(.slice none 0 0), (.int .i64 2)]) w_18)
    (pur Tryz.prog (binS .sub 64 false false t34 t33) fun t51 => 
   pur Tryz.prog (binS .add 64 false true t51 (.int .u64 1)) fun t52 => 
   pur Tryz.prog (binS .mul 64 false false v_ways t52) fun t53 => 
   J_1 t53 w_18)) w_16) w_14) w_12) w_10) w_8) w_6) w_4) w_3)) w_3) w_2) w_1) w_1)
  (fun v_ways_1 w_19 => ∀ _j : Fr, 
   pur Tryz.prog (binS .add 3 false true t21 (.int .i64 1)) fun t54 => 
   J v_ways_1 t54 w_19))
   (pur Tryz.prog (Builtin.len_ #[22] 3 #[v_l]) fun t56 => 
 lp 2 (fun J_2 => fun v_out t57 w_20 => ∀ _j : Fr, 
  pur Tryz.prog (binS .lss 3 false false t57 t56) fun t58 => 
  condS t58
   (jn 1 (fun J_3 => 
   pur Tryz.prog (Instr.indexAt 22 v_l t57) fun t60 => 
   rd Tryz.prog (Instr.loadAt 66 t60) (fun t61 => 
   act Tryz.prog (Instr.alloc 66 true (.tuple #[])) (fun t11 w_21 => 
   act Tryz.prog (thenU (Instr.storeAt 66 t11 t61)) (fun _ w_22 => 
   pur Tryz.prog (Instr.fieldAt 66 t11 0) fun t63 => 
   rd Tryz.prog (Instr.loadAt 3 t63) (fun t64 => 
   pur Tryz.prog (binS .lss 3 false true t64 (.int .i64 1)) fun t65 => 
   gd t65 false (fun k_7 w_23 => pur Tryz.prog (Instr.fieldAt 66 t11 0) fun t67 => k_7 t67 w_23) (fun t67_1 w_24 => 
   gd t65 false (fun k_8 w_25 => rd Tryz.prog (Instr.loadAt 3 t67_1) (fun t68 => k_8 t68 w_25) w_25) (fun t68_1 w_26 => 
   gd t65 false (fun k_9 w_27 => pur Tryz.prog (binS .gtr 3 false true t68_1 (.int .i64 4)) fun t69 => k_9 t69 w_27) (fun t69_1 w_28 => 
   pur Tryz.prog (pickS t65 (.bool true) t69_1) fun t70 => 
   condS t70
    (Q (.tuple #[(.slice none 0 0), (.int .i64 1)]) w_28)
    (pur Tryz.prog (Instr.fieldAt 66 t11 0) fun t72 => 
    rd Tryz.prog (Instr.loadAt 3 t72) (fun t73 => 
    pur Tryz.prog (binS .neq 3 false true t73 (.int .i64 3)) fun t74 => 
    condS t74
     (J_3 v_out w_28)
     (callS Tryz.prog 22 #[v_l, t57] (fun t78 w_29 => 
   pur Tryz.prog (Instr.extract t78 0) fun t79 => 
   pur Tryz.prog (Instr.extract t78 1) fun t80 => 
   pur Tryz.prog (binS .sub 64 false false t80 t79) fun t83 => 
   pur Tryz.prog (binS .add 64 false true t83 (.int .u64 1)) fun t84 => 
   pur Tryz.prog (convert 64 3 t84) fun t85 => 
   lp 2 (fun J_4 => fun v_cuts t86 w_30 => ∀ _j : Fr, 
    pur Tryz.prog (binS .lss 3 false false t86 t85) fun t87 => 
    condS t87
     (pur Tryz.prog (convert 3 64 t86) fun t92 => 
    pur Tryz.prog (binS .add 64 false false t79 t92) fun t93 => 
    act Tryz.prog (Instr.buildSlice 23 1 #[(0, t93)]) (fun t94 w_31 => 
    act Tryz.prog (Builtin.append_ #[23, 23] 23 #[v_cuts, t94]) (fun t95 w_32 => 
    pur Tryz.prog (binS .add 3 false true t86 (.int .i64 1)) fun t96 => 
    J_4 t95 t96 w_32) w_31) w_30)
     (act Tryz.prog (Instr.buildSlice 29 1 #[(0, v_cuts)]) (fun t99 w_33 => 
   act Tryz.prog (Builtin.append_ #[29, 29] 29 #[v_out, t99]) (fun t100 w_34 => 
   J_3 t100 w_34) w_33) w_30)) [(.slice none 0 0), (.int .i64 0)] w_29) w_28)) w_28)) w_26) w_24) w_22) w_22) w_21) w_20) w_20)
  (fun v_out_1 w_35 => ∀ _j : Fr, 
   pur Tryz.prog (binS .add 3 false true t57 (.int .i64 1)) fun t101 => 
   J_2 v_out_1 t101 w_35))
   (Q (.tuple #[v_out, (.int .i64 0)]) w_20)) [(.slice none 0 0), (.int .i64 0)] w_1)) [(.int .u64 1), (.int .i64 0)] w)
theorem eq8 (v_l : Value) (Q : Value → World → Prop) (w : World) : semF Tryz.prog 8 [v_l] Q w = S8 v_l Q w := by kernel_rfl
theorem ref8 {v_l : Value} {Q : Value → World → Prop} {w : World} (h : S8 v_l Q w) : callS Tryz.prog 8 #[v_l] Q w :=
  callS_of mix (fun a w => Tryz.call8 a w) (by kernel_rfl) (by rw [eq8]; exact h)
-- commons/commonsref26.Cuts
def S9 (v_l : Value) (Q : Value → World → Prop) (w : World) : Prop :=
 pur Tryz.prog (Builtin.len_ #[44] 3 #[v_l]) fun t14 => 
 pur Tryz.prog (binS .gtr 3 false true t14 (.int .i64 200)) fun t15 => 
 condS t15
  (Q (.tuple #[(.slice none 0 0), (.int .i64 2)]) w)
  (lp 3 (fun J => fun v_out v_product v_i w_1 => ∀ _j : Fr, 
  pur Tryz.prog (Builtin.len_ #[44] 3 #[v_l]) fun t18 => 
  pur Tryz.prog (binS .lss 3 false false v_i t18) fun t19 => 
  condS t19
   (jn 2 (fun J_1 => 
   pur Tryz.prog (Instr.indexAt 44 v_l v_i) fun t24 => 
   pur Tryz.prog (Instr.fieldAt 71 t24 0) fun t25 => 
   rd Tryz.prog (Instr.loadAt 3 t25) (fun t26 => 
   pur Tryz.prog (binS .neq 3 false true t26 (.int .i64 3)) fun t27 => 
   condS t27
    (J_1 v_out v_product w_1)
    (lp 3 (fun J_2 => fun v_from v_to v_k w_2 => ∀ _j : Fr, 
    pur Tryz.prog (binS .lss 3 false false v_k v_i) fun t30 => 
    condS t30
     (jn 2 (fun J_3 => 
     pur Tryz.prog (Instr.indexAt 44 v_l v_k) fun t35 => 
     pur Tryz.prog (Instr.fieldAt 71 t35 1) fun t36 => 
     rd Tryz.prog (Instr.loadAt 3 t36) (fun t37 => 
     pur Tryz.prog (Instr.indexAt 44 v_l v_i) fun t40 => 
     pur Tryz.prog (Instr.fieldAt 71 t40 1) fun t41 => 
     rd Tryz.prog (Instr.loadAt 3 t41) (fun t42 => 
     pur Tryz.prog (binS .neq 3 false false t37 t42) fun t43 => 
     gd t43 false (fun k w_3 => k v_l w_3) (fun t45_1 w_4 => 
     gd t43 false (fun k_1 w_5 => k_1 v_k w_5) (fun t46_1 w_6 => 
     gd t43 false (fun k_2 w_7 => pur Tryz.prog (Instr.indexAt 44 t45_1 t46_1) fun t47 => k_2 t47 w_7) (fun t47_1 w_8 => 
     gd t43 false (fun k_3 w_9 => pur Tryz.prog (Instr.fieldAt 71 t47_1 2) fun t48 => k_3 t48 w_9) (fun t48_1 w_10 => 
     gd t43 false (fun k_4 w_11 => rd Tryz.prog (Instr.loadAt 64 t48_1) (fun t49 => k_4 t49 w_11) w_11) (fun t49_1 w_12 => 
     gd t43 false (fun k_5 w_13 => k_5 v_l w_13) (fun t50_1 w_14 => 
     gd t43 false (fun k_6 w_15 => k_6 v_i w_15) (fun t51_1 w_16 => 
     gd t43 false (fun k_7 w_17 => pur Tryz.prog (Instr.indexAt 44 t50_1 t51_1) fun t52 => k_7 t52 w_17) (fun t52_1 w_18 => 
     gd t43 false (fun k_8 w_19 => pur Tryz.prog (Instr.fieldAt 71 t52_1 2) fun t53 => k_8 t53 w_19) (fun t53_1 w_20 => 
     gd t43 false (fun k_9 w_21 => rd Tryz.prog (Instr.loadAt 64 t53_1) (fun t54 => k_9 t54 w_21) w_21) (fun t54_1 w_22 => 
     gd t43 false (fun k_10 w_23 => pur Tryz.prog (binS .neq 64 false false t49_1 t54_1) fun t55 => k_10 t55 w_23) (fun t55_1 w_24 => 
     pur Tryz.prog (pickS t43 (.bool true) t55_1) fun t56 => 
     condS t56
      (J_3 v_from v_to w_24)
      (jn 1 (fun J_4 => 
      pur Tryz.prog (Instr.indexAt 44 v_l v_k) fun t59 => 
      pur Tryz.prog (Instr.fieldAt 71 t59 0) fun t60 => 
      rd Tryz.prog (Instr.loadAt 3 t60) (fun t61 => 
      pur Tryz.prog (binS .eql 3 false true t61 (.int .i64 2)) fun t62 => 
      condS t62
       (pur Tryz.prog (Instr.indexAt 44 v_l v_k) fun t66 => 
       pur Tryz.prog (Instr.fieldAt 71 t66 3) fun t67 => 
       rd Tryz.prog (Instr.loadAt 64 t67) (fun t68 => 
       pur Tryz.prog (Builtin.max_ #[64, 64] 64 #[v_from, t68]) fun t69 => 
       J_4 t69 w_24) w_24)
       (J_4 v_from w_24)) w_24)
     (fun v_from_1 w_25 => ∀ _j : Fr, 
      pur Tryz.prog (Instr.indexAt 44 v_l v_k) fun t72 => 
      pur Tryz.prog (Instr.fieldAt 71 t72 0) fun t73 => 
      rd Tryz.prog (Instr.loadAt 3 t73) (fun t74 => 
      pur Tryz.prog (binS .eql 3 false true t74 (.int .i64 1)) fun t75 => 
      condS t75
       (pur Tryz.prog (Instr.indexAt 44 v_l v_k) fun t79 => 
       pur Tryz.prog (Instr.fieldAt 71 t79 3) fun t80 => 
       rd Tryz.prog (Instr.loadAt 64 t80) (fun t81 => 
       pur Tryz.prog (Builtin.max_ #[64, 64] 64 #[v_to, t81]) fun t82 => 
       J_3 v_from_1 t82 w_25) w_25)
       (J_3 v_from_1 v_to w_25)) w_25))) w_22) w_20) w_18) w_16) w_14) w_12) w_10) w_8) w_6) w_4) (World.drew w_2)) (World.drew w_2)) (World.drew w_2))
    (fun v_from_2 v_to_1 w_26 => ∀ _j : Fr, 
     pur Tryz.prog (binS .add 3 false true v_k (.int .i64 1)) fun t32 => 
     J_2 v_from_2 v_to_1 t32 w_26))
     (pur Tryz.prog (Builtin.max_ #[64, 64] 64 #[v_to, v_from]) fun t85 => 
   pur Tryz.prog (binS .sub 64 false false t85 v_from) fun t88 => 
   pur Tryz.prog (binS .geq 64 false true t88 (.int .u64 3000)) fun t89 => 
   gd t89 false (fun k_11 w_27 => k_11 t85 w_27) (fun t91_1 w_28 => 
   gd t89 false (fun k_12 w_29 => k_12 v_from w_29) (fun t92_1 w_30 => 
   gd t89 false (fun k_13 w_31 => pur Tryz.prog (binS .sub 64 false false t91_1 t92_1) fun t93 => k_13 t93 w_31) (fun t93_1 w_32 => 
   gd t89 false (fun k_14 w_33 => pur Tryz.prog (convert 64 3 t93_1) fun t94 => k_14 t94 w_33) (fun t94_1 w_34 => 
   gd t89 false (fun k_15 w_35 => pur Tryz.prog (binS .add 3 false true t94_1 (.int .i64 1)) fun t95 => k_15 t95 w_35) (fun t95_1 w_36 => 
   gd t89 false (fun k_16 w_37 => k_16 v_product w_37) (fun t96_1 w_38 => 
   gd t89 false (fun k_17 w_39 => pur Tryz.prog (binS .quo 3 true false (.int .i64 3000) t96_1) fun t97 => k_17 t97 w_39) (fun t97_1 w_40 => 
   gd t89 false (fun k_18 w_41 => pur Tryz.prog (binS .gtr 3 false false t95_1 t97_1) fun t98 => k_18 t98 w_41) (fun t98_1 w_42 => 
   pur Tryz.prog (pickS t89 (.bool true) t98_1) fun t99 => 
   condS t99
    (Q (.tuple #[(.slice none 0 0), (.int .i64 2)]) w_42)
    (pur Tryz.prog (binS .sub 64 false false t85 v_from) fun t103 => 
   pur Tryz.prog (convert 64 3 t103) fun t104 => 
   pur Tryz.prog (binS .add 3 false true t104 (.int .i64 1)) fun t105 => 
   pur Tryz.prog (binS .mul 3 false false v_product t105) fun t106 => 
   lp 2 (fun J_5 => fun v_c v_v w_43 => ∀ _j : Fr, 
    act Tryz.prog (Instr.buildSlice 23 1 #[(0, v_v)]) (fun t112 w_44 => 
    act Tryz.prog (Builtin.append_ #[23, 23] 23 #[v_c, t112]) (fun t113 w_45 => 
    pur Tryz.prog (binS .eql 64 false false v_v t85) fun t116 => 
    condS t116
     (act Tryz.prog (Instr.buildSlice 29 1 #[(0, t113)]) (fun t119 w_46 => 
   act Tryz.prog (Builtin.append_ #[29, 29] 29 #[v_out, t119]) (fun t120 w_47 => 
   J_1 t120 t106 w_47) w_46) w_45)
     (pur Tryz.prog (binS .add 64 false true v_v (.int .u64 1)) fun t109 => 
    J_5 t113 t109 w_45)) w_44) w_43) [(.slice none 0 0), v_from] w_42)) w_40) w_38) w_36) w_34) w_32) w_30) w_28) w_2)) [(.int .u64 0), (.int .u64 0), (.int .i64 0)] w_1)) w_1)
  (fun v_out_1 v_product_1 w_48 => ∀ _j : Fr, 
   pur Tryz.prog (binS .add 3 false true v_i (.int .i64 1)) fun t21 => 
   J v_out_1 v_product_1 t21 w_48))
   (lp 1 (fun J_6 => fun v_i_1 w_49 => ∀ _j : Fr, 
  pur Tryz.prog (Builtin.len_ #[44] 3 #[v_l]) fun t123 => 
  pur Tryz.prog (binS .lss 3 false false v_i_1 t123) fun t124 => 
  condS t124
   (pur Tryz.prog (Instr.indexAt 44 v_l v_i_1) fun t129 => 
  pur Tryz.prog (Instr.fieldAt 71 t129 0) fun t130 => 
  rd Tryz.prog (Instr.loadAt 3 t130) (fun t131 => 
  pur Tryz.prog (binS .lss 3 false true t131 (.int .i64 1)) fun t132 => 
  gd t132 false (fun k_19 w_50 => k_19 v_l w_50) (fun t134_1 w_51 => 
  gd t132 false (fun k_20 w_52 => k_20 v_i_1 w_52) (fun t135_1 w_53 => 
  gd t132 false (fun k_21 w_54 => pur Tryz.prog (Instr.indexAt 44 t134_1 t135_1) fun t136 => k_21 t136 w_54) (fun t136_1 w_55 => 
  gd t132 false (fun k_22 w_56 => pur Tryz.prog (Instr.fieldAt 71 t136_1 0) fun t137 => k_22 t137 w_56) (fun t137_1 w_57 => 
  gd t132 false (fun k_23 w_58 => rd Tryz.prog (Instr.loadAt 3 t137_1) (fun t138 => k_23 t138 w_58) w_58) (fun t138_1 w_59 => 
  gd t132 false (fun k_24 w_60 => pur Tryz.prog (binS .gtr 3 false true t138_1 (.int .i64 4)) fun t139 => k_24 t139 w_60) (fun t139_1 w_61 => 
  pur Tryz.prog (pickS t132 (.bool true) t139_1) fun t140 => 
  condS t140
   (Q (.tuple #[(.slice none 0 0), (.int .i64 1)]) w_61)
   (pur Tryz.prog (binS .add 3 false true v_i_1 (.int .i64 1)) fun t126 => 
  J_6 t126 w_61)) w_59) w_57) w_55) w_53) w_51) w_49) w_49)
   (Q (.tuple #[v_out, (.int .i64 0)]) w_49)) [(.int .i64 0)] w_1)) [(.slice none 0 0), (.int .i64 1), (.int .i64 0)] w)
theorem eq9 (v_l : Value) (Q : Value → World → Prop) (w : World) : semF Tryz.prog 9 [v_l] Q w = S9 v_l Q w := by kernel_rfl
theorem ref9 {v_l : Value} {Q : Value → World → Prop} {w : World} (h : S9 v_l Q w) : callS Tryz.prog 9 #[v_l] Q w :=
  callS_of mix (fun a w => Tryz.call9 a w) (by kernel_rfl) (by rw [eq9]; exact h)
-- (*commons/commonsbook.Book).Nums
def S10 (v_b v_l : Value) (Q : Value → World → Prop) (w : World) : Prop :=
 pur Tryz.prog (nilV v_b) fun t5 => 
 pur Tryz.prog (Instr.fieldAt 43 t5 4) fun t6 => 
 rd Tryz.prog (Instr.loadAt 29 t6) (fun t7 => 
 pur Tryz.prog (Builtin.len_ #[29] 3 #[t7]) fun t8 => 
 pur Tryz.prog (binS .lss 3 false true t8 (.int .i64 250)) fun t9 => 
 condS t9
  (pur Tryz.prog (nilV v_b) fun t12 => 
  pur Tryz.prog (Instr.fieldAt 43 t12 4) fun t13 => 
  rd Tryz.prog (Instr.loadAt 29 t13) (fun t14 => 
  act Tryz.prog (Instr.buildSlice 29 1 #[(0, v_l)]) (fun t16 w_1 => 
  act Tryz.prog (Builtin.append_ #[29, 29] 29 #[t14, t16]) (fun t17 w_2 => 
  pur Tryz.prog (nilV v_b) fun t18 => 
  pur Tryz.prog (Instr.fieldAt 43 t18 4) fun t19 => 
  act Tryz.prog (thenU (Instr.storeAt 29 t19 t17)) (fun _ w_3 => 
  jn 0 (fun J => 
   pur Tryz.prog (nilV v_b) fun t22 => 
   pur Tryz.prog (Instr.fieldAt 43 t22 5) fun t23 => 
   (rd Tryz.prog (Instr.loadAt 29 t23) (fun t24 => 
   callS Tryz.prog 23 #[v_l] (fun t26 w_4 => 
   act Tryz.prog (Instr.buildSlice 29 1 #[(0, t26)]) (fun t27 w_5 => 
   act Tryz.prog (Builtin.append_ #[29, 29] 29 #[t24, t27]) (fun t28 w_6 => 
   pur Tryz.prog (nilV v_b) fun t29 => 
   pur Tryz.prog (Instr.fieldAt 43 t29 5) fun t30 => 
   act Tryz.prog (thenU (Instr.storeAt 29 t30 t28)) (fun _ w_7 => 
   J  w_7) w_6) w_5) w_4) (World.drew w_3)) (World.drew w_3)
   ) ∧ (callS Tryz.prog 23 #[v_l] (fun t26_1 w_8 => 
   (rd Tryz.prog (Instr.loadAt 29 t23) (fun t24_1 => 
   act Tryz.prog (Instr.buildSlice 29 1 #[(0, t26_1)]) (fun t27_1 w_9 => 
   act Tryz.prog (Builtin.append_ #[29, 29] 29 #[t24_1, t27_1]) (fun t28_1 w_10 => 
   pur Tryz.prog (nilV v_b) fun t29_1 => 
   pur Tryz.prog (Instr.fieldAt 43 t29_1 5) fun t30_1 => 
   act Tryz.prog (thenU (Instr.storeAt 29 t30_1 t28_1)) (fun _ w_11 => 
   J  w_11) w_10) w_9) w_8) w_8
   ) ∧ (act Tryz.prog (Instr.buildSlice 29 1 #[(0, t26_1)]) (fun t27_2 w_12 => 
   rd Tryz.prog (Instr.loadAt 29 t23) (fun t24_2 => 
   act Tryz.prog (Builtin.append_ #[29, 29] 29 #[t24_2, t27_2]) (fun t28_2 w_13 => 
   pur Tryz.prog (nilV v_b) fun t29_2 => 
   pur Tryz.prog (Instr.fieldAt 43 t29_2 5) fun t30_2 => 
   act Tryz.prog (thenU (Instr.storeAt 29 t30_2 t28_2)) (fun _ w_14 => 
   J  w_14) w_13) w_12) w_12) w_8)) (World.drew w_3)))
  (fun  w_15 => ∀ _j : Fr, 
   Q (.tuple #[]) w_15)) w_2) w_1) w) w)
  (Q (.tuple #[]) w)) w
theorem eq10 (v_b v_l : Value) (Q : Value → World → Prop) (w : World) : semF Tryz.prog 10 [v_b, v_l] Q w = S10 v_b v_l Q w := by kernel_rfl
theorem ref10 {v_b v_l : Value} {Q : Value → World → Prop} {w : World} (h : S10 v_b v_l Q w) : callS Tryz.prog 10 #[v_b, v_l] Q w :=
  callS_of mix (fun a w => Tryz.call10 a w) (by kernel_rfl) (by rw [eq10]; exact h)
-- commons/commonsbook.SameNums
def S11 (v_a v_b : Value) (Q : Value → World → Prop) (w : World) : Prop :=
 pur Tryz.prog (Builtin.len_ #[23] 3 #[v_a]) fun t7 => 
 pur Tryz.prog (Builtin.len_ #[23] 3 #[v_b]) fun t9 => 
 pur Tryz.prog (binS .neq 3 false false t7 t9) fun t10 => 
 condS t10
  (Q (.bool false) w)
  (lp 1 (fun J => fun v_i w_1 => ∀ _j : Fr, 
  pur Tryz.prog (Builtin.len_ #[23] 3 #[v_a]) fun t13 => 
  pur Tryz.prog (binS .lss 3 false false v_i t13) fun t14 => 
  condS t14
   (pur Tryz.prog (Instr.indexAt 23 v_a v_i) fun t19 => 
  rd Tryz.prog (Instr.loadAt 64 t19) (fun t20 => 
  pur Tryz.prog (Instr.indexAt 23 v_b v_i) fun t23 => 
  rd Tryz.prog (Instr.loadAt 64 t23) (fun t24 => 
  pur Tryz.prog (binS .eql 64 false false t20 t24) fun t25 => 
  pur Tryz.prog (Op.unary .not t25) fun t26 => 
  condS t26
   (Q (.bool false) (World.drew w_1))
   (pur Tryz.prog (binS .add 3 false true v_i (.int .i64 1)) fun t16 => 
  J t16 (World.drew w_1))) (World.drew w_1)) (World.drew w_1))
   (Q (.bool true) w_1)) [(.int .i64 0)] w)
theorem eq11 (v_a v_b : Value) (Q : Value → World → Prop) (w : World) : semF Tryz.prog 11 [v_a, v_b] Q w = S11 v_a v_b Q w := by kernel_rfl
theorem ref11 {v_a v_b : Value} {Q : Value → World → Prop} {w : World} (h : S11 v_a v_b Q w) : callS Tryz.prog 11 #[v_a, v_b] Q w :=
  callS_of mix (fun a w => Tryz.call11 a w) (by kernel_rfl) (by rw [eq11]; exact h)
-- commons/hist.Play
def S12 (v_l v_cuts : Value) (Q : Value → World → Prop) (w : World) : Prop :=
 act Tryz.prog (Instr.makeMap 75 none) (fun t20 w_1 => 
 act Tryz.prog (Instr.makeMap 76 none) (fun t21 w_2 => 
 pur Tryz.prog (Builtin.len_ #[22] 3 #[v_l]) fun t23 => 
 lp 5 (fun J => fun v_cuts_1 v_a v_ok v_stay t24 w_3 => ∀ _j : Fr, 
  pur Tryz.prog (binS .lss 3 false false t24 t23) fun t25 => 
  condS t25
   (jn 4 (fun J_1 => 
   pur Tryz.prog (Instr.indexAt 22 v_l t24) fun t27 => 
   rd Tryz.prog (Instr.loadAt 66 t27) (fun t28 => 
   act Tryz.prog (Instr.alloc 66 true (.tuple #[])) (fun t11 w_4 => 
   act Tryz.prog (thenU (Instr.storeAt 66 t11 t28)) (fun _ w_5 => 
   pur Tryz.prog (Instr.fieldAt 66 t11 1) fun t29 => 
   rd Tryz.prog (Instr.loadAt 3 t29) (fun t30 => 
   pur Tryz.prog (Instr.fieldAt 66 t11 2) fun t31 => 
   rd Tryz.prog (Instr.loadAt 64 t31) (fun t32 => 
   pur Tryz.prog (Instr.build 78 #[(0, t30), (1, t32)]) fun t33 => 
   act Tryz.prog (Instr.alloc 78 true (.tuple #[])) (fun t12 w_6 => 
   act Tryz.prog (thenU (Instr.storeAt 78 t12 t33)) (fun _ w_7 => 
   pur Tryz.prog (Instr.fieldAt 66 t11 0) fun t34 => 
   rd Tryz.prog (Instr.loadAt 3 t34) (fun t35 => 
   pur Tryz.prog (binS .eql 3 false true t35 (.int .i64 1)) fun t37 => 
   condS t37
    (rd Tryz.prog (Instr.loadAt 78 t12) (fun t40 => 
    rd Tryz.prog (Instr.lookup 76 t21 t40 true) (fun t41 => 
    pur Tryz.prog (Instr.extract t41 0) fun _ => 
    pur Tryz.prog (Instr.extract t41 1) fun t43 => 
    condS t43
     (J_1 v_cuts_1 v_a v_ok v_stay w_7)
     (gd v_ok true (fun k w_8 => k v_a w_8) (fun t47_1 w_9 => 
    gd v_ok true (fun k_1 w_10 => pur Tryz.prog (Instr.fieldAt 66 t11 4) fun t48 => k_1 t48 w_10) (fun t48_1 w_11 => 
    gd v_ok true (fun k_2 w_12 => rd Tryz.prog (Instr.loadAt 53 t48_1) (fun t49 => k_2 t49 w_12) w_12) (fun t49_1 w_13 => 
    gd v_ok true (fun k_3 w_14 => callS Tryz.prog 24 #[t47_1, t49_1] (fun t50 w_15 => k_3 t50 w_15) w_14) (fun t50_1 w_16 => 
    pur Tryz.prog (pickS v_ok t50_1 (.bool false)) fun t51 => 
    pur Tryz.prog (Instr.fieldAt 66 t11 5) fun t53 => 
    rd Tryz.prog (Instr.loadAt 53 t53) (fun t54 => 
    callS Tryz.prog 25 #[v_a, t54] (fun _ w_17 => 
    rd Tryz.prog (Instr.loadAt 66 t11) (fun t57 => 
    pur Tryz.prog (Instr.sliceAt 22 v_l none (some t24) none) fun t60 => 
    callS Tryz.prog 26 #[t57, t60] (fun t61 w_18 => 
    act Tryz.prog (Instr.buildSlice 22 1 #[(0, t61)]) (fun t62 w_19 => 
    act Tryz.prog (Builtin.append_ #[22, 22] 22 #[v_stay, t62]) (fun t63 w_20 => 
    J_1 v_cuts_1 v_a t51 t63 w_20) w_19) w_18) (World.drew w_17)) (World.drew w_17)) w_16) w_16) w_13) w_11) w_9) w_7)) w_7) w_7)
    (pur Tryz.prog (binS .eql 3 false true t35 (.int .i64 3)) fun t65 => 
    condS t65
     (act Tryz.prog (Instr.alloc 64 true (.tuple #[])) (fun t15 w_21 => 
     act Tryz.prog (thenU (Instr.storeAt 64 t15 (.int .u64 0))) (fun _ w_22 => 
     jn 1 (fun J_2 => 
      pur Tryz.prog (Builtin.len_ #[23] 3 #[v_cuts_1]) fun t67 => 
      pur Tryz.prog (binS .gtr 3 false true t67 (.int .i64 0)) fun t68 => 
      condS t68
       (pur Tryz.prog (Instr.indexAt 23 v_cuts_1 (.int .i64 0)) fun t70 => 
       rd Tryz.prog (Instr.loadAt 64 t70) (fun t71 => 
       pur Tryz.prog (Instr.sliceAt 23 v_cuts_1 (some (.int .i64 1)) none none) fun t73 => 
       act Tryz.prog (thenU (Instr.storeAt 64 t15 t71)) (fun _ w_23 => 
       J_2 t73 w_23) (World.drew w_22)) (World.drew w_22))
       (J_2 v_cuts_1 w_22))
     (fun v_cuts_2 w_24 => ∀ _j : Fr, 
      rd Tryz.prog (Instr.loadAt 78 t12) (fun t75 => 
      rd Tryz.prog (Instr.loadAt 64 t15) (fun t76 => 
      act Tryz.prog (thenU (Instr.mapUpdate 76 t21 t75 t76)) (fun _ w_25 => 
      pur Tryz.prog (pure (.func (.func 28) #[] #[t11, t15])) fun t78 => 
      callS Tryz.prog 27 #[v_stay, t78] (fun t79 w_26 => 
      callS Tryz.prog 29 #[t79] (fun t82 w_27 => 
      pur Tryz.prog (Instr.extract t82 0) fun t83 => 
      pur Tryz.prog (Instr.extract t82 1) fun _ => 
      J_1 v_cuts_2 t83 v_ok t79 w_27) w_26) w_25) w_24) w_24) w_24)) w_21) w_7)
     (pur Tryz.prog (binS .eql 3 false true t35 (.int .i64 4)) fun t86 => 
     condS t86
      (gd v_ok true (fun k_4 w_28 => k_4 v_a w_28) (fun t89_1 w_29 => 
      gd v_ok true (fun k_5 w_30 => pur Tryz.prog (Instr.fieldAt 66 t11 4) fun t90 => k_5 t90 w_30) (fun t90_1 w_31 => 
      gd v_ok true (fun k_6 w_32 => rd Tryz.prog (Instr.loadAt 53 t90_1) (fun t91 => k_6 t91 w_32) w_32) (fun t91_1 w_33 => 
      gd v_ok true (fun k_7 w_34 => callS Tryz.prog 24 #[t89_1, t91_1] (fun t92 w_35 => k_7 t92 w_35) w_34) (fun t92_1 w_36 => 
      pur Tryz.prog (pickS v_ok t92_1 (.bool false)) fun t93 => 
      J_1 v_cuts_1 v_a t93 v_stay w_36) w_33) w_31) w_29) w_7)
      (J_1 v_cuts_1 v_a v_ok v_stay w_7)))) w_7) w_6) w_5) w_5) w_5) w_4) w_3) w_3)
  (fun v_cuts_3 v_a_1 v_ok_1 v_stay_1 w_37 => ∀ _j : Fr, 
   pur Tryz.prog (binS .add 3 false true t24 (.int .i64 1)) fun t94 => 
   J v_cuts_3 v_a_1 v_ok_1 v_stay_1 t94 w_37))
   (callS Tryz.prog 29 #[v_stay] (fun t97 w_38 => 
 pur Tryz.prog (Instr.extract t97 0) fun t98 => 
 pur Tryz.prog (Instr.extract t97 1) fun t99 => 
 callS Tryz.prog 31 #[t98] (fun t101 w_39 => 
 callS Tryz.prog 30 #[t101] (fun t102 w_40 => 
 pur Tryz.prog (Builtin.len_ #[86] 3 #[t102]) fun t103 => 
 lp 2 (fun J_3 => fun v_out t104 w_41 => ∀ _j : Fr, 
  pur Tryz.prog (binS .lss 3 false false t104 t103) fun t105 => 
  condS t105
   (pur Tryz.prog (Instr.indexAt 86 t102 t104) fun t106 => 
  rd Tryz.prog (Instr.loadAt 3 t106) (fun t107 => 
  rd Tryz.prog (Instr.lookup 75 t98 t107 false) (fun t112 => 
  callS Tryz.prog 32 #[t112] (fun t113 w_42 => 
  pur Tryz.prog (Instr.build 69 #[(0, t107), (2, t113)]) fun t114 => 
  act Tryz.prog (Instr.buildSlice 53 1 #[(0, t114)]) (fun t115 w_43 => 
  act Tryz.prog (Builtin.append_ #[53, 53] 53 #[v_out, t115]) (fun t116 w_44 => 
  pur Tryz.prog (binS .add 3 false true t104 (.int .i64 1)) fun t117 => 
  J_3 t116 t117 w_44) w_43) w_42) w_41) w_41) w_41)
   (gd v_ok true (fun k_8 w_45 => k_8 t99 w_45) (fun t120_1 w_46 => 
 pur Tryz.prog (pickS v_ok t120_1 (.bool false)) fun t121 => 
 Q (.tuple #[t121, v_out]) w_46) w_41)) [(.slice none 0 0), (.int .i64 0)] w_40) w_39) w_38) w_3)) [v_cuts, t20, (.bool true), (.slice none 0 0), (.int .i64 0)] w_2) w_1) w
theorem eq12 (v_l v_cuts : Value) (Q : Value → World → Prop) (w : World) : semF Tryz.prog 12 [v_l, v_cuts] Q w = S12 v_l v_cuts Q w := by kernel_rfl
theorem ref12 {v_l v_cuts : Value} {Q : Value → World → Prop} {w : World} (h : S12 v_l v_cuts Q w) : callS Tryz.prog 12 #[v_l, v_cuts] Q w :=
  callS_of mix (fun a w => Tryz.call12 a w) (by kernel_rfl) (by rw [eq12]; exact h)
-- commons/commonsref26.Play
def S13 (v_l v_cuts : Value) (Q : Value → World → Prop) (w : World) : Prop :=
 lp 5 (fun J => fun v_there v_gone v_a v_ok v_i w_1 => ∀ _j : Fr, 
  pur Tryz.prog (Builtin.len_ #[44] 3 #[v_l]) fun t22 => 
  pur Tryz.prog (binS .lss 3 false false v_i t22) fun t23 => 
  condS t23
   (jn 4 (fun J_1 => 
   pur Tryz.prog (Instr.indexAt 44 v_l v_i) fun t28 => 
   rd Tryz.prog (Instr.loadAt 71 t28) (fun t29 => 
   act Tryz.prog (Instr.alloc 71 true (.tuple #[])) (fun t11 w_2 => 
   act Tryz.prog (thenU (Instr.storeAt 71 t11 t29)) (fun _ w_3 => 
   pur Tryz.prog (Instr.fieldAt 71 t11 0) fun t30 => 
   rd Tryz.prog (Instr.loadAt 3 t30) (fun t31 => 
   pur Tryz.prog (binS .eql 3 false true t31 (.int .i64 1)) fun t33 => 
   condS t33
    (lp 2 (fun J_2 => fun v_late v_k w_4 => ∀ _j : Fr, 
     pur Tryz.prog (Builtin.len_ #[44] 3 #[v_gone]) fun t36 => 
     pur Tryz.prog (binS .lss 3 false false v_k t36) fun t37 => 
     condS t37
      (gd v_late false (fun k w_5 => k v_gone w_5) (fun t42_1 w_6 => 
     gd v_late false (fun k_1 w_7 => k_1 v_k w_7) (fun t43_1 w_8 => 
     gd v_late false (fun k_2 w_9 => pur Tryz.prog (Instr.indexAt 44 t42_1 t43_1) fun t44 => k_2 t44 w_9) (fun t44_1 w_10 => 
     gd v_late false (fun k_3 w_11 => pur Tryz.prog (Instr.fieldAt 71 t44_1 1) fun t45 => k_3 t45 w_11) (fun t45_1 w_12 => 
     gd v_late false (fun k_4 w_13 => rd Tryz.prog (Instr.loadAt 3 t45_1) (fun t46 => k_4 t46 w_13) w_13) (fun t46_1 w_14 => 
     gd v_late false (fun k_5 w_15 => pur Tryz.prog (Instr.fieldAt 71 t11 1) fun t47 => k_5 t47 w_15) (fun t47_1 w_16 => 
     gd v_late false (fun k_6 w_17 => rd Tryz.prog (Instr.loadAt 3 t47_1) (fun t48 => k_6 t48 w_17) w_17) (fun t48_1 w_18 => 
     gd v_late false (fun k_7 w_19 => pur Tryz.prog (binS .eql 3 false false t46_1 t48_1) fun t49 => k_7 t49 w_19) (fun t49_1 w_20 => 
     gd v_late false (fun k_8 w_21 => k_8 t49_1 w_21) (fun t50_1 w_22 => 
     gd t50_1 true (fun k_9 w_23 => k_9 v_gone w_23) (fun t51_1 w_24 => 
     gd t50_1 true (fun k_10 w_25 => k_10 v_k w_25) (fun t52_1 w_26 => 
     gd t50_1 true (fun k_11 w_27 => pur Tryz.prog (Instr.indexAt 44 t51_1 t52_1) fun t53 => k_11 t53 w_27) (fun t53_1 w_28 => 
     gd t50_1 true (fun k_12 w_29 => pur Tryz.prog (Instr.fieldAt 71 t53_1 2) fun t54 => k_12 t54 w_29) (fun t54_1 w_30 => 
     gd t50_1 true (fun k_13 w_31 => rd Tryz.prog (Instr.loadAt 64 t54_1) (fun t55 => k_13 t55 w_31) w_31) (fun t55_1 w_32 => 
     gd t50_1 true (fun k_14 w_33 => pur Tryz.prog (Instr.fieldAt 71 t11 2) fun t56 => k_14 t56 w_33) (fun t56_1 w_34 => 
     gd t50_1 true (fun k_15 w_35 => rd Tryz.prog (Instr.loadAt 64 t56_1) (fun t57 => k_15 t57 w_35) w_35) (fun t57_1 w_36 => 
     gd t50_1 true (fun k_16 w_37 => pur Tryz.prog (binS .eql 64 false false t55_1 t57_1) fun t58 => k_16 t58 w_37) (fun t58_1 w_38 => 
     gd v_late false (fun k_17 w_39 => pur Tryz.prog (pickS t50_1 t58_1 (.bool false)) fun t59 => k_17 t59 w_39) (fun t59_1 w_40 => 
     pur Tryz.prog (pickS v_late (.bool true) t59_1) fun t60 => 
     pur Tryz.prog (binS .add 3 false true v_k (.int .i64 1)) fun t39 => 
     J_2 t60 t39 w_40) w_38) w_36) w_34) w_32) w_30) w_28) w_26) w_24) w_22) w_20) w_18) w_16) w_14) w_12) w_10) w_8) w_6) (World.drew w_4))
      (condS v_late
     (J_1 v_there v_gone v_a v_ok w_4)
     (gd v_ok true (fun k_18 w_41 => k_18 v_a w_41) (fun t64_1 w_42 => 
    gd v_ok true (fun k_19 w_43 => pur Tryz.prog (Instr.fieldAt 71 t11 4) fun t65 => k_19 t65 w_43) (fun t65_1 w_44 => 
    gd v_ok true (fun k_20 w_45 => rd Tryz.prog (Instr.loadAt 53 t65_1) (fun t66 => k_20 t66 w_45) w_45) (fun t66_1 w_46 => 
    gd v_ok true (fun k_21 w_47 => callS Tryz.prog 33 #[t64_1, t66_1] (fun t67 w_48 => k_21 t67 w_48) w_47) (fun t67_1 w_49 => 
    pur Tryz.prog (pickS v_ok t67_1 (.bool false)) fun t68 => 
    pur Tryz.prog (Instr.fieldAt 71 t11 5) fun t70 => 
    rd Tryz.prog (Instr.loadAt 53 t70) (fun t71 => 
    callS Tryz.prog 34 #[v_a, t71] (fun t72 w_50 => 
    rd Tryz.prog (Instr.loadAt 71 t11) (fun t74 => 
    act Tryz.prog (Instr.buildSlice 44 1 #[(0, t74)]) (fun t75 w_51 => 
    act Tryz.prog (Builtin.append_ #[44, 44] 44 #[v_there, t75]) (fun t76 w_52 => 
    J_1 t76 v_gone t72 t68 w_52) w_51) w_50) w_50) w_49) w_49) w_46) w_44) w_42) w_4))) [(.bool false), (.int .i64 0)] w_3)
    (pur Tryz.prog (binS .eql 3 false true t31 (.int .i64 3)) fun t78 => 
    condS t78
     (jn 1 (fun J_3 => 
      pur Tryz.prog (Builtin.len_ #[44] 3 #[v_gone]) fun t80 => 
      pur Tryz.prog (Builtin.len_ #[23] 3 #[v_cuts]) fun t82 => 
      pur Tryz.prog (binS .lss 3 false false t80 t82) fun t83 => 
      condS t83
       (pur Tryz.prog (Builtin.len_ #[44] 3 #[v_gone]) fun t86 => 
       pur Tryz.prog (Instr.indexAt 23 v_cuts t86) fun t87 => 
       rd Tryz.prog (Instr.loadAt 64 t87) (fun t88 => 
       J_3 t88 w_3) w_3)
       (J_3 (.int .u64 0) w_3))
     (fun v_cut w_53 => ∀ _j : Fr, 
      rd Tryz.prog (Instr.loadAt 71 t11) (fun t90 => 
      act Tryz.prog (Instr.buildSlice 44 1 #[(0, t90)]) (fun t91 w_54 => 
      act Tryz.prog (Builtin.append_ #[44, 44] 44 #[v_gone, t91]) (fun t92 w_55 => 
      lp 3 (fun J_4 => fun v_a_1 v_still v_k_1 w_56 => ∀ _j : Fr, 
       pur Tryz.prog (Builtin.len_ #[44] 3 #[v_there]) fun t95 => 
       pur Tryz.prog (binS .lss 3 false false v_k_1 t95) fun t96 => 
       condS t96
        (jn 2 (fun J_5 => 
        pur Tryz.prog (Instr.indexAt 44 v_there v_k_1) fun t101 => 
        rd Tryz.prog (Instr.loadAt 71 t101) (fun t102 => 
        act Tryz.prog (Instr.alloc 71 true (.tuple #[])) (fun t17 w_57 => 
        act Tryz.prog (thenU (Instr.storeAt 71 t17 t102)) (fun _ w_58 => 
        pur Tryz.prog (Instr.fieldAt 71 t17 1) fun t103 => 
        rd Tryz.prog (Instr.loadAt 3 t103) (fun t104 => 
        pur Tryz.prog (Instr.fieldAt 71 t11 1) fun t105 => 
        rd Tryz.prog (Instr.loadAt 3 t105) (fun t106 => 
        pur Tryz.prog (binS .eql 3 false false t104 t106) fun t107 => 
        gd t107 true (fun k_22 w_59 => pur Tryz.prog (Instr.fieldAt 71 t17 2) fun t109 => k_22 t109 w_59) (fun t109_1 w_60 => 
        gd t107 true (fun k_23 w_61 => rd Tryz.prog (Instr.loadAt 64 t109_1) (fun t110 => k_23 t110 w_61) w_61) (fun t110_1 w_62 => 
        gd t107 true (fun k_24 w_63 => pur Tryz.prog (Instr.fieldAt 71 t11 2) fun t111 => k_24 t111 w_63) (fun t111_1 w_64 => 
        gd t107 true (fun k_25 w_65 => rd Tryz.prog (Instr.loadAt 64 t111_1) (fun t112 => k_25 t112 w_65) w_65) (fun t112_1 w_66 => 
        gd t107 true (fun k_26 w_67 => pur Tryz.prog (binS .eql 64 false false t110_1 t112_1) fun t113 => k_26 t113 w_67) (fun t113_1 w_68 => 
        pur Tryz.prog (pickS t107 t113_1 (.bool false)) fun t114 => 
        gd t114 true (fun k_27 w_69 => k_27 v_there w_69) (fun t116_1 w_70 => 
        gd t114 true (fun k_28 w_71 => k_28 v_k_1 w_71) (fun t117_1 w_72 => 
        gd t114 true (fun k_29 w_73 => callS Tryz.prog 35 #[t116_1, t117_1] (fun t118 w_74 => k_29 t118 w_74) w_73) (fun t118_1 w_75 => 
        gd t114 true (fun k_30 w_76 => k_30 v_cut w_76) (fun t119_1 w_77 => 
        gd t114 true (fun k_31 w_78 => pur Tryz.prog (binS .gtr 64 false false t118_1 t119_1) fun t120 => k_31 t120 w_78) (fun t120_1 w_79 => 
        pur Tryz.prog (pickS t114 t120_1 (.bool false)) fun t121 => 
        condS t121
         (J_5 v_a_1 v_still w_79)
         (rd Tryz.prog (Instr.loadAt 71 t17) (fun t123 => 
        act Tryz.prog (Instr.buildSlice 44 1 #[(0, t123)]) (fun t124 w_80 => 
        act Tryz.prog (Builtin.append_ #[44, 44] 44 #[v_still, t124]) (fun t125 w_81 => 
        pur Tryz.prog (Instr.fieldAt 71 t17 5) fun t127 => 
        rd Tryz.prog (Instr.loadAt 53 t127) (fun t128 => 
        callS Tryz.prog 34 #[v_a_1, t128] (fun t129 w_82 => 
        J_5 t129 t125 w_82) w_81) w_81) w_80) w_79) w_79)) w_77) w_75) w_72) w_70) w_68) w_66) w_64) w_62) w_60) w_58) w_58) w_58) w_57) w_56) w_56)
       (fun v_a_2 v_still_1 w_83 => ∀ _j : Fr, 
        pur Tryz.prog (binS .add 3 false true v_k_1 (.int .i64 1)) fun t98 => 
        J_4 v_a_2 v_still_1 t98 w_83))
        (J_1 v_still t92 v_a_1 v_ok w_56)) [(.slice none 0 0), (.slice none 0 0), (.int .i64 0)] w_55) w_54) w_53) w_53))
     (pur Tryz.prog (binS .eql 3 false true t31 (.int .i64 4)) fun t132 => 
     condS t132
      (gd v_ok true (fun k_32 w_84 => k_32 v_a w_84) (fun t135_1 w_85 => 
      gd v_ok true (fun k_33 w_86 => pur Tryz.prog (Instr.fieldAt 71 t11 4) fun t136 => k_33 t136 w_86) (fun t136_1 w_87 => 
      gd v_ok true (fun k_34 w_88 => rd Tryz.prog (Instr.loadAt 53 t136_1) (fun t137 => k_34 t137 w_88) w_88) (fun t137_1 w_89 => 
      gd v_ok true (fun k_35 w_90 => callS Tryz.prog 33 #[t135_1, t137_1] (fun t138 w_91 => k_35 t138 w_91) w_90) (fun t138_1 w_92 => 
      pur Tryz.prog (pickS v_ok t138_1 (.bool false)) fun t139 => 
      J_1 v_there v_gone v_a t139 w_92) w_89) w_87) w_85) w_3)
      (J_1 v_there v_gone v_a v_ok w_3)))) w_3) w_2) w_1) w_1)
  (fun v_there_1 v_gone_1 v_a_3 v_ok_1 w_93 => ∀ _j : Fr, 
   pur Tryz.prog (binS .add 3 false true v_i (.int .i64 1)) fun t25 => 
   J v_there_1 v_gone_1 v_a_3 v_ok_1 t25 w_93))
   (lp 3 (fun J_6 => fun v_ok_2 v_b v_k_2 w_94 => ∀ _j : Fr, 
  pur Tryz.prog (Builtin.len_ #[44] 3 #[v_there]) fun t142 => 
  pur Tryz.prog (binS .lss 3 false false v_k_2 t142) fun t143 => 
  condS t143
   (gd v_ok_2 true (fun k_36 w_95 => k_36 v_b w_95) (fun t148_1 w_96 => 
  gd v_ok_2 true (fun k_37 w_97 => k_37 v_there w_97) (fun t149_1 w_98 => 
  gd v_ok_2 true (fun k_38 w_99 => k_38 v_k_2 w_99) (fun t150_1 w_100 => 
  gd v_ok_2 true (fun k_39 w_101 => pur Tryz.prog (Instr.indexAt 44 t149_1 t150_1) fun t151 => k_39 t151 w_101) (fun t151_1 w_102 => 
  gd v_ok_2 true (fun k_40 w_103 => pur Tryz.prog (Instr.fieldAt 71 t151_1 4) fun t152 => k_40 t152 w_103) (fun t152_1 w_104 => 
  gd v_ok_2 true (fun k_41 w_105 => rd Tryz.prog (Instr.loadAt 53 t152_1) (fun t153 => k_41 t153 w_105) w_105) (fun t153_1 w_106 => 
  gd v_ok_2 true (fun k_42 w_107 => callS Tryz.prog 33 #[t148_1, t153_1] (fun t154 w_108 => k_42 t154 w_108) w_107) (fun t154_1 w_109 => 
  pur Tryz.prog (pickS v_ok_2 t154_1 (.bool false)) fun t155 => 
  pur Tryz.prog (Instr.indexAt 44 v_there v_k_2) fun t159 => 
  pur Tryz.prog (Instr.fieldAt 71 t159 5) fun t160 => 
  rd Tryz.prog (Instr.loadAt 53 t160) (fun t161 => 
  callS Tryz.prog 34 #[v_b, t161] (fun t162 w_110 => 
  pur Tryz.prog (binS .add 3 false true v_k_2 (.int .i64 1)) fun t145 => 
  J_6 t155 t162 t145 w_110) w_109) w_109) w_106) w_104) w_102) w_100) w_98) w_96) w_94)
   (Q (.tuple #[v_ok_2, v_a]) w_94)) [v_ok, (.slice none 0 0), (.int .i64 0)] w_1)) [(.slice none 0 0), (.slice none 0 0), (.slice none 0 0), (.bool true), (.int .i64 0)] w
theorem eq13 (v_l v_cuts : Value) (Q : Value → World → Prop) (w : World) : semF Tryz.prog 13 [v_l, v_cuts] Q w = S13 v_l v_cuts Q w := by kernel_rfl
theorem ref13 {v_l v_cuts : Value} {Q : Value → World → Prop} {w : World} (h : S13 v_l v_cuts Q w) : callS Tryz.prog 13 #[v_l, v_cuts] Q w :=
  callS_of mix (fun a w => Tryz.call13 a w) (by kernel_rfl) (by rw [eq13]; exact h)
-- (*commons/commonsbook.Book).Images
def S14 (v_b v_l : Value) (Q : Value → World → Prop) (w : World) : Prop :=
 pur Tryz.prog (nilV v_b) fun t5 => 
 pur Tryz.prog (Instr.fieldAt 43 t5 10) fun t6 => 
 rd Tryz.prog (Instr.loadAt 32 t6) (fun t7 => 
 pur Tryz.prog (Builtin.len_ #[32] 3 #[t7]) fun t8 => 
 pur Tryz.prog (binS .lss 3 false true t8 (.int .i64 250)) fun t9 => 
 condS t9
  (pur Tryz.prog (nilV v_b) fun t12 => 
  pur Tryz.prog (Instr.fieldAt 43 t12 10) fun t13 => 
  rd Tryz.prog (Instr.loadAt 32 t13) (fun t14 => 
  act Tryz.prog (Instr.buildSlice 32 1 #[(0, v_l)]) (fun t16 w_1 => 
  act Tryz.prog (Builtin.append_ #[32, 32] 32 #[t14, t16]) (fun t17 w_2 => 
  pur Tryz.prog (nilV v_b) fun t18 => 
  pur Tryz.prog (Instr.fieldAt 43 t18 10) fun t19 => 
  act Tryz.prog (thenU (Instr.storeAt 32 t19 t17)) (fun _ w_3 => 
  jn 0 (fun J => 
   pur Tryz.prog (nilV v_b) fun t22 => 
   pur Tryz.prog (Instr.fieldAt 43 t22 11) fun t23 => 
   (rd Tryz.prog (Instr.loadAt 32 t23) (fun t24 => 
   callS Tryz.prog 36 #[v_l] (fun t26 w_4 => 
   act Tryz.prog (Instr.buildSlice 32 1 #[(0, t26)]) (fun t27 w_5 => 
   act Tryz.prog (Builtin.append_ #[32, 32] 32 #[t24, t27]) (fun t28 w_6 => 
   pur Tryz.prog (nilV v_b) fun t29 => 
   pur Tryz.prog (Instr.fieldAt 43 t29 11) fun t30 => 
   act Tryz.prog (thenU (Instr.storeAt 32 t30 t28)) (fun _ w_7 => 
   J  w_7) w_6) w_5) w_4) (World.drew w_3)) (World.drew w_3)
   ) ∧ (callS Tryz.prog 36 #[v_l] (fun t26_1 w_8 => 
   (rd Tryz.prog (Instr.loadAt 32 t23) (fun t24_1 => 
   act Tryz.prog (Instr.buildSlice 32 1 #[(0, t26_1)]) (fun t27_1 w_9 => 
   act Tryz.prog (Builtin.append_ #[32, 32] 32 #[t24_1, t27_1]) (fun t28_1 w_10 => 
   pur Tryz.prog (nilV v_b) fun t29_1 => 
   pur Tryz.prog (Instr.fieldAt 43 t29_1 11) fun t30_1 => 
   act Tryz.prog (thenU (Instr.storeAt 32 t30_1 t28_1)) (fun _ w_11 => 
   J  w_11) w_10) w_9) w_8) w_8
   ) ∧ (act Tryz.prog (Instr.buildSlice 32 1 #[(0, t26_1)]) (fun t27_2 w_12 => 
   rd Tryz.prog (Instr.loadAt 32 t23) (fun t24_2 => 
   act Tryz.prog (Builtin.append_ #[32, 32] 32 #[t24_2, t27_2]) (fun t28_2 w_13 => 
   pur Tryz.prog (nilV v_b) fun t29_2 => 
   pur Tryz.prog (Instr.fieldAt 43 t29_2 11) fun t30_2 => 
   act Tryz.prog (thenU (Instr.storeAt 32 t30_2 t28_2)) (fun _ w_14 => 
   J  w_14) w_13) w_12) w_12) w_8)) (World.drew w_3)))
  (fun  w_15 => ∀ _j : Fr, 
   Q (.tuple #[]) w_15)) w_2) w_1) w) w)
  (Q (.tuple #[]) w)) w
theorem eq14 (v_b v_l : Value) (Q : Value → World → Prop) (w : World) : semF Tryz.prog 14 [v_b, v_l] Q w = S14 v_b v_l Q w := by kernel_rfl
theorem ref14 {v_b v_l : Value} {Q : Value → World → Prop} {w : World} (h : S14 v_b v_l Q w) : callS Tryz.prog 14 #[v_b, v_l] Q w :=
  callS_of mix (fun a w => Tryz.call14 a w) (by kernel_rfl) (by rw [eq14]; exact h)
-- commons/commonsbook.SameImages
def S15 (v_a v_b : Value) (Q : Value → World → Prop) (w : World) : Prop :=
 pur Tryz.prog (Builtin.len_ #[53] 3 #[v_a]) fun t7 => 
 pur Tryz.prog (Builtin.len_ #[53] 3 #[v_b]) fun t9 => 
 pur Tryz.prog (binS .neq 3 false false t7 t9) fun t10 => 
 condS t10
  (Q (.bool false) w)
  (lp 1 (fun J => fun v_i w_1 => ∀ _j : Fr, 
  pur Tryz.prog (Builtin.len_ #[53] 3 #[v_a]) fun t13 => 
  pur Tryz.prog (binS .lss 3 false false v_i t13) fun t14 => 
  condS t14
   (pur Tryz.prog (Instr.indexAt 53 v_a v_i) fun t19 => 
  rd Tryz.prog (Instr.loadAt 69 t19) (fun t20 => 
  pur Tryz.prog (Instr.indexAt 53 v_b v_i) fun t23 => 
  rd Tryz.prog (Instr.loadAt 69 t23) (fun t24 => 
  rd Tryz.prog (binS .eql 69 false false t20 t24) (fun t25 => 
  pur Tryz.prog (Op.unary .not t25) fun t26 => 
  condS t26
   (Q (.bool false) (World.drew w_1))
   (pur Tryz.prog (binS .add 3 false true v_i (.int .i64 1)) fun t16 => 
  J t16 (World.drew w_1))) (World.drew w_1)) (World.drew w_1)) (World.drew w_1))
   (Q (.bool true) w_1)) [(.int .i64 0)] w)
theorem eq15 (v_a v_b : Value) (Q : Value → World → Prop) (w : World) : semF Tryz.prog 15 [v_a, v_b] Q w = S15 v_a v_b Q w := by kernel_rfl
theorem ref15 {v_a v_b : Value} {Q : Value → World → Prop} {w : World} (h : S15 v_a v_b Q w) : callS Tryz.prog 15 #[v_a, v_b] Q w :=
  callS_of mix (fun a w => Tryz.call15 a w) (by kernel_rfl) (by rw [eq15]; exact h)
-- commons/commonsbook.StaysNums
def S16 (v_m v_was : Value) (Q : Value → World → Prop) (w : World) : Prop :=
 callS Tryz.prog 11 #[v_m, v_was] (fun t7 w_1 => 
 gd t7 true (fun k w_2 => k v_m w_2) (fun t9_1 w_3 => 
 gd t7 true (fun k_1 w_4 => k_1 v_m w_4) (fun t10_1 w_5 => 
 gd t7 true (fun k_2 w_6 => pur Tryz.prog (Builtin.len_ #[23] 3 #[t10_1]) fun t11 => k_2 t11 w_6) (fun t11_1 w_7 => 
 gd t7 true (fun k_3 w_8 => pur Tryz.prog (binS .add 3 false true t11_1 (.int .i64 1)) fun t12 => k_3 t12 w_8) (fun t12_1 w_9 => 
 gd t7 true (fun k_4 w_10 => pur Tryz.prog (Instr.sliceAt 23 t9_1 none (some t12_1) none) fun t13 => k_4 t13 w_10) (fun t13_1 w_11 => 
 gd t7 true (fun k_5 w_12 => k_5 v_m w_12) (fun t14_1 w_13 => 
 gd t7 true (fun k_6 w_14 => pur Tryz.prog (Builtin.len_ #[23] 3 #[t14_1]) fun t15 => k_6 t15 w_14) (fun t15_1 w_15 => 
 gd t7 true (fun k_7 w_16 => pur Tryz.prog (Instr.indexAt 23 t13_1 t15_1) fun t16 => k_7 t16 w_16) (fun t16_1 w_17 => 
 gd t7 true (fun k_8 w_18 => rd Tryz.prog (Instr.loadAt 64 t16_1) (fun t17 => k_8 t17 w_18) w_18) (fun t17_1 w_19 => 
 gd t7 true (fun k_9 w_20 => pur Tryz.prog (binS .eql 64 false true t17_1 (.int .u64 77)) fun t18 => k_9 t18 w_20) (fun t18_1 w_21 => 
 pur Tryz.prog (pickS t7 t18_1 (.bool false)) fun t19 => 
 Q t19 w_21) w_19) w_17) w_15) w_13) w_11) w_9) w_7) w_5) w_3) w_1) w
theorem eq16 (v_m v_was : Value) (Q : Value → World → Prop) (w : World) : semF Tryz.prog 16 [v_m, v_was] Q w = S16 v_m v_was Q w := by kernel_rfl
theorem ref16 {v_m v_was : Value} {Q : Value → World → Prop} {w : World} (h : S16 v_m v_was Q w) : callS Tryz.prog 16 #[v_m, v_was] Q w :=
  callS_of mix (fun a w => Tryz.call16 a w) (by kernel_rfl) (by rw [eq16]; exact h)
-- (*commons/commonsbook.Book).Apart
def S17 (v_b : Value) (Q : Value → World → Prop) (w : World) : Prop :=
 callS Tryz.prog 37 #[v_b] (fun t19 w_1 => 
 pur Tryz.prog (Op.unary .not t19) fun t20 => 
 condS t20
  (Q (.bool false) w_1)
  (callS Tryz.prog 38 #[v_b] (fun t22 w_2 => 
 pur Tryz.prog (Op.unary .not t22) fun t23 => 
 condS t23
  (Q (.bool false) w_2)
  (callS Tryz.prog 39 #[v_b] (fun t25 w_3 => 
 pur Tryz.prog (Op.unary .not t25) fun t26 => 
 condS t26
  (Q (.bool false) w_3)
  (callS Tryz.prog 40 #[v_b] (fun t28 w_4 => 
 pur Tryz.prog (Op.unary .not t28) fun t29 => 
 condS t29
  (Q (.bool false) w_4)
  (callS Tryz.prog 41 #[v_b] (fun t31 w_5 => 
 pur Tryz.prog (Op.unary .not t31) fun t32 => 
 condS t32
  (Q (.bool false) w_5)
  (callS Tryz.prog 42 #[v_b] (fun t34 w_6 => 
 pur Tryz.prog (Op.unary .not t34) fun t35 => 
 condS t35
  (Q (.bool false) w_6)
  (callS Tryz.prog 43 #[v_b] (fun t37 w_7 => 
 pur Tryz.prog (Op.unary .not t37) fun t38 => 
 condS t38
  (Q (.bool false) w_7)
  (callS Tryz.prog 44 #[v_b] (fun t40 w_8 => 
 pur Tryz.prog (Op.unary .not t40) fun t41 => 
 condS t41
  (Q (.bool false) w_8)
  (callS Tryz.prog 45 #[v_b] (fun t43 w_9 => 
 pur Tryz.prog (Op.unary .not t43) fun t44 => 
 condS t44
  (Q (.bool false) w_9)
  (callS Tryz.prog 46 #[v_b] (fun t46 w_10 => 
 pur Tryz.prog (Op.unary .not t46) fun t47 => 
 condS t47
  (Q (.bool false) w_10)
  (callS Tryz.prog 47 #[v_b] (fun t49 w_11 => 
 pur Tryz.prog (Op.unary .not t49) fun t50 => 
 condS t50
  (Q (.bool false) w_11)
  (callS Tryz.prog 48 #[v_b] (fun t52 w_12 => 
 pur Tryz.prog (Op.unary .not t52) fun t53 => 
 condS t53
  (Q (.bool false) w_12)
  (callS Tryz.prog 49 #[v_b] (fun t55 w_13 => 
 pur Tryz.prog (Op.unary .not t55) fun t56 => 
 condS t56
  (Q (.bool false) w_13)
  (callS Tryz.prog 50 #[v_b] (fun t58 w_14 => 
 pur Tryz.prog (Op.unary .not t58) fun t59 => 
 condS t59
  (Q (.bool false) w_14)
  (callS Tryz.prog 51 #[v_b] (fun t61 w_15 => 
 pur Tryz.prog (Op.unary .not t61) fun t62 => 
 condS t62
  (Q (.bool false) w_15)
  (callS Tryz.prog 52 #[v_b] (fun _ w_16 => 
 callS Tryz.prog 53 #[v_b] (fun _ w_17 => 
 callS Tryz.prog 54 #[v_b] (fun _ w_18 => 
 callS Tryz.prog 55 #[v_b] (fun _ w_19 => 
 callS Tryz.prog 56 #[v_b] (fun _ w_20 => 
 callS Tryz.prog 57 #[v_b] (fun _ w_21 => 
 callS Tryz.prog 58 #[v_b] (fun _ w_22 => 
 callS Tryz.prog 59 #[v_b] (fun _ w_23 => 
 callS Tryz.prog 60 #[v_b] (fun _ w_24 => 
 callS Tryz.prog 61 #[v_b] (fun _ w_25 => 
 callS Tryz.prog 62 #[v_b] (fun _ w_26 => 
 callS Tryz.prog 63 #[v_b] (fun _ w_27 => 
 callS Tryz.prog 64 #[v_b] (fun _ w_28 => 
 callS Tryz.prog 65 #[v_b] (fun _ w_29 => 
 callS Tryz.prog 66 #[v_b] (fun _ w_30 => 
 callS Tryz.prog 67 #[v_b] (fun t94 w_31 => 
 callS Tryz.prog 68 #[v_b] (fun t96 w_32 => 
 callS Tryz.prog 69 #[v_b] (fun t98 w_33 => 
 callS Tryz.prog 70 #[v_b] (fun t100 w_34 => 
 callS Tryz.prog 71 #[v_b] (fun t102 w_35 => 
 callS Tryz.prog 72 #[v_b] (fun t104 w_36 => 
 callS Tryz.prog 73 #[v_b] (fun t106 w_37 => 
 callS Tryz.prog 74 #[v_b] (fun t108 w_38 => 
 callS Tryz.prog 75 #[v_b] (fun t110 w_39 => 
 callS Tryz.prog 76 #[v_b] (fun t112 w_40 => 
 callS Tryz.prog 77 #[v_b] (fun t114 w_41 => 
 callS Tryz.prog 78 #[v_b] (fun t116 w_42 => 
 callS Tryz.prog 79 #[v_b] (fun t118 w_43 => 
 callS Tryz.prog 80 #[v_b] (fun t120 w_44 => 
 callS Tryz.prog 81 #[v_b] (fun t122 w_45 => 
 callS Tryz.prog 82 #[t94] (fun t124 w_46 => 
 gd t124 true (fun k w_47 => k v_b w_47) (fun t126_1 w_48 => 
 gd t124 true (fun k_1 w_49 => pur Tryz.prog (nilV t126_1) fun t127 => k_1 t127 w_49) (fun t127_1 w_50 => 
 gd t124 true (fun k_2 w_51 => pur Tryz.prog (Instr.fieldAt 43 t127_1 0) fun t128 => k_2 t128 w_51) (fun t128_1 w_52 => 
 gd t124 true (fun k_3 w_53 => rd Tryz.prog (Instr.loadAt 27 t128_1) (fun t129 => k_3 t129 w_53) w_53) (fun t129_1 w_54 => 
 gd t124 true (fun k_4 w_55 => callS Tryz.prog 82 #[t129_1] (fun t130 w_56 => k_4 t130 w_56) w_55) (fun t130_1 w_57 => 
 pur Tryz.prog (pickS t124 t130_1 (.bool false)) fun t131 => 
 gd t131 true (fun k_5 w_58 => k_5 t96 w_58) (fun t133_1 w_59 => 
 gd t131 true (fun k_6 w_60 => callS Tryz.prog 83 #[t133_1] (fun t134 w_61 => k_6 t134 w_61) w_60) (fun t134_1 w_62 => 
 pur Tryz.prog (pickS t131 t134_1 (.bool false)) fun t135 => 
 gd t135 true (fun k_7 w_63 => k_7 v_b w_63) (fun t137_1 w_64 => 
 gd t135 true (fun k_8 w_65 => pur Tryz.prog (nilV t137_1) fun t138 => k_8 t138 w_65) (fun t138_1 w_66 => 
 gd t135 true (fun k_9 w_67 => pur Tryz.prog (Instr.fieldAt 43 t138_1 2) fun t139 => k_9 t139 w_67) (fun t139_1 w_68 => 
 gd t135 true (fun k_10 w_69 => rd Tryz.prog (Instr.loadAt 28 t139_1) (fun t140 => k_10 t140 w_69) w_69) (fun t140_1 w_70 => 
 gd t135 true (fun k_11 w_71 => callS Tryz.prog 83 #[t140_1] (fun t141 w_72 => k_11 t141 w_72) w_71) (fun t141_1 w_73 => 
 pur Tryz.prog (pickS t135 t141_1 (.bool false)) fun t142 => 
 gd t142 true (fun k_12 w_74 => k_12 t98 w_74) (fun t144_1 w_75 => 
 gd t142 true (fun k_13 w_76 => callS Tryz.prog 84 #[t144_1] (fun t145 w_77 => k_13 t145 w_77) w_76) (fun t145_1 w_78 => 
 pur Tryz.prog (pickS t142 t145_1 (.bool false)) fun t146 => 
 gd t146 true (fun k_14 w_79 => k_14 v_b w_79) (fun t148_1 w_80 => 
 gd t146 true (fun k_15 w_81 => pur Tryz.prog (nilV t148_1) fun t149 => k_15 t149 w_81) (fun t149_1 w_82 => 
 gd t146 true (fun k_16 w_83 => pur Tryz.prog (Instr.fieldAt 43 t149_1 4) fun t150 => k_16 t150 w_83) (fun t150_1 w_84 => 
 gd t146 true (fun k_17 w_85 => rd Tryz.prog (Instr.loadAt 29 t150_1) (fun t151 => k_17 t151 w_85) w_85) (fun t151_1 w_86 => 
 gd t146 true (fun k_18 w_87 => callS Tryz.prog 84 #[t151_1] (fun t152 w_88 => k_18 t152 w_88) w_87) (fun t152_1 w_89 => 
 pur Tryz.prog (pickS t146 t152_1 (.bool false)) fun t153 => 
 gd t153 true (fun k_19 w_90 => k_19 t100 w_90) (fun t155_1 w_91 => 
 gd t153 true (fun k_20 w_92 => callS Tryz.prog 85 #[t155_1] (fun t156 w_93 => k_20 t156 w_93) w_92) (fun t156_1 w_94 => 
 pur Tryz.prog (pickS t153 t156_1 (.bool false)) fun t157 => 
 gd t157 true (fun k_21 w_95 => k_21 v_b w_95) (fun t159_1 w_96 => 
 gd t157 true (fun k_22 w_97 => pur Tryz.prog (nilV t159_1) fun t160 => k_22 t160 w_97) (fun t160_1 w_98 => 
 gd t157 true (fun k_23 w_99 => pur Tryz.prog (Instr.fieldAt 43 t160_1 6) fun t161 => k_23 t161 w_99) (fun t161_1 w_100 => 
 gd t157 true (fun k_24 w_101 => rd Tryz.prog (Instr.loadAt 30 t161_1) (fun t162 => k_24 t162 w_101) w_101) (fun t162_1 w_102 => 
 gd t157 true (fun k_25 w_103 => callS Tryz.prog 85 #[t162_1] (fun t163 w_104 => k_25 t163 w_104) w_103) (fun t163_1 w_105 => 
 pur Tryz.prog (pickS t157 t163_1 (.bool false)) fun t164 => 
 gd t164 true (fun k_26 w_106 => k_26 t102 w_106) (fun t166_1 w_107 => 
 gd t164 true (fun k_27 w_108 => callS Tryz.prog 86 #[t166_1] (fun t167 w_109 => k_27 t167 w_109) w_108) (fun t167_1 w_110 => 
 pur Tryz.prog (pickS t164 t167_1 (.bool false)) fun t168 => 
 gd t168 true (fun k_28 w_111 => k_28 v_b w_111) (fun t170_1 w_112 => 
 gd t168 true (fun k_29 w_113 => pur Tryz.prog (nilV t170_1) fun t171 => k_29 t171 w_113) (fun t171_1 w_114 => 
 gd t168 true (fun k_30 w_115 => pur Tryz.prog (Instr.fieldAt 43 t171_1 8) fun t172 => k_30 t172 w_115) (fun t172_1 w_116 => 
 gd t168 true (fun k_31 w_117 => rd Tryz.prog (Instr.loadAt 31 t172_1) (fun t173 => k_31 t173 w_117) w_117) (fun t173_1 w_118 => 
 gd t168 true (fun k_32 w_119 => callS Tryz.prog 86 #[t173_1] (fun t174 w_120 => k_32 t174 w_120) w_119) (fun t174_1 w_121 => 
 pur Tryz.prog (pickS t168 t174_1 (.bool false)) fun t175 => 
 gd t175 true (fun k_33 w_122 => k_33 t104 w_122) (fun t177_1 w_123 => 
 gd t175 true (fun k_34 w_124 => callS Tryz.prog 87 #[t177_1] (fun t178 w_125 => k_34 t178 w_125) w_124) (fun t178_1 w_126 => 
 pur Tryz.prog (pickS t175 t178_1 (.bool false)) fun t179 => 
 gd t179 true (fun k_35 w_127 => k_35 v_b w_127) (fun t181_1 w_128 => 
 gd t179 true (fun k_36 w_129 => pur Tryz.prog (nilV t181_1) fun t182 => k_36 t182 w_129) (fun t182_1 w_130 => 
 gd t179 true (fun k_37 w_131 => pur Tryz.prog (Instr.fieldAt 43 t182_1 10) fun t183 => k_37 t183 w_131) (fun t183_1 w_132 => 
 gd t179 true (fun k_38 w_133 => rd Tryz.prog (Instr.loadAt 32 t183_1) (fun t184 => k_38 t184 w_133) w_133) (fun t184_1 w_134 => 
 gd t179 true (fun k_39 w_135 => callS Tryz.prog 87 #[t184_1] (fun t185 w_136 => k_39 t185 w_136) w_135) (fun t185_1 w_137 => 
 pur Tryz.prog (pickS t179 t185_1 (.bool false)) fun t186 => 
 gd t186 true (fun k_40 w_138 => k_40 t106 w_138) (fun t188_1 w_139 => 
 gd t186 true (fun k_41 w_140 => callS Tryz.prog 88 #[t188_1] (fun t189 w_141 => k_41 t189 w_141) w_140) (fun t189_1 w_142 => 
 pur Tryz.prog (pickS t186 t189_1 (.bool false)) fun t190 => 
 gd t190 true (fun k_42 w_143 => k_42 v_b w_143) (fun t192_1 w_144 => 
 gd t190 true (fun k_43 w_145 => pur Tryz.prog (nilV t192_1) fun t193 => k_43 t193 w_145) (fun t193_1 w_146 => 
 gd t190 true (fun k_44 w_147 => pur Tryz.prog (Instr.fieldAt 43 t193_1 12) fun t194 => k_44 t194 w_147) (fun t194_1 w_148 => 
 gd t190 true (fun k_45 w_149 => rd Tryz.prog (Instr.loadAt 33 t194_1) (fun t195 => k_45 t195 w_149) w_149) (fun t195_1 w_150 => 
 gd t190 true (fun k_46 w_151 => callS Tryz.prog 88 #[t195_1] (fun t196 w_152 => k_46 t196 w_152) w_151) (fun t196_1 w_153 => 
 pur Tryz.prog (pickS t190 t196_1 (.bool false)) fun t197 => 
 gd t197 true (fun k_47 w_154 => k_47 t108 w_154) (fun t199_1 w_155 => 
 gd t197 true (fun k_48 w_156 => callS Tryz.prog 89 #[t199_1] (fun t200 w_157 => k_48 t200 w_157) w_156) (fun t200_1 w_158 => 
 pur Tryz.prog (pickS t197 t200_1 (.bool false)) fun t201 => 
 gd t201 true (fun k_49 w_159 => k_49 v_b w_159) (fun t203_1 w_160 => 
 gd t201 true (fun k_50 w_161 => pur Tryz.prog (nilV t203_1) fun t204 => k_50 t204 w_161) (fun t204_1 w_162 => 
 gd t201 true (fun k_51 w_163 => pur Tryz.prog (Instr.fieldAt 43 t204_1 14) fun t205 => k_51 t205 w_163) (fun t205_1 w_164 => 
 gd t201 true (fun k_52 w_165 => rd Tryz.prog (Instr.loadAt 34 t205_1) (fun t206 => k_52 t206 w_165) w_165) (fun t206_1 w_166 => 
 gd t201 true (fun k_53 w_167 => callS Tryz.prog 89 #[t206_1] (fun t207 w_168 => k_53 t207 w_168) w_167) (fun t207_1 w_169 => 
 pur Tryz.prog (pickS t201 t207_1 (.bool false)) fun t208 => 
 gd t208 true (fun k_54 w_170 => k_54 t110 w_170) (fun t210_1 w_171 => 
 gd t208 true (fun k_55 w_172 => callS Tryz.prog 90 #[t210_1] (fun t211 w_173 => k_55 t211 w_173) w_172) (fun t211_1 w_174 => 
 pur Tryz.prog (pickS t208 t211_1 (.bool false)) fun t212 => 
 gd t212 true (fun k_56 w_175 => k_56 v_b w_175) (fun t214_1 w_176 => 
 gd t212 true (fun k_57 w_177 => pur Tryz.prog (nilV t214_1) fun t215 => k_57 t215 w_177) (fun t215_1 w_178 => 
 gd t212 true (fun k_58 w_179 => pur Tryz.prog (Instr.fieldAt 43 t215_1 16) fun t216 => k_58 t216 w_179) (fun t216_1 w_180 => 
 gd t212 true (fun k_59 w_181 => rd Tryz.prog (Instr.loadAt 35 t216_1) (fun t217 => k_59 t217 w_181) w_181) (fun t217_1 w_182 => 
 gd t212 true (fun k_60 w_183 => callS Tryz.prog 90 #[t217_1] (fun t218 w_184 => k_60 t218 w_184) w_183) (fun t218_1 w_185 => 
 pur Tryz.prog (pickS t212 t218_1 (.bool false)) fun t219 => 
 gd t219 true (fun k_61 w_186 => k_61 t112 w_186) (fun t221_1 w_187 => 
 gd t219 true (fun k_62 w_188 => callS Tryz.prog 91 #[t221_1] (fun t222 w_189 => k_62 t222 w_189) w_188) (fun t222_1 w_190 => 
 pur Tryz.prog (pickS t219 t222_1 (.bool false)) fun t223 => 
 gd t223 true (fun k_63 w_191 => k_63 v_b w_191) (fun t225_1 w_192 => 
 gd t223 true (fun k_64 w_193 => pur Tryz.prog (nilV t225_1) fun t226 => k_64 t226 w_193) (fun t226_1 w_194 => 
 gd t223 true (fun k_65 w_195 => pur Tryz.prog (Instr.fieldAt 43 t226_1 18) fun t227 => k_65 t227 w_195) (fun t227_1 w_196 => 
 gd t223 true (fun k_66 w_197 => rd Tryz.prog (Instr.loadAt 36 t227_1) (fun t228 => k_66 t228 w_197) w_197) (fun t228_1 w_198 => 
 gd t223 true (fun k_67 w_199 => callS Tryz.prog 91 #[t228_1] (fun t229 w_200 => k_67 t229 w_200) w_199) (fun t229_1 w_201 => 
 pur Tryz.prog (pickS t223 t229_1 (.bool false)) fun t230 => 
 gd t230 true (fun k_68 w_202 => k_68 t114 w_202) (fun t232_1 w_203 => 
 gd t230 true (fun k_69 w_204 => callS Tryz.prog 92 #[t232_1] (fun t233 w_205 => k_69 t233 w_205) w_204) (fun t233_1 w_206 => 
 pur Tryz.prog (pickS t230 t233_1 (.bool false)) fun t234 => 
 gd t234 true (fun k_70 w_207 => k_70 v_b w_207) (fun t236_1 w_208 => 
 gd t234 true (fun k_71 w_209 => pur Tryz.prog (nilV t236_1) fun t237 => k_71 t237 w_209) (fun t237_1 w_210 => 
 gd t234 true (fun k_72 w_211 => pur Tryz.prog (Instr.fieldAt 43 t237_1 20) fun t238 => k_72 t238 w_211) (fun t238_1 w_212 => 
 gd t234 true (fun k_73 w_213 => rd Tryz.prog (Instr.loadAt 37 t238_1) (fun t239 => k_73 t239 w_213) w_213) (fun t239_1 w_214 => 
 gd t234 true (fun k_74 w_215 => callS Tryz.prog 92 #[t239_1] (fun t240 w_216 => k_74 t240 w_216) w_215) (fun t240_1 w_217 => 
 pur Tryz.prog (pickS t234 t240_1 (.bool false)) fun t241 => 
 gd t241 true (fun k_75 w_218 => k_75 t116 w_218) (fun t243_1 w_219 => 
 gd t241 true (fun k_76 w_220 => callS Tryz.prog 93 #[t243_1] (fun t244 w_221 => k_76 t244 w_221) w_220) (fun t244_1 w_222 => 
 pur Tryz.prog (pickS t241 t244_1 (.bool false)) fun t245 => 
 gd t245 true (fun k_77 w_223 => k_77 v_b w_223) (fun t247_1 w_224 => 
 gd t245 true (fun k_78 w_225 => pur Tryz.prog (nilV t247_1) fun t248 => k_78 t248 w_225) (fun t248_1 w_226 => 
 gd t245 true (fun k_79 w_227 => pur Tryz.prog (Instr.fieldAt 43 t248_1 22) fun t249 => k_79 t249 w_227) (fun t249_1 w_228 => 
 gd t245 true (fun k_80 w_229 => rd Tryz.prog (Instr.loadAt 38 t249_1) (fun t250 => k_80 t250 w_229) w_229) (fun t250_1 w_230 => 
 gd t245 true (fun k_81 w_231 => callS Tryz.prog 93 #[t250_1] (fun t251 w_232 => k_81 t251 w_232) w_231) (fun t251_1 w_233 => 
 pur Tryz.prog (pickS t245 t251_1 (.bool false)) fun t252 => 
 gd t252 true (fun k_82 w_234 => k_82 t118 w_234) (fun t254_1 w_235 => 
 gd t252 true (fun k_83 w_236 => callS Tryz.prog 94 #[t254_1] (fun t255 w_237 => k_83 t255 w_237) w_236) (fun t255_1 w_238 => 
 pur Tryz.prog (pickS t252 t255_1 (.bool false)) fun t256 => 
 gd t256 true (fun k_84 w_239 => k_84 v_b w_239) (fun t258_1 w_240 => 
 gd t256 true (fun k_85 w_241 => pur Tryz.prog (nilV t258_1) fun t259 => k_85 t259 w_241) (fun t259_1 w_242 => 
 gd t256 true (fun k_86 w_243 => pur Tryz.prog (Instr.fieldAt 43 t259_1 24) fun t260 => k_86 t260 w_243) (fun t260_1 w_244 => 
 gd t256 true (fun k_87 w_245 => rd Tryz.prog (Instr.loadAt 39 t260_1) (fun t261 => k_87 t261 w_245) w_245) (fun t261_1 w_246 => 
 gd t256 true (fun k_88 w_247 => callS Tryz.prog 94 #[t261_1] (fun t262 w_248 => k_88 t262 w_248) w_247) (fun t262_1 w_249 => 
 pur Tryz.prog (pickS t256 t262_1 (.bool false)) fun t263 => 
 gd t263 true (fun k_89 w_250 => k_89 t120 w_250) (fun t265_1 w_251 => 
 gd t263 true (fun k_90 w_252 => callS Tryz.prog 95 #[t265_1] (fun t266 w_253 => k_90 t266 w_253) w_252) (fun t266_1 w_254 => 
 pur Tryz.prog (pickS t263 t266_1 (.bool false)) fun t267 => 
 gd t267 true (fun k_91 w_255 => k_91 v_b w_255) (fun t269_1 w_256 => 
 gd t267 true (fun k_92 w_257 => pur Tryz.prog (nilV t269_1) fun t270 => k_92 t270 w_257) (fun t270_1 w_258 => 
 gd t267 true (fun k_93 w_259 => pur Tryz.prog (Instr.fieldAt 43 t270_1 26) fun t271 => k_93 t271 w_259) (fun t271_1 w_260 => 
 gd t267 true (fun k_94 w_261 => rd Tryz.prog (Instr.loadAt 40 t271_1) (fun t272 => k_94 t272 w_261) w_261) (fun t272_1 w_262 => 
 gd t267 true (fun k_95 w_263 => callS Tryz.prog 95 #[t272_1] (fun t273 w_264 => k_95 t273 w_264) w_263) (fun t273_1 w_265 => 
 pur Tryz.prog (pickS t267 t273_1 (.bool false)) fun t274 => 
 gd t274 true (fun k_96 w_266 => k_96 t122 w_266) (fun t276_1 w_267 => 
 gd t274 true (fun k_97 w_268 => callS Tryz.prog 96 #[t276_1] (fun t277 w_269 => k_97 t277 w_269) w_268) (fun t277_1 w_270 => 
 pur Tryz.prog (pickS t274 t277_1 (.bool false)) fun t278 => 
 gd t278 true (fun k_98 w_271 => k_98 v_b w_271) (fun t280_1 w_272 => 
 gd t278 true (fun k_99 w_273 => pur Tryz.prog (nilV t280_1) fun t281 => k_99 t281 w_273) (fun t281_1 w_274 => 
 gd t278 true (fun k_100 w_275 => pur Tryz.prog (Instr.fieldAt 43 t281_1 28) fun t282 => k_100 t282 w_275) (fun t282_1 w_276 => 
 gd t278 true (fun k_101 w_277 => rd Tryz.prog (Instr.loadAt 41 t282_1) (fun t283 => k_101 t283 w_277) w_277) (fun t283_1 w_278 => 
 gd t278 true (fun k_102 w_279 => callS Tryz.prog 96 #[t283_1] (fun t284 w_280 => k_102 t284 w_280) w_279) (fun t284_1 w_281 => 
 pur Tryz.prog (pickS t278 t284_1 (.bool false)) fun t285 => 
 Q t285 w_281) w_278) w_276) w_274) w_272) w_270) w_267) w_265) w_262) w_260) w_258) w_256) w_254) w_251) w_249) w_246) w_244) w_242) w_240) w_238) w_235) w_233) w_230) w_228) w_226) w_224) w_222) w_219) w_217) w_214) w_212) w_210) w_208) w_206) w_203) w_201) w_198) w_196) w_194) w_192) w_190) w_187) w_185) w_182) w_180) w_178) w_176) w_174) w_171) w_169) w_166) w_164) w_162) w_160) w_158) w_155) w_153) w_150) w_148) w_146) w_144) w_142) w_139) w_137) w_134) w_132) w_130) w_128) w_126) w_123) w_121) w_118) w_116) w_114) w_112) w_110) w_107) w_105) w_102) w_100) w_98) w_96) w_94) w_91) w_89) w_86) w_84) w_82) w_80) w_78) w_75) w_73) w_70) w_68) w_66) w_64) w_62) w_59) w_57) w_54) w_52) w_50) w_48) w_46) w_45) w_44) w_43) w_42) w_41) w_40) w_39) w_38) w_37) w_36) w_35) w_34) w_33) w_32) w_31) w_30) w_29) w_28) w_27) w_26) w_25) w_24) w_23) w_22) w_21) w_20) w_19) w_18) w_17) w_16) w_15)) w_14)) w_13)) w_12)) w_11)) w_10)) w_9)) w_8)) w_7)) w_6)) w_5)) w_4)) w_3)) w_2)) w_1)) w
theorem eq17 (v_b : Value) (Q : Value → World → Prop) (w : World) : semF Tryz.prog 17 [v_b] Q w = S17 v_b Q w := by kernel_rfl
theorem ref17 {v_b : Value} {Q : Value → World → Prop} {w : World} (h : S17 v_b Q w) : callS Tryz.prog 17 #[v_b] Q w :=
  callS_of mix (fun a w => Tryz.call17 a w) (by kernel_rfl) (by rw [eq17]; exact h)
-- commons/hist.Judge
def S18 (v_l : Value) (Q : Value → World → Prop) (w : World) : Prop :=
 callS Tryz.prog 8 #[v_l] (fun t15 w_1 => 
 pur Tryz.prog (Instr.extract t15 0) fun t16 => 
 pur Tryz.prog (Instr.extract t15 1) fun t17 => 
 pur Tryz.prog (binS .neq 47 false true t17 (.int .i64 0)) fun t19 => 
 condS t19
  (Q (.tuple #[(.bool false), t17]) w_1)
  (pur Tryz.prog (Builtin.len_ #[29] 3 #[t16]) fun t22 => 
 act Tryz.prog (Instr.makeSlice 86 t22 t22) (fun t23 w_2 => 
 lp 0 (fun J => fun  w_3 => ∀ _j : Fr, 
  pur Tryz.prog (Builtin.len_ #[29] 3 #[t16]) fun t25 => 
  lp 2 (fun J_1 => fun v_cuts t26 w_4 => ∀ _j : Fr, 
   pur Tryz.prog (binS .lss 3 false false t26 t25) fun t27 => 
   condS t27
    (pur Tryz.prog (Instr.indexAt 29 t16 t26) fun t29 => 
   rd Tryz.prog (Instr.loadAt 23 t29) (fun t30 => 
   pur Tryz.prog (Instr.indexAt 86 t23 t26) fun t35 => 
   rd Tryz.prog (Instr.loadAt 3 t35) (fun t36 => 
   pur Tryz.prog (Instr.indexAt 23 t30 t36) fun t37 => 
   rd Tryz.prog (Instr.loadAt 64 t37) (fun t38 => 
   act Tryz.prog (Instr.buildSlice 23 1 #[(0, t38)]) (fun t39 w_5 => 
   act Tryz.prog (Builtin.append_ #[23, 23] 23 #[v_cuts, t39]) (fun t40 w_6 => 
   pur Tryz.prog (binS .add 3 false true t26 (.int .i64 1)) fun t41 => 
   J_1 t40 t41 w_6) w_5) w_4) w_4) w_4) w_4)
    (callS Tryz.prog 12 #[v_l, v_cuts] (fun t45 w_7 => 
  pur Tryz.prog (Instr.extract t45 0) fun t46 => 
  pur Tryz.prog (Instr.extract t45 1) fun _ => 
  condS t46
   (Q (.tuple #[(.bool true), (.int .i64 0)]) w_7)
   (lp 1 (fun J_2 => fun v_i w_8 => ∀ _j : Fr, 
   pur Tryz.prog (Builtin.len_ #[86] 3 #[t23]) fun t51 => 
   pur Tryz.prog (binS .lss 3 false false v_i t51) fun t52 => 
   gd t52 true (fun k w_9 => k t23 w_9) (fun t54_1 w_10 => 
   gd t52 true (fun k_1 w_11 => k_1 v_i w_11) (fun t55_1 w_12 => 
   gd t52 true (fun k_2 w_13 => pur Tryz.prog (Instr.indexAt 86 t54_1 t55_1) fun t56 => k_2 t56 w_13) (fun t56_1 w_14 => 
   gd t52 true (fun k_3 w_15 => rd Tryz.prog (Instr.loadAt 3 t56_1) (fun t57 => k_3 t57 w_15) w_15) (fun t57_1 w_16 => 
   gd t52 true (fun k_4 w_17 => k_4 t16 w_17) (fun t58_1 w_18 => 
   gd t52 true (fun k_5 w_19 => k_5 v_i w_19) (fun t59_1 w_20 => 
   gd t52 true (fun k_6 w_21 => pur Tryz.prog (Instr.indexAt 29 t58_1 t59_1) fun t60 => k_6 t60 w_21) (fun t60_1 w_22 => 
   gd t52 true (fun k_7 w_23 => rd Tryz.prog (Instr.loadAt 23 t60_1) (fun t61 => k_7 t61 w_23) w_23) (fun t61_1 w_24 => 
   gd t52 true (fun k_8 w_25 => pur Tryz.prog (Builtin.len_ #[23] 3 #[t61_1]) fun t62 => k_8 t62 w_25) (fun t62_1 w_26 => 
   gd t52 true (fun k_9 w_27 => pur Tryz.prog (binS .sub 3 false true t62_1 (.int .i64 1)) fun t63 => k_9 t63 w_27) (fun t63_1 w_28 => 
   gd t52 true (fun k_10 w_29 => pur Tryz.prog (binS .eql 3 false false t57_1 t63_1) fun t64 => k_10 t64 w_29) (fun t64_1 w_30 => 
   pur Tryz.prog (pickS t52 t64_1 (.bool false)) fun t65 => 
   condS t65
    (pur Tryz.prog (Instr.indexAt 86 t23 v_i) fun t68 => 
   act Tryz.prog (thenU (Instr.storeAt 3 t68 (.int .i64 0))) (fun _ w_31 => 
   pur Tryz.prog (binS .add 3 false true v_i (.int .i64 1)) fun t70 => 
   J_2 t70 w_31) w_30)
    (pur Tryz.prog (Builtin.len_ #[86] 3 #[t23]) fun t73 => 
  pur Tryz.prog (binS .eql 3 false false v_i t73) fun t74 => 
  condS t74
   (Q (.tuple #[(.bool false), (.int .i64 0)]) w_30)
   (pur Tryz.prog (Instr.indexAt 86 t23 v_i) fun t77 => 
  rd Tryz.prog (Instr.loadAt 3 t77) (fun t78 => 
  pur Tryz.prog (binS .add 3 false true t78 (.int .i64 1)) fun t79 => 
  pur Tryz.prog (Instr.indexAt 86 t23 v_i) fun t80 => 
  act Tryz.prog (thenU (Instr.storeAt 3 t80 t79)) (fun _ w_32 => 
  J  w_32) w_30) w_30))) w_28) w_26) w_24) w_22) w_20) w_18) w_16) w_14) w_12) w_10) (World.drew w_8)) [(.int .i64 0)] w_7)) w_4)) [(.slice none 0 0), (.int .i64 0)] w_3) [] w_2) w_1)) w
theorem eq18 (v_l : Value) (Q : Value → World → Prop) (w : World) : semF Tryz.prog 18 [v_l] Q w = S18 v_l Q w := by kernel_rfl
theorem ref18 {v_l : Value} {Q : Value → World → Prop} {w : World} (h : S18 v_l Q w) : callS Tryz.prog 18 #[v_l] Q w :=
  callS_of mix (fun a w => Tryz.call18 a w) (by kernel_rfl) (by rw [eq18]; exact h)
-- commons/commonsref26.Judge
def S19 (v_l : Value) (Q : Value → World → Prop) (w : World) : Prop :=
 callS Tryz.prog 9 #[v_l] (fun t14 w_1 => 
 pur Tryz.prog (Instr.extract t14 0) fun t15 => 
 pur Tryz.prog (Instr.extract t14 1) fun t16 => 
 pur Tryz.prog (binS .neq 47 false true t16 (.int .i64 0)) fun t18 => 
 condS t18
  (Q (.tuple #[(.bool false), t16]) w_1)
  (pur Tryz.prog (Builtin.len_ #[29] 3 #[t15]) fun t21 => 
 act Tryz.prog (Instr.makeSlice 86 t21 t21) (fun t22 w_2 => 
 lp 0 (fun J => fun  w_3 => ∀ _j : Fr, 
  lp 2 (fun J_1 => fun v_cuts v_i w_4 => ∀ _j : Fr, 
   pur Tryz.prog (Builtin.len_ #[29] 3 #[t15]) fun t25 => 
   pur Tryz.prog (binS .lss 3 false false v_i t25) fun t26 => 
   condS t26
    (pur Tryz.prog (Instr.indexAt 29 t15 v_i) fun t32 => 
   rd Tryz.prog (Instr.loadAt 23 t32) (fun t33 => 
   pur Tryz.prog (Instr.indexAt 86 t22 v_i) fun t36 => 
   rd Tryz.prog (Instr.loadAt 3 t36) (fun t37 => 
   pur Tryz.prog (Instr.indexAt 23 t33 t37) fun t38 => 
   rd Tryz.prog (Instr.loadAt 64 t38) (fun t39 => 
   act Tryz.prog (Instr.buildSlice 23 1 #[(0, t39)]) (fun t40 w_5 => 
   act Tryz.prog (Builtin.append_ #[23, 23] 23 #[v_cuts, t40]) (fun t41 w_6 => 
   pur Tryz.prog (binS .add 3 false true v_i (.int .i64 1)) fun t28 => 
   J_1 t41 t28 w_6) w_5) (World.drew w_4)) (World.drew w_4)) (World.drew w_4)) (World.drew w_4))
    (callS Tryz.prog 13 #[v_l, v_cuts] (fun t45 w_7 => 
  pur Tryz.prog (Instr.extract t45 0) fun t46 => 
  pur Tryz.prog (Instr.extract t45 1) fun _ => 
  condS t46
   (Q (.tuple #[(.bool true), (.int .i64 0)]) w_7)
   (lp 1 (fun J_2 => fun v_k w_8 => ∀ _j : Fr, 
   pur Tryz.prog (Builtin.len_ #[29] 3 #[t15]) fun t51 => 
   pur Tryz.prog (binS .lss 3 false false v_k t51) fun t52 => 
   gd t52 true (fun k w_9 => k t22 w_9) (fun t54_1 w_10 => 
   gd t52 true (fun k_1 w_11 => k_1 v_k w_11) (fun t55_1 w_12 => 
   gd t52 true (fun k_2 w_13 => pur Tryz.prog (Instr.indexAt 86 t54_1 t55_1) fun t56 => k_2 t56 w_13) (fun t56_1 w_14 => 
   gd t52 true (fun k_3 w_15 => rd Tryz.prog (Instr.loadAt 3 t56_1) (fun t57 => k_3 t57 w_15) w_15) (fun t57_1 w_16 => 
   gd t52 true (fun k_4 w_17 => k_4 t15 w_17) (fun t58_1 w_18 => 
   gd t52 true (fun k_5 w_19 => k_5 v_k w_19) (fun t59_1 w_20 => 
   gd t52 true (fun k_6 w_21 => pur Tryz.prog (Instr.indexAt 29 t58_1 t59_1) fun t60 => k_6 t60 w_21) (fun t60_1 w_22 => 
   gd t52 true (fun k_7 w_23 => rd Tryz.prog (Instr.loadAt 23 t60_1) (fun t61 => k_7 t61 w_23) w_23) (fun t61_1 w_24 => 
   gd t52 true (fun k_8 w_25 => pur Tryz.prog (Builtin.len_ #[23] 3 #[t61_1]) fun t62 => k_8 t62 w_25) (fun t62_1 w_26 => 
   gd t52 true (fun k_9 w_27 => pur Tryz.prog (binS .sub 3 false true t62_1 (.int .i64 1)) fun t63 => k_9 t63 w_27) (fun t63_1 w_28 => 
   gd t52 true (fun k_10 w_29 => pur Tryz.prog (binS .eql 3 false false t57_1 t63_1) fun t64 => k_10 t64 w_29) (fun t64_1 w_30 => 
   pur Tryz.prog (pickS t52 t64_1 (.bool false)) fun t65 => 
   condS t65
    (pur Tryz.prog (Instr.indexAt 86 t22 v_k) fun t68 => 
   act Tryz.prog (thenU (Instr.storeAt 3 t68 (.int .i64 0))) (fun _ w_31 => 
   pur Tryz.prog (binS .add 3 false true v_k (.int .i64 1)) fun t70 => 
   J_2 t70 w_31) w_30)
    (pur Tryz.prog (Builtin.len_ #[29] 3 #[t15]) fun t73 => 
  pur Tryz.prog (binS .eql 3 false false v_k t73) fun t74 => 
  condS t74
   (Q (.tuple #[(.bool false), (.int .i64 0)]) w_30)
   (pur Tryz.prog (Instr.indexAt 86 t22 v_k) fun t77 => 
  rd Tryz.prog (Instr.loadAt 3 t77) (fun t78 => 
  pur Tryz.prog (binS .add 3 false true t78 (.int .i64 1)) fun t79 => 
  pur Tryz.prog (Instr.indexAt 86 t22 v_k) fun t80 => 
  act Tryz.prog (thenU (Instr.storeAt 3 t80 t79)) (fun _ w_32 => 
  J  w_32) w_30) w_30))) w_28) w_26) w_24) w_22) w_20) w_18) w_16) w_14) w_12) w_10) (World.drew w_8)) [(.int .i64 0)] w_7)) w_4)) [(.slice none 0 0), (.int .i64 0)] w_3) [] w_2) w_1)) w
theorem eq19 (v_l : Value) (Q : Value → World → Prop) (w : World) : semF Tryz.prog 19 [v_l] Q w = S19 v_l Q w := by kernel_rfl
theorem ref19 {v_l : Value} {Q : Value → World → Prop} {w : World} (h : S19 v_l Q w) : callS Tryz.prog 19 #[v_l] Q w :=
  callS_of mix (fun a w => Tryz.call19 a w) (by kernel_rfl) (by rw [eq19]; exact h)
-- commons/commonsbook.Light
def S20 (v_few v_room v_l : Value) (Q : Value → World → Prop) (w : World) : Prop :=
 pur Tryz.prog (Builtin.len_ #[53] 3 #[v_l]) fun t9 => 
 pur Tryz.prog (binS .gtr 3 false false t9 v_few) fun t11 => 
 condS t11
  (Q (.bool false) w)
  (lp 2 (fun J => fun v_room_1 v_i w_1 => ∀ _j : Fr, 
  pur Tryz.prog (Builtin.len_ #[53] 3 #[v_l]) fun t14 => 
  pur Tryz.prog (binS .lss 3 false false v_i t14) fun t15 => 
  gd t15 true (fun k w_2 => k v_room_1 w_2) (fun t17_1 w_3 => 
  gd t15 true (fun k_1 w_4 => pur Tryz.prog (binS .geq 3 false true t17_1 (.int .i64 0)) fun t18 => k_1 t18 w_4) (fun t18_1 w_5 => 
  pur Tryz.prog (pickS t15 t18_1 (.bool false)) fun t19 => 
  condS t19
   (pur Tryz.prog (Instr.indexAt 53 v_l v_i) fun t25 => 
  pur Tryz.prog (Instr.fieldAt 69 t25 2) fun t26 => 
  rd Tryz.prog (Instr.loadAt 9 t26) (fun t27 => 
  pur Tryz.prog (Builtin.len_ #[9] 3 #[t27]) fun t28 => 
  act Tryz.prog (Instr.buildSlice 86 1 #[(0, t28)]) (fun t29 w_6 => 
  callS Tryz.prog 97 #[v_room_1, t29] (fun t30 w_7 => 
  pur Tryz.prog (binS .add 3 false true v_i (.int .i64 1)) fun t21 => 
  J t30 t21 w_7) w_6) w_5) w_5)
   (pur Tryz.prog (binS .geq 3 false true v_room_1 (.int .i64 0)) fun t32 => 
 Q t32 w_5)) w_3) w_1) [v_room, (.int .i64 0)] w)
theorem eq20 (v_few v_room v_l : Value) (Q : Value → World → Prop) (w : World) : semF Tryz.prog 20 [v_few, v_room, v_l] Q w = S20 v_few v_room v_l Q w := by kernel_rfl
theorem ref20 {v_few v_room v_l : Value} {Q : Value → World → Prop} {w : World} (h : S20 v_few v_room v_l Q w) : callS Tryz.prog 20 #[v_few, v_room, v_l] Q w :=
  callS_of mix (fun a w => Tryz.call20 a w) (by kernel_rfl) (by rw [eq20]; exact h)
-- commons/commonslaw11.One
def S21 (v_n v_v : Value) (Q : Value → World → Prop) (w : World) : Prop :=
 act Tryz.prog (Instr.alloc 69 true (.tuple #[])) (fun t4 w_1 => 
 act Tryz.prog (Instr.makeSlice 67 (.int .i64 96) (.int .i64 96)) (fun t6 w_2 => 
 pur Tryz.prog (convert 3 5 v_n) fun t9 => 
 pur Tryz.prog (Instr.indexAt 67 t6 (.int .i64 0)) fun t10 => 
 act Tryz.prog (thenU (Instr.storeAt 5 t10 t9)) (fun _ w_3 => 
 act Tryz.prog (convert 67 9 t6) (fun t14 w_4 => 
 pur Tryz.prog (Instr.build 69 #[(0, v_n), (1, v_v), (2, t14)]) fun t15 => 
 act Tryz.prog (thenU (Instr.storeAt 69 t4 t15)) (fun _ w_5 => 
 rd Tryz.prog (resL 69 t4) (fun r => Q r w_5) w_5) w_4) w_3) w_2) w_1) w
theorem eq21 (v_n v_v : Value) (Q : Value → World → Prop) (w : World) : semF Tryz.prog 21 [v_n, v_v] Q w = S21 v_n v_v Q w := by kernel_rfl
theorem ref21 {v_n v_v : Value} {Q : Value → World → Prop} {w : World} (h : S21 v_n v_v Q w) : callS Tryz.prog 21 #[v_n, v_v] Q w :=
  callS_of mix (fun a w => Tryz.call21 a w) (by kernel_rfl) (by rw [eq21]; exact h)
-- commons/hist.bounds
def S22 (v_l v_at : Value) (Q : Value → World → Prop) (w : World) : Prop :=
 pur Tryz.prog (Instr.indexAt 22 v_l v_at) fun t13 => 
 rd Tryz.prog (Instr.loadAt 66 t13) (fun t14 => 
 act Tryz.prog (Instr.alloc 66 true (.tuple #[])) (fun t6 w_1 => 
 act Tryz.prog (thenU (Instr.storeAt 66 t6 t14)) (fun _ w_2 => 
 pur Tryz.prog (Instr.sliceAt 22 v_l none (some v_at) none) fun t17 => 
 pur Tryz.prog (Builtin.len_ #[22] 3 #[t17]) fun t18 => 
 lp 3 (fun J => fun v_least v_most t19 w_3 => ∀ _j : Fr, 
  pur Tryz.prog (binS .lss 3 false false t19 t18) fun t20 => 
  condS t20
   (jn 2 (fun J_1 => 
   pur Tryz.prog (Instr.indexAt 22 t17 t19) fun t21 => 
   rd Tryz.prog (Instr.loadAt 66 t21) (fun t22 => 
   act Tryz.prog (Instr.alloc 66 true (.tuple #[])) (fun t10 w_4 => 
   act Tryz.prog (thenU (Instr.storeAt 66 t10 t22)) (fun _ w_5 => 
   pur Tryz.prog (Instr.fieldAt 66 t10 1) fun t23 => 
   rd Tryz.prog (Instr.loadAt 3 t23) (fun t24 => 
   pur Tryz.prog (Instr.fieldAt 66 t6 1) fun t25 => 
   rd Tryz.prog (Instr.loadAt 3 t25) (fun t26 => 
   pur Tryz.prog (binS .neq 3 false false t24 t26) fun t27 => 
   gd t27 false (fun k w_6 => pur Tryz.prog (Instr.fieldAt 66 t10 2) fun t29 => k t29 w_6) (fun t29_1 w_7 => 
   gd t27 false (fun k_1 w_8 => rd Tryz.prog (Instr.loadAt 64 t29_1) (fun t30 => k_1 t30 w_8) w_8) (fun t30_1 w_9 => 
   gd t27 false (fun k_2 w_10 => pur Tryz.prog (Instr.fieldAt 66 t6 2) fun t31 => k_2 t31 w_10) (fun t31_1 w_11 => 
   gd t27 false (fun k_3 w_12 => rd Tryz.prog (Instr.loadAt 64 t31_1) (fun t32 => k_3 t32 w_12) w_12) (fun t32_1 w_13 => 
   gd t27 false (fun k_4 w_14 => pur Tryz.prog (binS .neq 64 false false t30_1 t32_1) fun t33 => k_4 t33 w_14) (fun t33_1 w_15 => 
   pur Tryz.prog (pickS t27 (.bool true) t33_1) fun t34 => 
   condS t34
    (J_1 v_least v_most w_15)
    (pur Tryz.prog (Instr.fieldAt 66 t10 0) fun t35 => 
   rd Tryz.prog (Instr.loadAt 3 t35) (fun t36 => 
   pur Tryz.prog (binS .eql 3 false true t36 (.int .i64 2)) fun t38 => 
   condS t38
    (pur Tryz.prog (Instr.fieldAt 66 t10 3) fun t40 => 
    rd Tryz.prog (Instr.loadAt 64 t40) (fun t41 => 
    pur Tryz.prog (Builtin.max_ #[64, 64] 64 #[v_least, t41]) fun t42 => 
    J_1 t42 v_most w_15) w_15)
    (pur Tryz.prog (binS .eql 3 false true t36 (.int .i64 1)) fun t44 => 
    condS t44
     (pur Tryz.prog (Instr.fieldAt 66 t10 3) fun t46 => 
     rd Tryz.prog (Instr.loadAt 64 t46) (fun t47 => 
     pur Tryz.prog (Builtin.max_ #[64, 64] 64 #[v_most, t47]) fun t48 => 
     J_1 v_least t48 w_15) w_15)
     (J_1 v_least v_most w_15))) w_15)) w_13) w_11) w_9) w_7) w_5) w_5) w_5) w_4) w_3) w_3)
  (fun v_least_1 v_most_1 w_16 => ∀ _j : Fr, 
   pur Tryz.prog (binS .add 3 false true t19 (.int .i64 1)) fun t49 => 
   J v_least_1 v_most_1 t49 w_16))
   (pur Tryz.prog (Builtin.max_ #[64, 64] 64 #[v_least, v_most]) fun t53 => 
 Q (.tuple #[v_least, t53]) w_3)) [(.int .u64 0), (.int .u64 0), (.int .i64 0)] w_2) w_1) w) w
theorem eq22 (v_l v_at : Value) (Q : Value → World → Prop) (w : World) : semF Tryz.prog 22 [v_l, v_at] Q w = S22 v_l v_at Q w := by kernel_rfl
theorem ref22 {v_l v_at : Value} {Q : Value → World → Prop} {w : World} (h : S22 v_l v_at Q w) : callS Tryz.prog 22 #[v_l, v_at] Q w :=
  callS_of mix (fun a w => Tryz.call22 a w) (by kernel_rfl) (by rw [eq22]; exact h)
-- commons/commonsbook.copyNums
def S23 (v_l : Value) (Q : Value → World → Prop) (w : World) : Prop :=
 act Tryz.prog (Builtin.append_ #[23, 23] 23 #[(.slice none 0 0), v_l]) (fun t4 w_1 => 
 Q t4 w_1) w
theorem eq23 (v_l : Value) (Q : Value → World → Prop) (w : World) : semF Tryz.prog 23 [v_l] Q w = S23 v_l Q w := by kernel_rfl
theorem ref23 {v_l : Value} {Q : Value → World → Prop} {w : World} (h : S23 v_l Q w) : callS Tryz.prog 23 #[v_l] Q w :=
  callS_of mix (fun a w => Tryz.call23 a w) (by kernel_rfl) (by rw [eq23]; exact h)
-- (commons/hist.array).reads
def S24 (v_a v_l : Value) (Q : Value → World → Prop) (w : World) : Prop :=
 act Tryz.prog (Instr.box 75 v_a) (fun t2 w_1 => 
 pur Tryz.prog (pure (.func (.func 99) #[] #[t2])) fun t6 => 
 callS Tryz.prog 98 #[v_l, t6] (fun t7 w_2 => 
 pur Tryz.prog (Op.unary .not t7) fun t8 => 
 Q t8 w_2) w_1) w
theorem eq24 (v_a v_l : Value) (Q : Value → World → Prop) (w : World) : semF Tryz.prog 24 [v_a, v_l] Q w = S24 v_a v_l Q w := by kernel_rfl
theorem ref24 {v_a v_l : Value} {Q : Value → World → Prop} {w : World} (h : S24 v_a v_l Q w) : callS Tryz.prog 24 #[v_a, v_l] Q w :=
  callS_of mix (fun a w => Tryz.call24 a w) (by kernel_rfl) (by rw [eq24]; exact h)
-- (commons/hist.array).write
def S25 (v_a v_l : Value) (Q : Value → World → Prop) (w : World) : Prop :=
 pur Tryz.prog (Builtin.len_ #[53] 3 #[v_l]) fun t7 => 
 lp 1 (fun J => fun t8 w_1 => ∀ _j : Fr, 
  pur Tryz.prog (binS .lss 3 false false t8 t7) fun t9 => 
  condS t9
   (pur Tryz.prog (Instr.indexAt 53 v_l t8) fun t10 => 
  rd Tryz.prog (Instr.loadAt 69 t10) (fun t11 => 
  act Tryz.prog (Instr.alloc 69 true (.tuple #[])) (fun t5 w_2 => 
  act Tryz.prog (thenU (Instr.storeAt 69 t5 t11)) (fun _ w_3 => 
  pur Tryz.prog (Instr.fieldAt 69 t5 0) fun t13 => 
  rd Tryz.prog (Instr.loadAt 3 t13) (fun t14 => 
  pur Tryz.prog (Instr.fieldAt 69 t5 2) fun t15 => 
  rd Tryz.prog (Instr.loadAt 9 t15) (fun t16 => 
  act Tryz.prog (thenU (Instr.mapUpdate 75 v_a t14 t16)) (fun _ w_4 => 
  pur Tryz.prog (binS .add 3 false true t8 (.int .i64 1)) fun t17 => 
  J t17 w_4) w_3) w_3) w_3) w_2) w_1) w_1)
   (Q (.tuple #[]) w_1)) [(.int .i64 0)] w
theorem eq25 (v_a v_l : Value) (Q : Value → World → Prop) (w : World) : semF Tryz.prog 25 [v_a, v_l] Q w = S25 v_a v_l Q w := by kernel_rfl
theorem ref25 {v_a v_l : Value} {Q : Value → World → Prop} {w : World} (h : S25 v_a v_l Q w) : callS Tryz.prog 25 #[v_a, v_l] Q w :=
  callS_of mix (fun a w => Tryz.call25 a w) (by kernel_rfl) (by rw [eq25]; exact h)
-- commons/hist.greatest
def S26 (v_e v_l : Value) (Q : Value → World → Prop) (w : World) : Prop :=
 act Tryz.prog (Instr.box 66 v_e) (fun t2 w_1 => 
 act Tryz.prog (Instr.alloc 66 true (.tuple #[])) (fun t4 w_2 => 
 pur Tryz.prog (Instr.fieldAt 66 t2 3) fun t7 => 
 rd Tryz.prog (Instr.loadAt 64 t7) (fun t8 => 
 pur Tryz.prog (binS .gtr 64 false true t8 (.int .u64 0)) fun t9 => 
 condS t9
  (rd Tryz.prog (Instr.loadAt 66 t2) (fun t10 => 
  act Tryz.prog (thenU (Instr.storeAt 66 t4 t10)) (fun _ w_3 => 
  rd Tryz.prog (resL 66 t4) (fun r => Q r w_3) w_3) w_2) w_2)
  (pur Tryz.prog (Builtin.len_ #[22] 3 #[v_l]) fun t12 => 
 lp 1 (fun J => fun t13 w_4 => ∀ _j : Fr, 
  pur Tryz.prog (binS .lss 3 false false t13 t12) fun t14 => 
  condS t14
   (jn 0 (fun J_1 => 
   pur Tryz.prog (Instr.indexAt 22 v_l t13) fun t15 => 
   rd Tryz.prog (Instr.loadAt 66 t15) (fun t16 => 
   act Tryz.prog (Instr.alloc 66 true (.tuple #[])) (fun t6 w_5 => 
   act Tryz.prog (thenU (Instr.storeAt 66 t6 t16)) (fun _ w_6 => 
   pur Tryz.prog (Instr.fieldAt 66 t6 0) fun t17 => 
   rd Tryz.prog (Instr.loadAt 3 t17) (fun t18 => 
   pur Tryz.prog (binS .eql 3 false true t18 (.int .i64 1)) fun t19 => 
   gd t19 true (fun k w_7 => pur Tryz.prog (Instr.fieldAt 66 t6 1) fun t21 => k t21 w_7) (fun t21_1 w_8 => 
   gd t19 true (fun k_1 w_9 => rd Tryz.prog (Instr.loadAt 3 t21_1) (fun t22 => k_1 t22 w_9) w_9) (fun t22_1 w_10 => 
   gd t19 true (fun k_2 w_11 => pur Tryz.prog (Instr.fieldAt 66 t2 1) fun t23 => k_2 t23 w_11) (fun t23_1 w_12 => 
   gd t19 true (fun k_3 w_13 => rd Tryz.prog (Instr.loadAt 3 t23_1) (fun t24 => k_3 t24 w_13) w_13) (fun t24_1 w_14 => 
   gd t19 true (fun k_4 w_15 => pur Tryz.prog (binS .eql 3 false false t22_1 t24_1) fun t25 => k_4 t25 w_15) (fun t25_1 w_16 => 
   pur Tryz.prog (pickS t19 t25_1 (.bool false)) fun t26 => 
   gd t26 true (fun k_5 w_17 => pur Tryz.prog (Instr.fieldAt 66 t6 2) fun t28 => k_5 t28 w_17) (fun t28_1 w_18 => 
   gd t26 true (fun k_6 w_19 => rd Tryz.prog (Instr.loadAt 64 t28_1) (fun t29 => k_6 t29 w_19) w_19) (fun t29_1 w_20 => 
   gd t26 true (fun k_7 w_21 => pur Tryz.prog (Instr.fieldAt 66 t2 2) fun t30 => k_7 t30 w_21) (fun t30_1 w_22 => 
   gd t26 true (fun k_8 w_23 => rd Tryz.prog (Instr.loadAt 64 t30_1) (fun t31 => k_8 t31 w_23) w_23) (fun t31_1 w_24 => 
   gd t26 true (fun k_9 w_25 => pur Tryz.prog (binS .eql 64 false false t29_1 t31_1) fun t32 => k_9 t32 w_25) (fun t32_1 w_26 => 
   pur Tryz.prog (pickS t26 t32_1 (.bool false)) fun t33 => 
   condS t33
    (pur Tryz.prog (Instr.fieldAt 66 t2 3) fun t34 => 
    rd Tryz.prog (Instr.loadAt 64 t34) (fun t35 => 
    pur Tryz.prog (Instr.fieldAt 66 t6 3) fun t36 => 
    rd Tryz.prog (Instr.loadAt 64 t36) (fun t37 => 
    pur Tryz.prog (Builtin.max_ #[64, 64] 64 #[t35, t37]) fun t38 => 
    pur Tryz.prog (Instr.fieldAt 66 t2 3) fun t39 => 
    act Tryz.prog (thenU (Instr.storeAt 64 t39 t38)) (fun _ w_27 => 
    J_1  w_27) w_26) w_26) w_26)
    (J_1  w_26)) w_24) w_22) w_20) w_18) w_16) w_14) w_12) w_10) w_8) w_6) w_6) w_5) w_4) w_4)
  (fun  w_28 => ∀ _j : Fr, 
   pur Tryz.prog (binS .add 3 false true t13 (.int .i64 1)) fun t40 => 
   J t40 w_28))
   (rd Tryz.prog (Instr.loadAt 66 t2) (fun t41 => 
 act Tryz.prog (thenU (Instr.storeAt 66 t4 t41)) (fun _ w_29 => 
 rd Tryz.prog (resL 66 t4) (fun r_1 => Q r_1 w_29) w_29) w_4) w_4)) [(.int .i64 0)] w_2)) w_2) w_1) w
theorem eq26 (v_e v_l : Value) (Q : Value → World → Prop) (w : World) : semF Tryz.prog 26 [v_e, v_l] Q w = S26 v_e v_l Q w := by kernel_rfl
theorem ref26 {v_e v_l : Value} {Q : Value → World → Prop} {w : World} (h : S26 v_e v_l Q w) : callS Tryz.prog 26 #[v_e, v_l] Q w :=
  callS_of mix (fun a w => Tryz.call26 a w) (by kernel_rfl) (by rw [eq26]; exact h)
-- slices.DeleteFunc[[]commons/hist.Event,commons/hist.Event]
def S27 (v_s v_del : Value) (Q : Value → World → Prop) (w : World) : Prop :=
 callS Tryz.prog 101 #[v_s, v_del] (fun t10 w_1 => 
 pur Tryz.prog (binS .eql 3 false true t10 (.int .i64 (-1))) fun t12 => 
 condS t12
  (Q v_s w_1)
  (pur Tryz.prog (binS .add 3 false true t10 (.int .i64 1)) fun t15 => 
 lp 2 (fun J => fun v_i v_j w_2 => ∀ _j : Fr, 
  pur Tryz.prog (Builtin.len_ #[22] 3 #[v_s]) fun t18 => 
  pur Tryz.prog (binS .lss 3 false false v_j t18) fun t19 => 
  condS t19
   (jn 1 (fun J_1 => 
   pur Tryz.prog (Instr.indexAt 22 v_s v_j) fun t24 => 
   rd Tryz.prog (Instr.loadAt 66 t24) (fun t25 => 
   act Tryz.prog (Instr.alloc 66 true (.tuple #[])) (fun t7 w_3 => 
   act Tryz.prog (thenU (Instr.storeAt 66 t7 t25)) (fun _ w_4 => 
   rd Tryz.prog (Instr.loadAt 66 t7) (fun t27 => 
   callF Tryz.prog v_del #[t27] (fun t28 w_5 => 
   pur Tryz.prog (Op.unary .not t28) fun t29 => 
   condS t29
    (rd Tryz.prog (Instr.loadAt 66 t7) (fun t32 => 
    pur Tryz.prog (Instr.indexAt 22 v_s v_i) fun t33 => 
    act Tryz.prog (thenU (Instr.storeAt 66 t33 t32)) (fun _ w_6 => 
    pur Tryz.prog (binS .add 3 false true v_i (.int .i64 1)) fun t35 => 
    J_1 t35 w_6) w_5) w_5)
    (J_1 v_i w_5)) w_4) w_4) w_3) w_2) w_2)
  (fun v_i_1 w_7 => ∀ _j : Fr, 
   pur Tryz.prog (binS .add 3 false true v_j (.int .i64 1)) fun t21 => 
   J v_i_1 t21 w_7))
   (pur Tryz.prog (Instr.sliceAt 22 v_s (some v_i) none none) fun t38 => 
 act Tryz.prog (Builtin.clear_ #[22] 0 #[t38]) (fun _ w_8 => 
 pur Tryz.prog (Instr.sliceAt 22 v_s none (some v_i) none) fun t41 => 
 Q t41 w_8) w_2)) [t10, t15] w_1)) w
theorem eq27 (v_s v_del : Value) (Q : Value → World → Prop) (w : World) : semF Tryz.prog 27 [v_s, v_del] Q w = S27 v_s v_del Q w := by kernel_rfl
theorem ref27 {v_s v_del : Value} {Q : Value → World → Prop} {w : World} (h : S27 v_s v_del Q w) : callS Tryz.prog 27 #[v_s, v_del] Q w :=
  callS_of mix (fun a w => Tryz.call27 a w) (by kernel_rfl) (by rw [eq27]; exact h)
-- commons/hist.Play$1
def S28 (v_x t1 t2 : Value) (Q : Value → World → Prop) (w : World) : Prop :=
 act Tryz.prog (Instr.box 66 v_x) (fun t3 w_1 => 
 pur Tryz.prog (Instr.fieldAt 66 t3 1) fun t5 => 
 rd Tryz.prog (Instr.loadAt 3 t5) (fun t6 => 
 pur Tryz.prog (Instr.fieldAt 66 t1 1) fun t7 => 
 rd Tryz.prog (Instr.loadAt 3 t7) (fun t8 => 
 pur Tryz.prog (binS .eql 3 false false t6 t8) fun t9 => 
 gd t9 true (fun k w_2 => pur Tryz.prog (Instr.fieldAt 66 t3 2) fun t11 => k t11 w_2) (fun t11_1 w_3 => 
 gd t9 true (fun k_1 w_4 => rd Tryz.prog (Instr.loadAt 64 t11_1) (fun t12 => k_1 t12 w_4) w_4) (fun t12_1 w_5 => 
 gd t9 true (fun k_2 w_6 => pur Tryz.prog (Instr.fieldAt 66 t1 2) fun t13 => k_2 t13 w_6) (fun t13_1 w_7 => 
 gd t9 true (fun k_3 w_8 => rd Tryz.prog (Instr.loadAt 64 t13_1) (fun t14 => k_3 t14 w_8) w_8) (fun t14_1 w_9 => 
 gd t9 true (fun k_4 w_10 => pur Tryz.prog (binS .eql 64 false false t12_1 t14_1) fun t15 => k_4 t15 w_10) (fun t15_1 w_11 => 
 pur Tryz.prog (pickS t9 t15_1 (.bool false)) fun t16 => 
 gd t16 true (fun k_5 w_12 => pur Tryz.prog (Instr.fieldAt 66 t3 3) fun t18 => k_5 t18 w_12) (fun t18_1 w_13 => 
 gd t16 true (fun k_6 w_14 => rd Tryz.prog (Instr.loadAt 64 t18_1) (fun t19 => k_6 t19 w_14) w_14) (fun t19_1 w_15 => 
 gd t16 true (fun k_7 w_16 => rd Tryz.prog (Instr.loadAt 64 t2) (fun t20 => k_7 t20 w_16) w_16) (fun t20_1 w_17 => 
 gd t16 true (fun k_8 w_18 => pur Tryz.prog (binS .gtr 64 false false t19_1 t20_1) fun t21 => k_8 t21 w_18) (fun t21_1 w_19 => 
 pur Tryz.prog (pickS t16 t21_1 (.bool false)) fun t22 => 
 Q t22 w_19) w_17) w_15) w_13) w_11) w_9) w_7) w_5) w_3) w_1) w_1) w_1) w
theorem eq28 (v_x t1 t2 : Value) (Q : Value → World → Prop) (w : World) : semF Tryz.prog 28 [v_x, t1, t2] Q w = S28 v_x t1 t2 Q w := by kernel_rfl
theorem ref28 {v_x t1 t2 : Value} {Q : Value → World → Prop} {w : World} (h : S28 v_x t1 t2 Q w) : callS Tryz.prog 28 #[v_x, t1, t2] Q w :=
  callS_of mix (fun a w => Tryz.call28 a w) (by kernel_rfl) (by rw [eq28]; exact h)
-- commons/hist.alone
def S29 (v_l : Value) (Q : Value → World → Prop) (w : World) : Prop :=
 act Tryz.prog (Instr.makeMap 75 none) (fun t8 w_1 => 
 pur Tryz.prog (Builtin.len_ #[22] 3 #[v_l]) fun t10 => 
 lp 2 (fun J => fun v_ok t11 w_2 => ∀ _j : Fr, 
  pur Tryz.prog (binS .lss 3 false false t11 t10) fun t12 => 
  condS t12
   (pur Tryz.prog (Instr.indexAt 22 v_l t11) fun t13 => 
  rd Tryz.prog (Instr.loadAt 66 t13) (fun t14 => 
  act Tryz.prog (Instr.alloc 66 true (.tuple #[])) (fun t7 w_3 => 
  act Tryz.prog (thenU (Instr.storeAt 66 t7 t14)) (fun _ w_4 => 
  gd v_ok true (fun k w_5 => k t8 w_5) (fun t17_1 w_6 => 
  gd v_ok true (fun k_1 w_7 => pur Tryz.prog (Instr.fieldAt 66 t7 4) fun t18 => k_1 t18 w_7) (fun t18_1 w_8 => 
  gd v_ok true (fun k_2 w_9 => rd Tryz.prog (Instr.loadAt 53 t18_1) (fun t19 => k_2 t19 w_9) w_9) (fun t19_1 w_10 => 
  gd v_ok true (fun k_3 w_11 => callS Tryz.prog 24 #[t17_1, t19_1] (fun t20 w_12 => k_3 t20 w_12) w_11) (fun t20_1 w_13 => 
  pur Tryz.prog (pickS v_ok t20_1 (.bool false)) fun t21 => 
  pur Tryz.prog (Instr.fieldAt 66 t7 5) fun t23 => 
  rd Tryz.prog (Instr.loadAt 53 t23) (fun t24 => 
  callS Tryz.prog 25 #[t8, t24] (fun _ w_14 => 
  pur Tryz.prog (binS .add 3 false true t11 (.int .i64 1)) fun t26 => 
  J t21 t26 w_14) w_13) w_13) w_10) w_8) w_6) w_4) w_3) w_2) w_2)
   (Q (.tuple #[t8, v_ok]) w_2)) [(.bool true), (.int .i64 0)] w_1) w
theorem eq29 (v_l : Value) (Q : Value → World → Prop) (w : World) : semF Tryz.prog 29 [v_l] Q w = S29 v_l Q w := by kernel_rfl
theorem ref29 {v_l : Value} {Q : Value → World → Prop} {w : World} (h : S29 v_l Q w) : callS Tryz.prog 29 #[v_l] Q w :=
  callS_of mix (fun a w => Tryz.call29 a w) (by kernel_rfl) (by rw [eq29]; exact h)
-- slices.Sorted[int]
def S30 (v_seq : Value) (Q : Value → World → Prop) (w : World) : Prop :=
 callS Tryz.prog 102 #[v_seq] (fun t5 w_1 => 
 callS Tryz.prog 103 #[t5] (fun _ w_2 => 
 Q t5 w_2) w_1) w
theorem eq30 (v_seq : Value) (Q : Value → World → Prop) (w : World) : semF Tryz.prog 30 [v_seq] Q w = S30 v_seq Q w := by kernel_rfl
theorem ref30 {v_seq : Value} {Q : Value → World → Prop} {w : World} (h : S30 v_seq Q w) : callS Tryz.prog 30 #[v_seq] Q w :=
  callS_of mix (fun a w => Tryz.call30 a w) (by kernel_rfl) (by rw [eq30]; exact h)
-- maps.Keys[commons/hist.array,int,string]
def S31 (v_m : Value) (Q : Value → World → Prop) (w : World) : Prop :=
 act Tryz.prog (Instr.box 75 v_m) (fun t1 w_1 => 
 pur Tryz.prog (pure (.func (.func 104) #[] #[t1])) fun t3 => 
 Q t3 w_1) w
theorem eq31 (v_m : Value) (Q : Value → World → Prop) (w : World) : semF Tryz.prog 31 [v_m] Q w = S31 v_m Q w := by kernel_rfl
theorem ref31 {v_m : Value} {Q : Value → World → Prop} {w : World} (h : S31 v_m Q w) : callS Tryz.prog 31 #[v_m] Q w :=
  callS_of mix (fun a w => Tryz.call31 a w) (by kernel_rfl) (by rw [eq31]; exact h)
-- strings.Clone
def S32 (v_s : Value) (Q : Value → World → Prop) (w : World) : Prop :=
 callS Tryz.prog 105 #[v_s] (fun t4 w_1 => 
 Q t4 w_1) w
theorem eq32 (v_s : Value) (Q : Value → World → Prop) (w : World) : semF Tryz.prog 32 [v_s] Q w = S32 v_s Q w := by kernel_rfl
theorem ref32 {v_s : Value} {Q : Value → World → Prop} {w : World} (h : S32 v_s Q w) : callS Tryz.prog 32 #[v_s] Q w :=
  callS_of mix (fun a w => Tryz.call32 a w) (by kernel_rfl) (by rw [eq32]; exact h)
-- commons/commonsref26.reads
def S33 (v_a v_l : Value) (Q : Value → World → Prop) (w : World) : Prop :=
 lp 1 (fun J => fun v_i w_1 => ∀ _j : Fr, 
  pur Tryz.prog (Builtin.len_ #[53] 3 #[v_l]) fun t8 => 
  pur Tryz.prog (binS .lss 3 false false v_i t8) fun t9 => 
  condS t9
   (∃ S : World → Prop, S (World.drew w_1) ∧ 
  pur Tryz.prog (Instr.indexAt 53 v_l v_i) fun t15 => 
  pur Tryz.prog (Instr.fieldAt 69 t15 0) fun t16 => 
  hld Tryz.prog S (Instr.loadAt 3 t16) fun t17 => 
  callS Tryz.prog 106 #[v_a, t17] (fun t18 w_2 => S w_2 ∧ 
  pur Tryz.prog (Instr.indexAt 53 v_l v_i) fun t21 => 
  pur Tryz.prog (Instr.fieldAt 69 t21 2) fun t22 => 
  hld Tryz.prog S (Instr.loadAt 9 t22) fun t23 => 
  pur Tryz.prog (binS .neq 9 false false t18 t23) fun t24 => 
  condS t24
   (Q (.bool false) w_2)
   (pur Tryz.prog (binS .add 3 false true v_i (.int .i64 1)) fun t11 => 
  J t11 w_2)) (World.drew w_1))
   (Q (.bool true) w_1)) [(.int .i64 0)] w
theorem eq33 (v_a v_l : Value) (Q : Value → World → Prop) (w : World) : semF Tryz.prog 33 [v_a, v_l] Q w = S33 v_a v_l Q w := by kernel_rfl
theorem ref33 {v_a v_l : Value} {Q : Value → World → Prop} {w : World} (h : S33 v_a v_l Q w) : callS Tryz.prog 33 #[v_a, v_l] Q w :=
  callS_of mix (fun a w => Tryz.call33 a w) (by kernel_rfl) (by rw [eq33]; exact h)
-- commons/commonsref26.write
def S34 (v_a v_l : Value) (Q : Value → World → Prop) (w : World) : Prop :=
 lp 2 (fun J => fun v_a_1 v_i w_1 => ∀ _j : Fr, 
  pur Tryz.prog (Builtin.len_ #[53] 3 #[v_l]) fun t11 => 
  pur Tryz.prog (binS .lss 3 false false v_i t11) fun t12 => 
  condS t12
   (jn 1 (fun J_1 => 
   pur Tryz.prog (Instr.indexAt 53 v_l v_i) fun t17 => 
   pur Tryz.prog (Instr.fieldAt 69 t17 0) fun t18 => 
   pur Tryz.prog (Instr.indexAt 53 v_l v_i) fun t22 => 
   pur Tryz.prog (Instr.fieldAt 69 t22 2) fun t23 => 
   (rd Tryz.prog (Instr.loadAt 3 t18) (fun t19 => 
   (rd Tryz.prog (Instr.loadAt 9 t23) (fun t24 => 
   pur Tryz.prog (Instr.build 69 #[(0, t19), (2, t24)]) fun t25 => 
   act Tryz.prog (Instr.alloc 69 true (.tuple #[])) (fun t6 w_2 => 
   act Tryz.prog (thenU (Instr.storeAt 69 t6 t25)) (fun _ w_3 => 
   J_1 t6 w_3) w_2) (World.drew w_1)) (World.drew w_1)
   ) ∧ (act Tryz.prog (Instr.alloc 69 true (.tuple #[])) (fun t6_1 w_4 => 
   rd Tryz.prog (Instr.loadAt 9 t23) (fun t24_1 => 
   pur Tryz.prog (Instr.build 69 #[(0, t19), (2, t24_1)]) fun t25_1 => 
   act Tryz.prog (thenU (Instr.storeAt 69 t6_1 t25_1)) (fun _ w_5 => 
   J_1 t6_1 w_5) w_4) w_4) (World.drew w_1))) (World.drew w_1)
   ) ∧ (rd Tryz.prog (Instr.loadAt 9 t23) (fun t24_2 => 
   (rd Tryz.prog (Instr.loadAt 3 t18) (fun t19_1 => 
   pur Tryz.prog (Instr.build 69 #[(0, t19_1), (2, t24_2)]) fun t25_2 => 
   act Tryz.prog (Instr.alloc 69 true (.tuple #[])) (fun t6_2 w_6 => 
   act Tryz.prog (thenU (Instr.storeAt 69 t6_2 t25_2)) (fun _ w_7 => 
   J_1 t6_2 w_7) w_6) (World.drew w_1)) (World.drew w_1)
   ) ∧ (act Tryz.prog (Instr.alloc 69 true (.tuple #[])) (fun t6_3 w_8 => 
   rd Tryz.prog (Instr.loadAt 3 t18) (fun t19_2 => 
   pur Tryz.prog (Instr.build 69 #[(0, t19_2), (2, t24_2)]) fun t25_3 => 
   act Tryz.prog (thenU (Instr.storeAt 69 t6_3 t25_3)) (fun _ w_9 => 
   J_1 t6_3 w_9) w_8) w_8) (World.drew w_1))) (World.drew w_1)
   ) ∧ (act Tryz.prog (Instr.alloc 69 true (.tuple #[])) (fun t6_4 w_10 => 
   rd Tryz.prog (Instr.loadAt 3 t18) (fun t19_3 => 
   rd Tryz.prog (Instr.loadAt 9 t23) (fun t24_3 => 
   pur Tryz.prog (Instr.build 69 #[(0, t19_3), (2, t24_3)]) fun t25_4 => 
   act Tryz.prog (thenU (Instr.storeAt 69 t6_4 t25_4)) (fun _ w_11 => 
   J_1 t6_4 w_11) w_10) w_10) w_10) (World.drew w_1)))
  (fun v_x w_12 => ∀ _j : Fr, 
   lp 1 (fun J_2 => fun v_k w_13 => ∀ _j : Fr, 
   pur Tryz.prog (Builtin.len_ #[53] 3 #[v_a_1]) fun t28 => 
   pur Tryz.prog (binS .lss 3 false false v_k t28) fun t29 => 
   gd t29 true (fun k w_14 => k v_a_1 w_14) (fun t31_1 w_15 => 
   gd t29 true (fun k_1 w_16 => k_1 v_k w_16) (fun t32_1 w_17 => 
   gd t29 true (fun k_2 w_18 => pur Tryz.prog (Instr.indexAt 53 t31_1 t32_1) fun t33 => k_2 t33 w_18) (fun t33_1 w_19 => 
   gd t29 true (fun k_3 w_20 => pur Tryz.prog (Instr.fieldAt 69 t33_1 0) fun t34 => k_3 t34 w_20) (fun t34_1 w_21 => 
   gd t29 true (fun k_4 w_22 => rd Tryz.prog (Instr.loadAt 3 t34_1) (fun t35 => k_4 t35 w_22) w_22) (fun t35_1 w_23 => 
   gd t29 true (fun k_5 w_24 => pur Tryz.prog (Instr.fieldAt 69 v_x 0) fun t36 => k_5 t36 w_24) (fun t36_1 w_25 => 
   gd t29 true (fun k_6 w_26 => rd Tryz.prog (Instr.loadAt 3 t36_1) (fun t37 => k_6 t37 w_26) w_26) (fun t37_1 w_27 => 
   gd t29 true (fun k_7 w_28 => pur Tryz.prog (binS .lss 3 false false t35_1 t37_1) fun t38 => k_7 t38 w_28) (fun t38_1 w_29 => 
   pur Tryz.prog (pickS t29 t38_1 (.bool false)) fun t39 => 
   condS t39
    (pur Tryz.prog (binS .add 3 false true v_k (.int .i64 1)) fun t41 => 
   J_2 t41 w_29)
    (pur Tryz.prog (Instr.sliceAt 53 v_a_1 (some v_k) none none) fun t44 => 
  jn 1 (fun J_3 => 
   pur Tryz.prog (Builtin.len_ #[53] 3 #[v_a_1]) fun t47 => 
   pur Tryz.prog (binS .lss 3 false false v_k t47) fun t48 => 
   gd t48 true (fun k_8 w_30 => k_8 v_a_1 w_30) (fun t50_1 w_31 => 
   gd t48 true (fun k_9 w_32 => k_9 v_k w_32) (fun t51_1 w_33 => 
   gd t48 true (fun k_10 w_34 => pur Tryz.prog (Instr.indexAt 53 t50_1 t51_1) fun t52 => k_10 t52 w_34) (fun t52_1 w_35 => 
   gd t48 true (fun k_11 w_36 => pur Tryz.prog (Instr.fieldAt 69 t52_1 0) fun t53 => k_11 t53 w_36) (fun t53_1 w_37 => 
   gd t48 true (fun k_12 w_38 => rd Tryz.prog (Instr.loadAt 3 t53_1) (fun t54 => k_12 t54 w_38) w_38) (fun t54_1 w_39 => 
   gd t48 true (fun k_13 w_40 => pur Tryz.prog (Instr.fieldAt 69 v_x 0) fun t55 => k_13 t55 w_40) (fun t55_1 w_41 => 
   gd t48 true (fun k_14 w_42 => rd Tryz.prog (Instr.loadAt 3 t55_1) (fun t56 => k_14 t56 w_42) w_42) (fun t56_1 w_43 => 
   gd t48 true (fun k_15 w_44 => pur Tryz.prog (binS .eql 3 false false t54_1 t56_1) fun t57 => k_15 t57 w_44) (fun t57_1 w_45 => 
   pur Tryz.prog (pickS t48 t57_1 (.bool false)) fun t58 => 
   condS t58
    (pur Tryz.prog (binS .add 3 false true v_k (.int .i64 1)) fun t61 => 
    pur Tryz.prog (Instr.sliceAt 53 v_a_1 (some t61) none none) fun t62 => 
    J_3 t62 w_45)
    (J_3 t44 w_45)) w_43) w_41) w_39) w_37) w_35) w_33) w_31) (World.drew w_29))
  (fun v_rest w_46 => ∀ _j : Fr, 
   jn 1 (fun J_4 => 
    pur Tryz.prog (Instr.sliceAt 53 v_a_1 none (some v_k) none) fun t65 => 
    (act Tryz.prog (Builtin.append_ #[53, 53] 53 #[(.slice none 0 0), t65]) (fun t66 w_47 => 
    rd Tryz.prog (Instr.loadAt 69 v_x) (fun t67 => 
    act Tryz.prog (Instr.buildSlice 53 1 #[(0, t67)]) (fun t68 w_48 => 
    act Tryz.prog (Builtin.append_ #[53, 53] 53 #[t66, t68]) (fun t69 w_49 => 
    act Tryz.prog (Builtin.append_ #[53, 53] 53 #[t69, v_rest]) (fun t71 w_50 => 
    J_4 t71 w_50) w_49) w_48) w_47) w_47) (World.drew w_46)
    ) ∧ (rd Tryz.prog (Instr.loadAt 69 v_x) (fun t67_1 => 
    (act Tryz.prog (Builtin.append_ #[53, 53] 53 #[(.slice none 0 0), t65]) (fun t66_1 w_51 => 
    act Tryz.prog (Instr.buildSlice 53 1 #[(0, t67_1)]) (fun t68_1 w_52 => 
    act Tryz.prog (Builtin.append_ #[53, 53] 53 #[t66_1, t68_1]) (fun t69_1 w_53 => 
    act Tryz.prog (Builtin.append_ #[53, 53] 53 #[t69_1, v_rest]) (fun t71_1 w_54 => 
    J_4 t71_1 w_54) w_53) w_52) w_51) (World.drew w_46)
    ) ∧ (act Tryz.prog (Instr.buildSlice 53 1 #[(0, t67_1)]) (fun t68_2 w_55 => 
    act Tryz.prog (Builtin.append_ #[53, 53] 53 #[(.slice none 0 0), t65]) (fun t66_2 w_56 => 
    act Tryz.prog (Builtin.append_ #[53, 53] 53 #[t66_2, t68_2]) (fun t69_2 w_57 => 
    act Tryz.prog (Builtin.append_ #[53, 53] 53 #[t69_2, v_rest]) (fun t71_2 w_58 => 
    J_4 t71_2 w_58) w_57) w_56) w_55) (World.drew w_46))) (World.drew w_46)))
   (fun v_a_2 w_59 => ∀ _j : Fr, 
    pur Tryz.prog (binS .add 3 false true v_i (.int .i64 1)) fun t14 => 
  J v_a_2 t14 w_59)))) w_27) w_25) w_23) w_21) w_19) w_17) w_15) (World.drew w_13)) [(.int .i64 0)] w_12))
   (Q v_a_1 w_1)) [v_a, (.int .i64 0)] w
theorem eq34 (v_a v_l : Value) (Q : Value → World → Prop) (w : World) : semF Tryz.prog 34 [v_a, v_l] Q w = S34 v_a v_l Q w := by kernel_rfl
theorem ref34 {v_a v_l : Value} {Q : Value → World → Prop} {w : World} (h : S34 v_a v_l Q w) : callS Tryz.prog 34 #[v_a, v_l] Q w :=
  callS_of mix (fun a w => Tryz.call34 a w) (by kernel_rfl) (by rw [eq34]; exact h)
-- commons/commonsref26.counts
def S35 (v_l v_k : Value) (Q : Value → World → Prop) (w : World) : Prop :=
 pur Tryz.prog (Instr.indexAt 44 v_l v_k) fun t9 => 
 pur Tryz.prog (Instr.fieldAt 71 t9 3) fun t10 => 
 rd Tryz.prog (Instr.loadAt 64 t10) (fun t11 => 
 lp 2 (fun J => fun v_n v_i w_1 => ∀ _j : Fr, 
  pur Tryz.prog (binS .lss 3 false false v_i v_k) fun t14 => 
  gd t14 true (fun k w_2 => k v_l w_2) (fun t16_1 w_3 => 
  gd t14 true (fun k_1 w_4 => k_1 v_k w_4) (fun t17_1 w_5 => 
  gd t14 true (fun k_2 w_6 => pur Tryz.prog (Instr.indexAt 44 t16_1 t17_1) fun t18 => k_2 t18 w_6) (fun t18_1 w_7 => 
  gd t14 true (fun k_3 w_8 => pur Tryz.prog (Instr.fieldAt 71 t18_1 3) fun t19 => k_3 t19 w_8) (fun t19_1 w_9 => 
  gd t14 true (fun k_4 w_10 => rd Tryz.prog (Instr.loadAt 64 t19_1) (fun t20 => k_4 t20 w_10) w_10) (fun t20_1 w_11 => 
  gd t14 true (fun k_5 w_12 => pur Tryz.prog (binS .eql 64 false true t20_1 (.int .u64 0)) fun t21 => k_5 t21 w_12) (fun t21_1 w_13 => 
  pur Tryz.prog (pickS t14 t21_1 (.bool false)) fun t22 => 
  condS t22
   (jn 1 (fun J_1 => 
   pur Tryz.prog (Instr.indexAt 44 v_l v_i) fun t27 => 
   pur Tryz.prog (Instr.fieldAt 71 t27 1) fun t28 => 
   rd Tryz.prog (Instr.loadAt 3 t28) (fun t29 => 
   pur Tryz.prog (Instr.indexAt 44 v_l v_k) fun t32 => 
   pur Tryz.prog (Instr.fieldAt 71 t32 1) fun t33 => 
   rd Tryz.prog (Instr.loadAt 3 t33) (fun t34 => 
   pur Tryz.prog (binS .eql 3 false false t29 t34) fun t35 => 
   gd t35 true (fun k_6 w_14 => k_6 v_l w_14) (fun t37_1 w_15 => 
   gd t35 true (fun k_7 w_16 => k_7 v_i w_16) (fun t38_1 w_17 => 
   gd t35 true (fun k_8 w_18 => pur Tryz.prog (Instr.indexAt 44 t37_1 t38_1) fun t39 => k_8 t39 w_18) (fun t39_1 w_19 => 
   gd t35 true (fun k_9 w_20 => pur Tryz.prog (Instr.fieldAt 71 t39_1 2) fun t40 => k_9 t40 w_20) (fun t40_1 w_21 => 
   gd t35 true (fun k_10 w_22 => rd Tryz.prog (Instr.loadAt 64 t40_1) (fun t41 => k_10 t41 w_22) w_22) (fun t41_1 w_23 => 
   gd t35 true (fun k_11 w_24 => k_11 v_l w_24) (fun t42_1 w_25 => 
   gd t35 true (fun k_12 w_26 => k_12 v_k w_26) (fun t43_1 w_27 => 
   gd t35 true (fun k_13 w_28 => pur Tryz.prog (Instr.indexAt 44 t42_1 t43_1) fun t44 => k_13 t44 w_28) (fun t44_1 w_29 => 
   gd t35 true (fun k_14 w_30 => pur Tryz.prog (Instr.fieldAt 71 t44_1 2) fun t45 => k_14 t45 w_30) (fun t45_1 w_31 => 
   gd t35 true (fun k_15 w_32 => rd Tryz.prog (Instr.loadAt 64 t45_1) (fun t46 => k_15 t46 w_32) w_32) (fun t46_1 w_33 => 
   gd t35 true (fun k_16 w_34 => pur Tryz.prog (binS .eql 64 false false t41_1 t46_1) fun t47 => k_16 t47 w_34) (fun t47_1 w_35 => 
   pur Tryz.prog (pickS t35 t47_1 (.bool false)) fun t48 => 
   condS t48
    (pur Tryz.prog (Instr.indexAt 44 v_l v_i) fun t52 => 
    pur Tryz.prog (Instr.fieldAt 71 t52 3) fun t53 => 
    rd Tryz.prog (Instr.loadAt 64 t53) (fun t54 => 
    pur Tryz.prog (Builtin.max_ #[64, 64] 64 #[v_n, t54]) fun t55 => 
    J_1 t55 w_35) w_35)
    (J_1 v_n w_35)) w_33) w_31) w_29) w_27) w_25) w_23) w_21) w_19) w_17) w_15) (World.drew w_13)) (World.drew w_13)) (World.drew w_13))
  (fun v_n_1 w_36 => ∀ _j : Fr, 
   pur Tryz.prog (binS .add 3 false true v_i (.int .i64 1)) fun t24 => 
   J v_n_1 t24 w_36))
   (Q v_n w_13)) w_11) w_9) w_7) w_5) w_3) w_1) [t11, (.int .i64 0)] w) w
theorem eq35 (v_l v_k : Value) (Q : Value → World → Prop) (w : World) : semF Tryz.prog 35 [v_l, v_k] Q w = S35 v_l v_k Q w := by kernel_rfl
theorem ref35 {v_l v_k : Value} {Q : Value → World → Prop} {w : World} (h : S35 v_l v_k Q w) : callS Tryz.prog 35 #[v_l, v_k] Q w :=
  callS_of mix (fun a w => Tryz.call35 a w) (by kernel_rfl) (by rw [eq35]; exact h)
-- commons/commonsbook.copyImages
def S36 (v_l : Value) (Q : Value → World → Prop) (w : World) : Prop :=
 act Tryz.prog (Builtin.append_ #[53, 53] 53 #[(.slice none 0 0), v_l]) (fun t4 w_1 => 
 Q t4 w_1) w
theorem eq36 (v_l : Value) (Q : Value → World → Prop) (w : World) : semF Tryz.prog 36 [v_l] Q w = S36 v_l Q w := by kernel_rfl
theorem ref36 {v_l : Value} {Q : Value → World → Prop} {w : World} (h : S36 v_l Q w) : callS Tryz.prog 36 #[v_l] Q w :=
  callS_of mix (fun a w => Tryz.call36 a w) (by kernel_rfl) (by rw [eq36]; exact h)
-- (*commons/commonsbook.Book).stillTexts
def S37 (v_b : Value) (Q : Value → World → Prop) (w : World) : Prop :=
 lp 1 (fun J => fun v_i w_1 => ∀ _j : Fr, 
  pur Tryz.prog (nilV v_b) fun t6 => 
  pur Tryz.prog (Instr.fieldAt 43 t6 0) fun t7 => 
  rd Tryz.prog (Instr.loadAt 27 t7) (fun t8 => 
  pur Tryz.prog (Builtin.len_ #[27] 3 #[t8]) fun t9 => 
  pur Tryz.prog (binS .lss 3 false false v_i t9) fun t10 => 
  condS t10
   (pur Tryz.prog (nilV v_b) fun t14 => 
  pur Tryz.prog (Instr.fieldAt 43 t14 0) fun t15 => 
  rd Tryz.prog (Instr.loadAt 27 t15) (fun t16 => 
  pur Tryz.prog (Instr.indexAt 27 t16 v_i) fun t18 => 
  rd Tryz.prog (Instr.loadAt 135 t18) (fun t19 => 
  pur Tryz.prog (nilV v_b) fun t21 => 
  pur Tryz.prog (Instr.fieldAt 43 t21 1) fun t22 => 
  rd Tryz.prog (Instr.loadAt 27 t22) (fun t23 => 
  pur Tryz.prog (Instr.indexAt 27 t23 v_i) fun t25 => 
  rd Tryz.prog (Instr.loadAt 135 t25) (fun t26 => 
  callS Tryz.prog 107 #[t19, t26] (fun t27 w_2 => 
  pur Tryz.prog (Op.unary .not t27) fun t28 => 
  condS t28
   (Q (.bool false) w_2)
   (pur Tryz.prog (binS .add 3 false true v_i (.int .i64 1)) fun t12 => 
  J t12 w_2)) (World.drew w_1)) (World.drew w_1)) (World.drew w_1)) (World.drew w_1)) (World.drew w_1))
   (Q (.bool true) w_1)) w_1) [(.int .i64 0)] w
theorem eq37 (v_b : Value) (Q : Value → World → Prop) (w : World) : semF Tryz.prog 37 [v_b] Q w = S37 v_b Q w := by kernel_rfl
theorem ref37 {v_b : Value} {Q : Value → World → Prop} {w : World} (h : S37 v_b Q w) : callS Tryz.prog 37 #[v_b] Q w :=
  callS_of mix (fun a w => Tryz.call37 a w) (by kernel_rfl) (by rw [eq37]; exact h)
-- (*commons/commonsbook.Book).stillInts
def S38 (v_b : Value) (Q : Value → World → Prop) (w : World) : Prop :=
 lp 1 (fun J => fun v_i w_1 => ∀ _j : Fr, 
  pur Tryz.prog (nilV v_b) fun t6 => 
  pur Tryz.prog (Instr.fieldAt 43 t6 2) fun t7 => 
  rd Tryz.prog (Instr.loadAt 28 t7) (fun t8 => 
  pur Tryz.prog (Builtin.len_ #[28] 3 #[t8]) fun t9 => 
  pur Tryz.prog (binS .lss 3 false false v_i t9) fun t10 => 
  condS t10
   (pur Tryz.prog (nilV v_b) fun t14 => 
  pur Tryz.prog (Instr.fieldAt 43 t14 2) fun t15 => 
  rd Tryz.prog (Instr.loadAt 28 t15) (fun t16 => 
  pur Tryz.prog (Instr.indexAt 28 t16 v_i) fun t18 => 
  rd Tryz.prog (Instr.loadAt 86 t18) (fun t19 => 
  pur Tryz.prog (nilV v_b) fun t21 => 
  pur Tryz.prog (Instr.fieldAt 43 t21 3) fun t22 => 
  rd Tryz.prog (Instr.loadAt 28 t22) (fun t23 => 
  pur Tryz.prog (Instr.indexAt 28 t23 v_i) fun t25 => 
  rd Tryz.prog (Instr.loadAt 86 t25) (fun t26 => 
  callS Tryz.prog 108 #[t19, t26] (fun t27 w_2 => 
  pur Tryz.prog (Op.unary .not t27) fun t28 => 
  condS t28
   (Q (.bool false) w_2)
   (pur Tryz.prog (binS .add 3 false true v_i (.int .i64 1)) fun t12 => 
  J t12 w_2)) (World.drew w_1)) (World.drew w_1)) (World.drew w_1)) (World.drew w_1)) (World.drew w_1))
   (Q (.bool true) w_1)) w_1) [(.int .i64 0)] w
theorem eq38 (v_b : Value) (Q : Value → World → Prop) (w : World) : semF Tryz.prog 38 [v_b] Q w = S38 v_b Q w := by kernel_rfl
theorem ref38 {v_b : Value} {Q : Value → World → Prop} {w : World} (h : S38 v_b Q w) : callS Tryz.prog 38 #[v_b] Q w :=
  callS_of mix (fun a w => Tryz.call38 a w) (by kernel_rfl) (by rw [eq38]; exact h)
-- (*commons/commonsbook.Book).stillNums
def S39 (v_b : Value) (Q : Value → World → Prop) (w : World) : Prop :=
 lp 1 (fun J => fun v_i w_1 => ∀ _j : Fr, 
  pur Tryz.prog (nilV v_b) fun t6 => 
  pur Tryz.prog (Instr.fieldAt 43 t6 4) fun t7 => 
  rd Tryz.prog (Instr.loadAt 29 t7) (fun t8 => 
  pur Tryz.prog (Builtin.len_ #[29] 3 #[t8]) fun t9 => 
  pur Tryz.prog (binS .lss 3 false false v_i t9) fun t10 => 
  condS t10
   (pur Tryz.prog (nilV v_b) fun t14 => 
  pur Tryz.prog (Instr.fieldAt 43 t14 4) fun t15 => 
  rd Tryz.prog (Instr.loadAt 29 t15) (fun t16 => 
  pur Tryz.prog (Instr.indexAt 29 t16 v_i) fun t18 => 
  rd Tryz.prog (Instr.loadAt 23 t18) (fun t19 => 
  pur Tryz.prog (nilV v_b) fun t21 => 
  pur Tryz.prog (Instr.fieldAt 43 t21 5) fun t22 => 
  rd Tryz.prog (Instr.loadAt 29 t22) (fun t23 => 
  pur Tryz.prog (Instr.indexAt 29 t23 v_i) fun t25 => 
  rd Tryz.prog (Instr.loadAt 23 t25) (fun t26 => 
  callS Tryz.prog 11 #[t19, t26] (fun t27 w_2 => 
  pur Tryz.prog (Op.unary .not t27) fun t28 => 
  condS t28
   (Q (.bool false) w_2)
   (pur Tryz.prog (binS .add 3 false true v_i (.int .i64 1)) fun t12 => 
  J t12 w_2)) (World.drew w_1)) (World.drew w_1)) (World.drew w_1)) (World.drew w_1)) (World.drew w_1))
   (Q (.bool true) w_1)) w_1) [(.int .i64 0)] w
theorem eq39 (v_b : Value) (Q : Value → World → Prop) (w : World) : semF Tryz.prog 39 [v_b] Q w = S39 v_b Q w := by kernel_rfl
theorem ref39 {v_b : Value} {Q : Value → World → Prop} {w : World} (h : S39 v_b Q w) : callS Tryz.prog 39 #[v_b] Q w :=
  callS_of mix (fun a w => Tryz.call39 a w) (by kernel_rfl) (by rw [eq39]; exact h)
-- (*commons/commonsbook.Book).stillSpans
def S40 (v_b : Value) (Q : Value → World → Prop) (w : World) : Prop :=
 lp 1 (fun J => fun v_i w_1 => ∀ _j : Fr, 
  pur Tryz.prog (nilV v_b) fun t6 => 
  pur Tryz.prog (Instr.fieldAt 43 t6 6) fun t7 => 
  rd Tryz.prog (Instr.loadAt 30 t7) (fun t8 => 
  pur Tryz.prog (Builtin.len_ #[30] 3 #[t8]) fun t9 => 
  pur Tryz.prog (binS .lss 3 false false v_i t9) fun t10 => 
  condS t10
   (pur Tryz.prog (nilV v_b) fun t14 => 
  pur Tryz.prog (Instr.fieldAt 43 t14 6) fun t15 => 
  rd Tryz.prog (Instr.loadAt 30 t15) (fun t16 => 
  pur Tryz.prog (Instr.indexAt 30 t16 v_i) fun t18 => 
  rd Tryz.prog (Instr.loadAt 138 t18) (fun t19 => 
  pur Tryz.prog (nilV v_b) fun t21 => 
  pur Tryz.prog (Instr.fieldAt 43 t21 7) fun t22 => 
  rd Tryz.prog (Instr.loadAt 30 t22) (fun t23 => 
  pur Tryz.prog (Instr.indexAt 30 t23 v_i) fun t25 => 
  rd Tryz.prog (Instr.loadAt 138 t25) (fun t26 => 
  callS Tryz.prog 109 #[t19, t26] (fun t27 w_2 => 
  pur Tryz.prog (Op.unary .not t27) fun t28 => 
  condS t28
   (Q (.bool false) w_2)
   (pur Tryz.prog (binS .add 3 false true v_i (.int .i64 1)) fun t12 => 
  J t12 w_2)) (World.drew w_1)) (World.drew w_1)) (World.drew w_1)) (World.drew w_1)) (World.drew w_1))
   (Q (.bool true) w_1)) w_1) [(.int .i64 0)] w
theorem eq40 (v_b : Value) (Q : Value → World → Prop) (w : World) : semF Tryz.prog 40 [v_b] Q w = S40 v_b Q w := by kernel_rfl
theorem ref40 {v_b : Value} {Q : Value → World → Prop} {w : World} (h : S40 v_b Q w) : callS Tryz.prog 40 #[v_b] Q w :=
  callS_of mix (fun a w => Tryz.call40 a w) (by kernel_rfl) (by rw [eq40]; exact h)
-- (*commons/commonsbook.Book).stillLocks
def S41 (v_b : Value) (Q : Value → World → Prop) (w : World) : Prop :=
 lp 1 (fun J => fun v_i w_1 => ∀ _j : Fr, 
  pur Tryz.prog (nilV v_b) fun t6 => 
  pur Tryz.prog (Instr.fieldAt 43 t6 8) fun t7 => 
  rd Tryz.prog (Instr.loadAt 31 t7) (fun t8 => 
  pur Tryz.prog (Builtin.len_ #[31] 3 #[t8]) fun t9 => 
  pur Tryz.prog (binS .lss 3 false false v_i t9) fun t10 => 
  condS t10
   (pur Tryz.prog (nilV v_b) fun t14 => 
  pur Tryz.prog (Instr.fieldAt 43 t14 8) fun t15 => 
  rd Tryz.prog (Instr.loadAt 31 t15) (fun t16 => 
  pur Tryz.prog (Instr.indexAt 31 t16 v_i) fun t18 => 
  rd Tryz.prog (Instr.loadAt 140 t18) (fun t19 => 
  pur Tryz.prog (nilV v_b) fun t21 => 
  pur Tryz.prog (Instr.fieldAt 43 t21 9) fun t22 => 
  rd Tryz.prog (Instr.loadAt 31 t22) (fun t23 => 
  pur Tryz.prog (Instr.indexAt 31 t23 v_i) fun t25 => 
  rd Tryz.prog (Instr.loadAt 140 t25) (fun t26 => 
  callS Tryz.prog 110 #[t19, t26] (fun t27 w_2 => 
  pur Tryz.prog (Op.unary .not t27) fun t28 => 
  condS t28
   (Q (.bool false) w_2)
   (pur Tryz.prog (binS .add 3 false true v_i (.int .i64 1)) fun t12 => 
  J t12 w_2)) (World.drew w_1)) (World.drew w_1)) (World.drew w_1)) (World.drew w_1)) (World.drew w_1))
   (Q (.bool true) w_1)) w_1) [(.int .i64 0)] w
theorem eq41 (v_b : Value) (Q : Value → World → Prop) (w : World) : semF Tryz.prog 41 [v_b] Q w = S41 v_b Q w := by kernel_rfl
theorem ref41 {v_b : Value} {Q : Value → World → Prop} {w : World} (h : S41 v_b Q w) : callS Tryz.prog 41 #[v_b] Q w :=
  callS_of mix (fun a w => Tryz.call41 a w) (by kernel_rfl) (by rw [eq41]; exact h)
-- (*commons/commonsbook.Book).stillImages
def S42 (v_b : Value) (Q : Value → World → Prop) (w : World) : Prop :=
 lp 1 (fun J => fun v_i w_1 => ∀ _j : Fr, 
  pur Tryz.prog (nilV v_b) fun t6 => 
  pur Tryz.prog (Instr.fieldAt 43 t6 10) fun t7 => 
  rd Tryz.prog (Instr.loadAt 32 t7) (fun t8 => 
  pur Tryz.prog (Builtin.len_ #[32] 3 #[t8]) fun t9 => 
  pur Tryz.prog (binS .lss 3 false false v_i t9) fun t10 => 
  condS t10
   (pur Tryz.prog (nilV v_b) fun t14 => 
  pur Tryz.prog (Instr.fieldAt 43 t14 10) fun t15 => 
  rd Tryz.prog (Instr.loadAt 32 t15) (fun t16 => 
  pur Tryz.prog (Instr.indexAt 32 t16 v_i) fun t18 => 
  rd Tryz.prog (Instr.loadAt 53 t18) (fun t19 => 
  pur Tryz.prog (nilV v_b) fun t21 => 
  pur Tryz.prog (Instr.fieldAt 43 t21 11) fun t22 => 
  rd Tryz.prog (Instr.loadAt 32 t22) (fun t23 => 
  pur Tryz.prog (Instr.indexAt 32 t23 v_i) fun t25 => 
  rd Tryz.prog (Instr.loadAt 53 t25) (fun t26 => 
  callS Tryz.prog 15 #[t19, t26] (fun t27 w_2 => 
  pur Tryz.prog (Op.unary .not t27) fun t28 => 
  condS t28
   (Q (.bool false) w_2)
   (pur Tryz.prog (binS .add 3 false true v_i (.int .i64 1)) fun t12 => 
  J t12 w_2)) (World.drew w_1)) (World.drew w_1)) (World.drew w_1)) (World.drew w_1)) (World.drew w_1))
   (Q (.bool true) w_1)) w_1) [(.int .i64 0)] w
theorem eq42 (v_b : Value) (Q : Value → World → Prop) (w : World) : semF Tryz.prog 42 [v_b] Q w = S42 v_b Q w := by kernel_rfl
theorem ref42 {v_b : Value} {Q : Value → World → Prop} {w : World} (h : S42 v_b Q w) : callS Tryz.prog 42 #[v_b] Q w :=
  callS_of mix (fun a w => Tryz.call42 a w) (by kernel_rfl) (by rw [eq42]; exact h)
-- (*commons/commonsbook.Book).stillRecords
def S43 (v_b : Value) (Q : Value → World → Prop) (w : World) : Prop :=
 lp 1 (fun J => fun v_i w_1 => ∀ _j : Fr, 
  pur Tryz.prog (nilV v_b) fun t6 => 
  pur Tryz.prog (Instr.fieldAt 43 t6 12) fun t7 => 
  rd Tryz.prog (Instr.loadAt 33 t7) (fun t8 => 
  pur Tryz.prog (Builtin.len_ #[33] 3 #[t8]) fun t9 => 
  pur Tryz.prog (binS .lss 3 false false v_i t9) fun t10 => 
  condS t10
   (pur Tryz.prog (nilV v_b) fun t14 => 
  pur Tryz.prog (Instr.fieldAt 43 t14 12) fun t15 => 
  rd Tryz.prog (Instr.loadAt 33 t15) (fun t16 => 
  pur Tryz.prog (Instr.indexAt 33 t16 v_i) fun t18 => 
  rd Tryz.prog (Instr.loadAt 142 t18) (fun t19 => 
  pur Tryz.prog (nilV v_b) fun t21 => 
  pur Tryz.prog (Instr.fieldAt 43 t21 13) fun t22 => 
  rd Tryz.prog (Instr.loadAt 33 t22) (fun t23 => 
  pur Tryz.prog (Instr.indexAt 33 t23 v_i) fun t25 => 
  rd Tryz.prog (Instr.loadAt 142 t25) (fun t26 => 
  callS Tryz.prog 111 #[t19, t26] (fun t27 w_2 => 
  pur Tryz.prog (Op.unary .not t27) fun t28 => 
  condS t28
   (Q (.bool false) w_2)
   (pur Tryz.prog (binS .add 3 false true v_i (.int .i64 1)) fun t12 => 
  J t12 w_2)) (World.drew w_1)) (World.drew w_1)) (World.drew w_1)) (World.drew w_1)) (World.drew w_1))
   (Q (.bool true) w_1)) w_1) [(.int .i64 0)] w
theorem eq43 (v_b : Value) (Q : Value → World → Prop) (w : World) : semF Tryz.prog 43 [v_b] Q w = S43 v_b Q w := by kernel_rfl
theorem ref43 {v_b : Value} {Q : Value → World → Prop} {w : World} (h : S43 v_b Q w) : callS Tryz.prog 43 #[v_b] Q w :=
  callS_of mix (fun a w => Tryz.call43 a w) (by kernel_rfl) (by rw [eq43]; exact h)
-- (*commons/commonsbook.Book).stillPackets
def S44 (v_b : Value) (Q : Value → World → Prop) (w : World) : Prop :=
 lp 1 (fun J => fun v_i w_1 => ∀ _j : Fr, 
  pur Tryz.prog (nilV v_b) fun t6 => 
  pur Tryz.prog (Instr.fieldAt 43 t6 14) fun t7 => 
  rd Tryz.prog (Instr.loadAt 34 t7) (fun t8 => 
  pur Tryz.prog (Builtin.len_ #[34] 3 #[t8]) fun t9 => 
  pur Tryz.prog (binS .lss 3 false false v_i t9) fun t10 => 
  condS t10
   (pur Tryz.prog (nilV v_b) fun t14 => 
  pur Tryz.prog (Instr.fieldAt 43 t14 14) fun t15 => 
  rd Tryz.prog (Instr.loadAt 34 t15) (fun t16 => 
  pur Tryz.prog (Instr.indexAt 34 t16 v_i) fun t18 => 
  rd Tryz.prog (Instr.loadAt 144 t18) (fun t19 => 
  pur Tryz.prog (nilV v_b) fun t21 => 
  pur Tryz.prog (Instr.fieldAt 43 t21 15) fun t22 => 
  rd Tryz.prog (Instr.loadAt 34 t22) (fun t23 => 
  pur Tryz.prog (Instr.indexAt 34 t23 v_i) fun t25 => 
  rd Tryz.prog (Instr.loadAt 144 t25) (fun t26 => 
  callS Tryz.prog 112 #[t19, t26] (fun t27 w_2 => 
  pur Tryz.prog (Op.unary .not t27) fun t28 => 
  condS t28
   (Q (.bool false) w_2)
   (pur Tryz.prog (binS .add 3 false true v_i (.int .i64 1)) fun t12 => 
  J t12 w_2)) (World.drew w_1)) (World.drew w_1)) (World.drew w_1)) (World.drew w_1)) (World.drew w_1))
   (Q (.bool true) w_1)) w_1) [(.int .i64 0)] w
theorem eq44 (v_b : Value) (Q : Value → World → Prop) (w : World) : semF Tryz.prog 44 [v_b] Q w = S44 v_b Q w := by kernel_rfl
theorem ref44 {v_b : Value} {Q : Value → World → Prop} {w : World} (h : S44 v_b Q w) : callS Tryz.prog 44 #[v_b] Q w :=
  callS_of mix (fun a w => Tryz.call44 a w) (by kernel_rfl) (by rw [eq44]; exact h)
-- (*commons/commonsbook.Book).stillFrames
def S45 (v_b : Value) (Q : Value → World → Prop) (w : World) : Prop :=
 lp 1 (fun J => fun v_i w_1 => ∀ _j : Fr, 
  pur Tryz.prog (nilV v_b) fun t6 => 
  pur Tryz.prog (Instr.fieldAt 43 t6 16) fun t7 => 
  rd Tryz.prog (Instr.loadAt 35 t7) (fun t8 => 
  pur Tryz.prog (Builtin.len_ #[35] 3 #[t8]) fun t9 => 
  pur Tryz.prog (binS .lss 3 false false v_i t9) fun t10 => 
  condS t10
   (pur Tryz.prog (nilV v_b) fun t14 => 
  pur Tryz.prog (Instr.fieldAt 43 t14 16) fun t15 => 
  rd Tryz.prog (Instr.loadAt 35 t15) (fun t16 => 
  pur Tryz.prog (Instr.indexAt 35 t16 v_i) fun t18 => 
  rd Tryz.prog (Instr.loadAt 146 t18) (fun t19 => 
  pur Tryz.prog (nilV v_b) fun t21 => 
  pur Tryz.prog (Instr.fieldAt 43 t21 17) fun t22 => 
  rd Tryz.prog (Instr.loadAt 35 t22) (fun t23 => 
  pur Tryz.prog (Instr.indexAt 35 t23 v_i) fun t25 => 
  rd Tryz.prog (Instr.loadAt 146 t25) (fun t26 => 
  callS Tryz.prog 113 #[t19, t26] (fun t27 w_2 => 
  pur Tryz.prog (Op.unary .not t27) fun t28 => 
  condS t28
   (Q (.bool false) w_2)
   (pur Tryz.prog (binS .add 3 false true v_i (.int .i64 1)) fun t12 => 
  J t12 w_2)) (World.drew w_1)) (World.drew w_1)) (World.drew w_1)) (World.drew w_1)) (World.drew w_1))
   (Q (.bool true) w_1)) w_1) [(.int .i64 0)] w
theorem eq45 (v_b : Value) (Q : Value → World → Prop) (w : World) : semF Tryz.prog 45 [v_b] Q w = S45 v_b Q w := by kernel_rfl
theorem ref45 {v_b : Value} {Q : Value → World → Prop} {w : World} (h : S45 v_b Q w) : callS Tryz.prog 45 #[v_b] Q w :=
  callS_of mix (fun a w => Tryz.call45 a w) (by kernel_rfl) (by rw [eq45]; exact h)
-- (*commons/commonsbook.Book).stillWaits
def S46 (v_b : Value) (Q : Value → World → Prop) (w : World) : Prop :=
 lp 1 (fun J => fun v_i w_1 => ∀ _j : Fr, 
  pur Tryz.prog (nilV v_b) fun t6 => 
  pur Tryz.prog (Instr.fieldAt 43 t6 18) fun t7 => 
  rd Tryz.prog (Instr.loadAt 36 t7) (fun t8 => 
  pur Tryz.prog (Builtin.len_ #[36] 3 #[t8]) fun t9 => 
  pur Tryz.prog (binS .lss 3 false false v_i t9) fun t10 => 
  condS t10
   (pur Tryz.prog (nilV v_b) fun t14 => 
  pur Tryz.prog (Instr.fieldAt 43 t14 18) fun t15 => 
  rd Tryz.prog (Instr.loadAt 36 t15) (fun t16 => 
  pur Tryz.prog (Instr.indexAt 36 t16 v_i) fun t18 => 
  rd Tryz.prog (Instr.loadAt 148 t18) (fun t19 => 
  pur Tryz.prog (nilV v_b) fun t21 => 
  pur Tryz.prog (Instr.fieldAt 43 t21 19) fun t22 => 
  rd Tryz.prog (Instr.loadAt 36 t22) (fun t23 => 
  pur Tryz.prog (Instr.indexAt 36 t23 v_i) fun t25 => 
  rd Tryz.prog (Instr.loadAt 148 t25) (fun t26 => 
  callS Tryz.prog 114 #[t19, t26] (fun t27 w_2 => 
  pur Tryz.prog (Op.unary .not t27) fun t28 => 
  condS t28
   (Q (.bool false) w_2)
   (pur Tryz.prog (binS .add 3 false true v_i (.int .i64 1)) fun t12 => 
  J t12 w_2)) (World.drew w_1)) (World.drew w_1)) (World.drew w_1)) (World.drew w_1)) (World.drew w_1))
   (Q (.bool true) w_1)) w_1) [(.int .i64 0)] w
theorem eq46 (v_b : Value) (Q : Value → World → Prop) (w : World) : semF Tryz.prog 46 [v_b] Q w = S46 v_b Q w := by kernel_rfl
theorem ref46 {v_b : Value} {Q : Value → World → Prop} {w : World} (h : S46 v_b Q w) : callS Tryz.prog 46 #[v_b] Q w :=
  callS_of mix (fun a w => Tryz.call46 a w) (by kernel_rfl) (by rw [eq46]; exact h)
-- (*commons/commonsbook.Book).stillRevokes
def S47 (v_b : Value) (Q : Value → World → Prop) (w : World) : Prop :=
 lp 1 (fun J => fun v_i w_1 => ∀ _j : Fr, 
  pur Tryz.prog (nilV v_b) fun t6 => 
  pur Tryz.prog (Instr.fieldAt 43 t6 20) fun t7 => 
  rd Tryz.prog (Instr.loadAt 37 t7) (fun t8 => 
  pur Tryz.prog (Builtin.len_ #[37] 3 #[t8]) fun t9 => 
  pur Tryz.prog (binS .lss 3 false false v_i t9) fun t10 => 
  condS t10
   (pur Tryz.prog (nilV v_b) fun t14 => 
  pur Tryz.prog (Instr.fieldAt 43 t14 20) fun t15 => 
  rd Tryz.prog (Instr.loadAt 37 t15) (fun t16 => 
  pur Tryz.prog (Instr.indexAt 37 t16 v_i) fun t18 => 
  rd Tryz.prog (Instr.loadAt 150 t18) (fun t19 => 
  pur Tryz.prog (nilV v_b) fun t21 => 
  pur Tryz.prog (Instr.fieldAt 43 t21 21) fun t22 => 
  rd Tryz.prog (Instr.loadAt 37 t22) (fun t23 => 
  pur Tryz.prog (Instr.indexAt 37 t23 v_i) fun t25 => 
  rd Tryz.prog (Instr.loadAt 150 t25) (fun t26 => 
  callS Tryz.prog 115 #[t19, t26] (fun t27 w_2 => 
  pur Tryz.prog (Op.unary .not t27) fun t28 => 
  condS t28
   (Q (.bool false) w_2)
   (pur Tryz.prog (binS .add 3 false true v_i (.int .i64 1)) fun t12 => 
  J t12 w_2)) (World.drew w_1)) (World.drew w_1)) (World.drew w_1)) (World.drew w_1)) (World.drew w_1))
   (Q (.bool true) w_1)) w_1) [(.int .i64 0)] w
theorem eq47 (v_b : Value) (Q : Value → World → Prop) (w : World) : semF Tryz.prog 47 [v_b] Q w = S47 v_b Q w := by kernel_rfl
theorem ref47 {v_b : Value} {Q : Value → World → Prop} {w : World} (h : S47 v_b Q w) : callS Tryz.prog 47 #[v_b] Q w :=
  callS_of mix (fun a w => Tryz.call47 a w) (by kernel_rfl) (by rw [eq47]; exact h)
-- (*commons/commonsbook.Book).stillEntries
def S48 (v_b : Value) (Q : Value → World → Prop) (w : World) : Prop :=
 lp 1 (fun J => fun v_i w_1 => ∀ _j : Fr, 
  pur Tryz.prog (nilV v_b) fun t6 => 
  pur Tryz.prog (Instr.fieldAt 43 t6 22) fun t7 => 
  rd Tryz.prog (Instr.loadAt 38 t7) (fun t8 => 
  pur Tryz.prog (Builtin.len_ #[38] 3 #[t8]) fun t9 => 
  pur Tryz.prog (binS .lss 3 false false v_i t9) fun t10 => 
  condS t10
   (pur Tryz.prog (nilV v_b) fun t14 => 
  pur Tryz.prog (Instr.fieldAt 43 t14 22) fun t15 => 
  rd Tryz.prog (Instr.loadAt 38 t15) (fun t16 => 
  pur Tryz.prog (Instr.indexAt 38 t16 v_i) fun t18 => 
  rd Tryz.prog (Instr.loadAt 152 t18) (fun t19 => 
  pur Tryz.prog (nilV v_b) fun t21 => 
  pur Tryz.prog (Instr.fieldAt 43 t21 23) fun t22 => 
  rd Tryz.prog (Instr.loadAt 38 t22) (fun t23 => 
  pur Tryz.prog (Instr.indexAt 38 t23 v_i) fun t25 => 
  rd Tryz.prog (Instr.loadAt 152 t25) (fun t26 => 
  callS Tryz.prog 116 #[t19, t26] (fun t27 w_2 => 
  pur Tryz.prog (Op.unary .not t27) fun t28 => 
  condS t28
   (Q (.bool false) w_2)
   (pur Tryz.prog (binS .add 3 false true v_i (.int .i64 1)) fun t12 => 
  J t12 w_2)) (World.drew w_1)) (World.drew w_1)) (World.drew w_1)) (World.drew w_1)) (World.drew w_1))
   (Q (.bool true) w_1)) w_1) [(.int .i64 0)] w
theorem eq48 (v_b : Value) (Q : Value → World → Prop) (w : World) : semF Tryz.prog 48 [v_b] Q w = S48 v_b Q w := by kernel_rfl
theorem ref48 {v_b : Value} {Q : Value → World → Prop} {w : World} (h : S48 v_b Q w) : callS Tryz.prog 48 #[v_b] Q w :=
  callS_of mix (fun a w => Tryz.call48 a w) (by kernel_rfl) (by rw [eq48]; exact h)
-- (*commons/commonsbook.Book).stillParts
def S49 (v_b : Value) (Q : Value → World → Prop) (w : World) : Prop :=
 lp 1 (fun J => fun v_i w_1 => ∀ _j : Fr, 
  pur Tryz.prog (nilV v_b) fun t6 => 
  pur Tryz.prog (Instr.fieldAt 43 t6 24) fun t7 => 
  rd Tryz.prog (Instr.loadAt 39 t7) (fun t8 => 
  pur Tryz.prog (Builtin.len_ #[39] 3 #[t8]) fun t9 => 
  pur Tryz.prog (binS .lss 3 false false v_i t9) fun t10 => 
  condS t10
   (pur Tryz.prog (nilV v_b) fun t14 => 
  pur Tryz.prog (Instr.fieldAt 43 t14 24) fun t15 => 
  rd Tryz.prog (Instr.loadAt 39 t15) (fun t16 => 
  pur Tryz.prog (Instr.indexAt 39 t16 v_i) fun t18 => 
  rd Tryz.prog (Instr.loadAt 154 t18) (fun t19 => 
  pur Tryz.prog (nilV v_b) fun t21 => 
  pur Tryz.prog (Instr.fieldAt 43 t21 25) fun t22 => 
  rd Tryz.prog (Instr.loadAt 39 t22) (fun t23 => 
  pur Tryz.prog (Instr.indexAt 39 t23 v_i) fun t25 => 
  rd Tryz.prog (Instr.loadAt 154 t25) (fun t26 => 
  callS Tryz.prog 117 #[t19, t26] (fun t27 w_2 => 
  pur Tryz.prog (Op.unary .not t27) fun t28 => 
  condS t28
   (Q (.bool false) w_2)
   (pur Tryz.prog (binS .add 3 false true v_i (.int .i64 1)) fun t12 => 
  J t12 w_2)) (World.drew w_1)) (World.drew w_1)) (World.drew w_1)) (World.drew w_1)) (World.drew w_1))
   (Q (.bool true) w_1)) w_1) [(.int .i64 0)] w
theorem eq49 (v_b : Value) (Q : Value → World → Prop) (w : World) : semF Tryz.prog 49 [v_b] Q w = S49 v_b Q w := by kernel_rfl
theorem ref49 {v_b : Value} {Q : Value → World → Prop} {w : World} (h : S49 v_b Q w) : callS Tryz.prog 49 #[v_b] Q w :=
  callS_of mix (fun a w => Tryz.call49 a w) (by kernel_rfl) (by rw [eq49]; exact h)
-- (*commons/commonsbook.Book).stillMsgs
def S50 (v_b : Value) (Q : Value → World → Prop) (w : World) : Prop :=
 lp 1 (fun J => fun v_i w_1 => ∀ _j : Fr, 
  pur Tryz.prog (nilV v_b) fun t6 => 
  pur Tryz.prog (Instr.fieldAt 43 t6 26) fun t7 => 
  rd Tryz.prog (Instr.loadAt 40 t7) (fun t8 => 
  pur Tryz.prog (Builtin.len_ #[40] 3 #[t8]) fun t9 => 
  pur Tryz.prog (binS .lss 3 false false v_i t9) fun t10 => 
  condS t10
   (pur Tryz.prog (nilV v_b) fun t14 => 
  pur Tryz.prog (Instr.fieldAt 43 t14 26) fun t15 => 
  rd Tryz.prog (Instr.loadAt 40 t15) (fun t16 => 
  pur Tryz.prog (Instr.indexAt 40 t16 v_i) fun t18 => 
  rd Tryz.prog (Instr.loadAt 156 t18) (fun t19 => 
  pur Tryz.prog (nilV v_b) fun t21 => 
  pur Tryz.prog (Instr.fieldAt 43 t21 27) fun t22 => 
  rd Tryz.prog (Instr.loadAt 40 t22) (fun t23 => 
  pur Tryz.prog (Instr.indexAt 40 t23 v_i) fun t25 => 
  rd Tryz.prog (Instr.loadAt 156 t25) (fun t26 => 
  callS Tryz.prog 118 #[t19, t26] (fun t27 w_2 => 
  pur Tryz.prog (Op.unary .not t27) fun t28 => 
  condS t28
   (Q (.bool false) w_2)
   (pur Tryz.prog (binS .add 3 false true v_i (.int .i64 1)) fun t12 => 
  J t12 w_2)) (World.drew w_1)) (World.drew w_1)) (World.drew w_1)) (World.drew w_1)) (World.drew w_1))
   (Q (.bool true) w_1)) w_1) [(.int .i64 0)] w
theorem eq50 (v_b : Value) (Q : Value → World → Prop) (w : World) : semF Tryz.prog 50 [v_b] Q w = S50 v_b Q w := by kernel_rfl
theorem ref50 {v_b : Value} {Q : Value → World → Prop} {w : World} (h : S50 v_b Q w) : callS Tryz.prog 50 #[v_b] Q w :=
  callS_of mix (fun a w => Tryz.call50 a w) (by kernel_rfl) (by rw [eq50]; exact h)
-- (*commons/commonsbook.Book).stillSteps
def S51 (v_b : Value) (Q : Value → World → Prop) (w : World) : Prop :=
 lp 1 (fun J => fun v_i w_1 => ∀ _j : Fr, 
  pur Tryz.prog (nilV v_b) fun t6 => 
  pur Tryz.prog (Instr.fieldAt 43 t6 28) fun t7 => 
  rd Tryz.prog (Instr.loadAt 41 t7) (fun t8 => 
  pur Tryz.prog (Builtin.len_ #[41] 3 #[t8]) fun t9 => 
  pur Tryz.prog (binS .lss 3 false false v_i t9) fun t10 => 
  condS t10
   (pur Tryz.prog (nilV v_b) fun t14 => 
  pur Tryz.prog (Instr.fieldAt 43 t14 28) fun t15 => 
  rd Tryz.prog (Instr.loadAt 41 t15) (fun t16 => 
  pur Tryz.prog (Instr.indexAt 41 t16 v_i) fun t18 => 
  rd Tryz.prog (Instr.loadAt 158 t18) (fun t19 => 
  pur Tryz.prog (nilV v_b) fun t21 => 
  pur Tryz.prog (Instr.fieldAt 43 t21 29) fun t22 => 
  rd Tryz.prog (Instr.loadAt 41 t22) (fun t23 => 
  pur Tryz.prog (Instr.indexAt 41 t23 v_i) fun t25 => 
  rd Tryz.prog (Instr.loadAt 158 t25) (fun t26 => 
  callS Tryz.prog 119 #[t19, t26] (fun t27 w_2 => 
  pur Tryz.prog (Op.unary .not t27) fun t28 => 
  condS t28
   (Q (.bool false) w_2)
   (pur Tryz.prog (binS .add 3 false true v_i (.int .i64 1)) fun t12 => 
  J t12 w_2)) (World.drew w_1)) (World.drew w_1)) (World.drew w_1)) (World.drew w_1)) (World.drew w_1))
   (Q (.bool true) w_1)) w_1) [(.int .i64 0)] w
theorem eq51 (v_b : Value) (Q : Value → World → Prop) (w : World) : semF Tryz.prog 51 [v_b] Q w = S51 v_b Q w := by kernel_rfl
theorem ref51 {v_b : Value} {Q : Value → World → Prop} {w : World} (h : S51 v_b Q w) : callS Tryz.prog 51 #[v_b] Q w :=
  callS_of mix (fun a w => Tryz.call51 a w) (by kernel_rfl) (by rw [eq51]; exact h)
-- (*commons/commonsbook.Book).putRecords
def S52 (v_b : Value) (Q : Value → World → Prop) (w : World) : Prop :=
 lp 1 (fun J => fun v_i w_1 => ∀ _j : Fr, 
  pur Tryz.prog (nilV v_b) fun t7 => 
  pur Tryz.prog (Instr.fieldAt 43 t7 12) fun t8 => 
  rd Tryz.prog (Instr.loadAt 33 t8) (fun t9 => 
  pur Tryz.prog (Builtin.len_ #[33] 3 #[t9]) fun t10 => 
  pur Tryz.prog (binS .lss 3 false false v_i t10) fun t11 => 
  condS t11
   (pur Tryz.prog (nilV v_b) fun t16 => 
  pur Tryz.prog (Instr.fieldAt 43 t16 12) fun t17 => 
  rd Tryz.prog (Instr.loadAt 33 t17) (fun t18 => 
  pur Tryz.prog (Instr.indexAt 33 t18 v_i) fun t20 => 
  rd Tryz.prog (Instr.loadAt 142 t20) (fun t21 => 
  pur Tryz.prog (Builtin.len_ #[142] 3 #[t21]) fun t22 => 
  callS Tryz.prog 120 #[v_i, (.int .i64 0), t22] (fun t23 w_2 => 
  lp 1 (fun J_1 => fun v_k w_3 => ∀ _j : Fr, 
   pur Tryz.prog (Builtin.len_ #[142] 3 #[t23]) fun t26 => 
   pur Tryz.prog (binS .lss 3 false false v_k t26) fun t27 => 
   condS t27
    (pur Tryz.prog (nilV v_b) fun t31 => 
   pur Tryz.prog (Instr.fieldAt 43 t31 12) fun t32 => 
   rd Tryz.prog (Instr.loadAt 33 t32) (fun t33 => 
   pur Tryz.prog (Instr.indexAt 33 t33 v_i) fun t35 => 
   rd Tryz.prog (Instr.loadAt 142 t35) (fun t36 => 
   pur Tryz.prog (Instr.indexAt 142 t23 v_k) fun t40 => 
   rd Tryz.prog (Instr.loadAt 161 t40) (fun t41 => 
   pur Tryz.prog (Instr.indexAt 142 t36 v_k) fun t42 => 
   act Tryz.prog (thenU (Instr.storeAt 161 t42 t41)) (fun _ w_4 => 
   pur Tryz.prog (binS .add 3 false true v_k (.int .i64 1)) fun t29 => 
   J_1 t29 w_4) (World.drew w_3)) (World.drew w_3)) (World.drew w_3)) (World.drew w_3))
    (pur Tryz.prog (binS .add 3 false true v_i (.int .i64 1)) fun t13 => 
  J t13 w_3)) [(.int .i64 0)] w_2) w_1) w_1) w_1)
   (Q (.tuple #[]) w_1)) w_1) [(.int .i64 0)] w
theorem eq52 (v_b : Value) (Q : Value → World → Prop) (w : World) : semF Tryz.prog 52 [v_b] Q w = S52 v_b Q w := by kernel_rfl
theorem ref52 {v_b : Value} {Q : Value → World → Prop} {w : World} (h : S52 v_b Q w) : callS Tryz.prog 52 #[v_b] Q w :=
  callS_of mix (fun a w => Tryz.call52 a w) (by kernel_rfl) (by rw [eq52]; exact h)
-- (*commons/commonsbook.Book).putMsgs
def S53 (v_b : Value) (Q : Value → World → Prop) (w : World) : Prop :=
 lp 1 (fun J => fun v_i w_1 => ∀ _j : Fr, 
  pur Tryz.prog (nilV v_b) fun t7 => 
  pur Tryz.prog (Instr.fieldAt 43 t7 26) fun t8 => 
  rd Tryz.prog (Instr.loadAt 40 t8) (fun t9 => 
  pur Tryz.prog (Builtin.len_ #[40] 3 #[t9]) fun t10 => 
  pur Tryz.prog (binS .lss 3 false false v_i t10) fun t11 => 
  condS t11
   (pur Tryz.prog (nilV v_b) fun t16 => 
  pur Tryz.prog (Instr.fieldAt 43 t16 26) fun t17 => 
  rd Tryz.prog (Instr.loadAt 40 t17) (fun t18 => 
  pur Tryz.prog (Instr.indexAt 40 t18 v_i) fun t20 => 
  rd Tryz.prog (Instr.loadAt 156 t20) (fun t21 => 
  pur Tryz.prog (Builtin.len_ #[156] 3 #[t21]) fun t22 => 
  callS Tryz.prog 121 #[v_i, (.int .i64 0), t22] (fun t23 w_2 => 
  lp 1 (fun J_1 => fun v_k w_3 => ∀ _j : Fr, 
   pur Tryz.prog (Builtin.len_ #[156] 3 #[t23]) fun t26 => 
   pur Tryz.prog (binS .lss 3 false false v_k t26) fun t27 => 
   condS t27
    (pur Tryz.prog (nilV v_b) fun t31 => 
   pur Tryz.prog (Instr.fieldAt 43 t31 26) fun t32 => 
   rd Tryz.prog (Instr.loadAt 40 t32) (fun t33 => 
   pur Tryz.prog (Instr.indexAt 40 t33 v_i) fun t35 => 
   rd Tryz.prog (Instr.loadAt 156 t35) (fun t36 => 
   pur Tryz.prog (Instr.indexAt 156 t23 v_k) fun t40 => 
   rd Tryz.prog (Instr.loadAt 164 t40) (fun t41 => 
   pur Tryz.prog (Instr.indexAt 156 t36 v_k) fun t42 => 
   act Tryz.prog (thenU (Instr.storeAt 164 t42 t41)) (fun _ w_4 => 
   pur Tryz.prog (binS .add 3 false true v_k (.int .i64 1)) fun t29 => 
   J_1 t29 w_4) (World.drew w_3)) (World.drew w_3)) (World.drew w_3)) (World.drew w_3))
    (pur Tryz.prog (binS .add 3 false true v_i (.int .i64 1)) fun t13 => 
  J t13 w_3)) [(.int .i64 0)] w_2) w_1) w_1) w_1)
   (Q (.tuple #[]) w_1)) w_1) [(.int .i64 0)] w
theorem eq53 (v_b : Value) (Q : Value → World → Prop) (w : World) : semF Tryz.prog 53 [v_b] Q w = S53 v_b Q w := by kernel_rfl
theorem ref53 {v_b : Value} {Q : Value → World → Prop} {w : World} (h : S53 v_b Q w) : callS Tryz.prog 53 #[v_b] Q w :=
  callS_of mix (fun a w => Tryz.call53 a w) (by kernel_rfl) (by rw [eq53]; exact h)
-- (*commons/commonsbook.Book).putSteps
def S54 (v_b : Value) (Q : Value → World → Prop) (w : World) : Prop :=
 lp 1 (fun J => fun v_i w_1 => ∀ _j : Fr, 
  pur Tryz.prog (nilV v_b) fun t7 => 
  pur Tryz.prog (Instr.fieldAt 43 t7 28) fun t8 => 
  rd Tryz.prog (Instr.loadAt 41 t8) (fun t9 => 
  pur Tryz.prog (Builtin.len_ #[41] 3 #[t9]) fun t10 => 
  pur Tryz.prog (binS .lss 3 false false v_i t10) fun t11 => 
  condS t11
   (pur Tryz.prog (nilV v_b) fun t16 => 
  pur Tryz.prog (Instr.fieldAt 43 t16 28) fun t17 => 
  rd Tryz.prog (Instr.loadAt 41 t17) (fun t18 => 
  pur Tryz.prog (Instr.indexAt 41 t18 v_i) fun t20 => 
  rd Tryz.prog (Instr.loadAt 158 t20) (fun t21 => 
  pur Tryz.prog (Builtin.len_ #[158] 3 #[t21]) fun t22 => 
  callS Tryz.prog 122 #[v_i, (.int .i64 0), t22] (fun t23 w_2 => 
  lp 1 (fun J_1 => fun v_k w_3 => ∀ _j : Fr, 
   pur Tryz.prog (Builtin.len_ #[158] 3 #[t23]) fun t26 => 
   pur Tryz.prog (binS .lss 3 false false v_k t26) fun t27 => 
   condS t27
    (pur Tryz.prog (nilV v_b) fun t31 => 
   pur Tryz.prog (Instr.fieldAt 43 t31 28) fun t32 => 
   rd Tryz.prog (Instr.loadAt 41 t32) (fun t33 => 
   pur Tryz.prog (Instr.indexAt 41 t33 v_i) fun t35 => 
   rd Tryz.prog (Instr.loadAt 158 t35) (fun t36 => 
   pur Tryz.prog (Instr.indexAt 158 t23 v_k) fun t40 => 
   rd Tryz.prog (Instr.loadAt 167 t40) (fun t41 => 
   pur Tryz.prog (Instr.indexAt 158 t36 v_k) fun t42 => 
   act Tryz.prog (thenU (Instr.storeAt 167 t42 t41)) (fun _ w_4 => 
   pur Tryz.prog (binS .add 3 false true v_k (.int .i64 1)) fun t29 => 
   J_1 t29 w_4) (World.drew w_3)) (World.drew w_3)) (World.drew w_3)) (World.drew w_3))
    (pur Tryz.prog (binS .add 3 false true v_i (.int .i64 1)) fun t13 => 
  J t13 w_3)) [(.int .i64 0)] w_2) w_1) w_1) w_1)
   (Q (.tuple #[]) w_1)) w_1) [(.int .i64 0)] w
theorem eq54 (v_b : Value) (Q : Value → World → Prop) (w : World) : semF Tryz.prog 54 [v_b] Q w = S54 v_b Q w := by kernel_rfl
theorem ref54 {v_b : Value} {Q : Value → World → Prop} {w : World} (h : S54 v_b Q w) : callS Tryz.prog 54 #[v_b] Q w :=
  callS_of mix (fun a w => Tryz.call54 a w) (by kernel_rfl) (by rw [eq54]; exact h)
-- (*commons/commonsbook.Book).putTexts
def S55 (v_b : Value) (Q : Value → World → Prop) (w : World) : Prop :=
 lp 1 (fun J => fun v_i w_1 => ∀ _j : Fr, 
  pur Tryz.prog (nilV v_b) fun t7 => 
  pur Tryz.prog (Instr.fieldAt 43 t7 0) fun t8 => 
  rd Tryz.prog (Instr.loadAt 27 t8) (fun t9 => 
  pur Tryz.prog (Builtin.len_ #[27] 3 #[t9]) fun t10 => 
  pur Tryz.prog (binS .lss 3 false false v_i t10) fun t11 => 
  condS t11
   (pur Tryz.prog (nilV v_b) fun t16 => 
  pur Tryz.prog (Instr.fieldAt 43 t16 0) fun t17 => 
  rd Tryz.prog (Instr.loadAt 27 t17) (fun t18 => 
  pur Tryz.prog (Instr.indexAt 27 t18 v_i) fun t20 => 
  rd Tryz.prog (Instr.loadAt 135 t20) (fun t21 => 
  pur Tryz.prog (Builtin.len_ #[135] 3 #[t21]) fun t22 => 
  callS Tryz.prog 123 #[v_i, (.int .i64 0), t22] (fun t23 w_2 => 
  lp 1 (fun J_1 => fun v_k w_3 => ∀ _j : Fr, 
   pur Tryz.prog (Builtin.len_ #[135] 3 #[t23]) fun t26 => 
   pur Tryz.prog (binS .lss 3 false false v_k t26) fun t27 => 
   condS t27
    (pur Tryz.prog (nilV v_b) fun t31 => 
   pur Tryz.prog (Instr.fieldAt 43 t31 0) fun t32 => 
   rd Tryz.prog (Instr.loadAt 27 t32) (fun t33 => 
   pur Tryz.prog (Instr.indexAt 27 t33 v_i) fun t35 => 
   rd Tryz.prog (Instr.loadAt 135 t35) (fun t36 => 
   pur Tryz.prog (Instr.indexAt 135 t23 v_k) fun t40 => 
   rd Tryz.prog (Instr.loadAt 9 t40) (fun t41 => 
   pur Tryz.prog (Instr.indexAt 135 t36 v_k) fun t42 => 
   act Tryz.prog (thenU (Instr.storeAt 9 t42 t41)) (fun _ w_4 => 
   pur Tryz.prog (binS .add 3 false true v_k (.int .i64 1)) fun t29 => 
   J_1 t29 w_4) (World.drew w_3)) (World.drew w_3)) (World.drew w_3)) (World.drew w_3))
    (pur Tryz.prog (binS .add 3 false true v_i (.int .i64 1)) fun t13 => 
  J t13 w_3)) [(.int .i64 0)] w_2) w_1) w_1) w_1)
   (Q (.tuple #[]) w_1)) w_1) [(.int .i64 0)] w
theorem eq55 (v_b : Value) (Q : Value → World → Prop) (w : World) : semF Tryz.prog 55 [v_b] Q w = S55 v_b Q w := by kernel_rfl
theorem ref55 {v_b : Value} {Q : Value → World → Prop} {w : World} (h : S55 v_b Q w) : callS Tryz.prog 55 #[v_b] Q w :=
  callS_of mix (fun a w => Tryz.call55 a w) (by kernel_rfl) (by rw [eq55]; exact h)
-- (*commons/commonsbook.Book).putInts
def S56 (v_b : Value) (Q : Value → World → Prop) (w : World) : Prop :=
 lp 1 (fun J => fun v_i w_1 => ∀ _j : Fr, 
  pur Tryz.prog (nilV v_b) fun t7 => 
  pur Tryz.prog (Instr.fieldAt 43 t7 2) fun t8 => 
  rd Tryz.prog (Instr.loadAt 28 t8) (fun t9 => 
  pur Tryz.prog (Builtin.len_ #[28] 3 #[t9]) fun t10 => 
  pur Tryz.prog (binS .lss 3 false false v_i t10) fun t11 => 
  condS t11
   (pur Tryz.prog (nilV v_b) fun t16 => 
  pur Tryz.prog (Instr.fieldAt 43 t16 2) fun t17 => 
  rd Tryz.prog (Instr.loadAt 28 t17) (fun t18 => 
  pur Tryz.prog (Instr.indexAt 28 t18 v_i) fun t20 => 
  rd Tryz.prog (Instr.loadAt 86 t20) (fun t21 => 
  pur Tryz.prog (Builtin.len_ #[86] 3 #[t21]) fun t22 => 
  callS Tryz.prog 124 #[v_i, (.int .i64 0), t22] (fun t23 w_2 => 
  lp 1 (fun J_1 => fun v_k w_3 => ∀ _j : Fr, 
   pur Tryz.prog (Builtin.len_ #[86] 3 #[t23]) fun t26 => 
   pur Tryz.prog (binS .lss 3 false false v_k t26) fun t27 => 
   condS t27
    (pur Tryz.prog (nilV v_b) fun t31 => 
   pur Tryz.prog (Instr.fieldAt 43 t31 2) fun t32 => 
   rd Tryz.prog (Instr.loadAt 28 t32) (fun t33 => 
   pur Tryz.prog (Instr.indexAt 28 t33 v_i) fun t35 => 
   rd Tryz.prog (Instr.loadAt 86 t35) (fun t36 => 
   pur Tryz.prog (Instr.indexAt 86 t23 v_k) fun t40 => 
   rd Tryz.prog (Instr.loadAt 3 t40) (fun t41 => 
   pur Tryz.prog (Instr.indexAt 86 t36 v_k) fun t42 => 
   act Tryz.prog (thenU (Instr.storeAt 3 t42 t41)) (fun _ w_4 => 
   pur Tryz.prog (binS .add 3 false true v_k (.int .i64 1)) fun t29 => 
   J_1 t29 w_4) (World.drew w_3)) (World.drew w_3)) (World.drew w_3)) (World.drew w_3))
    (pur Tryz.prog (binS .add 3 false true v_i (.int .i64 1)) fun t13 => 
  J t13 w_3)) [(.int .i64 0)] w_2) w_1) w_1) w_1)
   (Q (.tuple #[]) w_1)) w_1) [(.int .i64 0)] w
theorem eq56 (v_b : Value) (Q : Value → World → Prop) (w : World) : semF Tryz.prog 56 [v_b] Q w = S56 v_b Q w := by kernel_rfl
theorem ref56 {v_b : Value} {Q : Value → World → Prop} {w : World} (h : S56 v_b Q w) : callS Tryz.prog 56 #[v_b] Q w :=
  callS_of mix (fun a w => Tryz.call56 a w) (by kernel_rfl) (by rw [eq56]; exact h)
-- (*commons/commonsbook.Book).putNums
def S57 (v_b : Value) (Q : Value → World → Prop) (w : World) : Prop :=
 lp 1 (fun J => fun v_i w_1 => ∀ _j : Fr, 
  pur Tryz.prog (nilV v_b) fun t7 => 
  pur Tryz.prog (Instr.fieldAt 43 t7 4) fun t8 => 
  rd Tryz.prog (Instr.loadAt 29 t8) (fun t9 => 
  pur Tryz.prog (Builtin.len_ #[29] 3 #[t9]) fun t10 => 
  pur Tryz.prog (binS .lss 3 false false v_i t10) fun t11 => 
  condS t11
   (pur Tryz.prog (nilV v_b) fun t16 => 
  pur Tryz.prog (Instr.fieldAt 43 t16 4) fun t17 => 
  rd Tryz.prog (Instr.loadAt 29 t17) (fun t18 => 
  pur Tryz.prog (Instr.indexAt 29 t18 v_i) fun t20 => 
  rd Tryz.prog (Instr.loadAt 23 t20) (fun t21 => 
  pur Tryz.prog (Builtin.len_ #[23] 3 #[t21]) fun t22 => 
  callS Tryz.prog 125 #[v_i, (.int .i64 0), t22] (fun t23 w_2 => 
  lp 1 (fun J_1 => fun v_k w_3 => ∀ _j : Fr, 
   pur Tryz.prog (Builtin.len_ #[23] 3 #[t23]) fun t26 => 
   pur Tryz.prog (binS .lss 3 false false v_k t26) fun t27 => 
   condS t27
    (pur Tryz.prog (nilV v_b) fun t31 => 
   pur Tryz.prog (Instr.fieldAt 43 t31 4) fun t32 => 
   rd Tryz.prog (Instr.loadAt 29 t32) (fun t33 => 
   pur Tryz.prog (Instr.indexAt 29 t33 v_i) fun t35 => 
   rd Tryz.prog (Instr.loadAt 23 t35) (fun t36 => 
   pur Tryz.prog (Instr.indexAt 23 t23 v_k) fun t40 => 
   rd Tryz.prog (Instr.loadAt 64 t40) (fun t41 => 
   pur Tryz.prog (Instr.indexAt 23 t36 v_k) fun t42 => 
   act Tryz.prog (thenU (Instr.storeAt 64 t42 t41)) (fun _ w_4 => 
   pur Tryz.prog (binS .add 3 false true v_k (.int .i64 1)) fun t29 => 
   J_1 t29 w_4) (World.drew w_3)) (World.drew w_3)) (World.drew w_3)) (World.drew w_3))
    (pur Tryz.prog (binS .add 3 false true v_i (.int .i64 1)) fun t13 => 
  J t13 w_3)) [(.int .i64 0)] w_2) w_1) w_1) w_1)
   (Q (.tuple #[]) w_1)) w_1) [(.int .i64 0)] w
theorem eq57 (v_b : Value) (Q : Value → World → Prop) (w : World) : semF Tryz.prog 57 [v_b] Q w = S57 v_b Q w := by kernel_rfl
theorem ref57 {v_b : Value} {Q : Value → World → Prop} {w : World} (h : S57 v_b Q w) : callS Tryz.prog 57 #[v_b] Q w :=
  callS_of mix (fun a w => Tryz.call57 a w) (by kernel_rfl) (by rw [eq57]; exact h)
-- (*commons/commonsbook.Book).putSpans
def S58 (v_b : Value) (Q : Value → World → Prop) (w : World) : Prop :=
 lp 1 (fun J => fun v_i w_1 => ∀ _j : Fr, 
  pur Tryz.prog (nilV v_b) fun t7 => 
  pur Tryz.prog (Instr.fieldAt 43 t7 6) fun t8 => 
  rd Tryz.prog (Instr.loadAt 30 t8) (fun t9 => 
  pur Tryz.prog (Builtin.len_ #[30] 3 #[t9]) fun t10 => 
  pur Tryz.prog (binS .lss 3 false false v_i t10) fun t11 => 
  condS t11
   (pur Tryz.prog (nilV v_b) fun t16 => 
  pur Tryz.prog (Instr.fieldAt 43 t16 6) fun t17 => 
  rd Tryz.prog (Instr.loadAt 30 t17) (fun t18 => 
  pur Tryz.prog (Instr.indexAt 30 t18 v_i) fun t20 => 
  rd Tryz.prog (Instr.loadAt 138 t20) (fun t21 => 
  pur Tryz.prog (Builtin.len_ #[138] 3 #[t21]) fun t22 => 
  callS Tryz.prog 126 #[v_i, (.int .i64 0), t22] (fun t23 w_2 => 
  lp 1 (fun J_1 => fun v_k w_3 => ∀ _j : Fr, 
   pur Tryz.prog (Builtin.len_ #[138] 3 #[t23]) fun t26 => 
   pur Tryz.prog (binS .lss 3 false false v_k t26) fun t27 => 
   condS t27
    (pur Tryz.prog (nilV v_b) fun t31 => 
   pur Tryz.prog (Instr.fieldAt 43 t31 6) fun t32 => 
   rd Tryz.prog (Instr.loadAt 30 t32) (fun t33 => 
   pur Tryz.prog (Instr.indexAt 30 t33 v_i) fun t35 => 
   rd Tryz.prog (Instr.loadAt 138 t35) (fun t36 => 
   pur Tryz.prog (Instr.indexAt 138 t23 v_k) fun t40 => 
   rd Tryz.prog (Instr.loadAt 173 t40) (fun t41 => 
   pur Tryz.prog (Instr.indexAt 138 t36 v_k) fun t42 => 
   act Tryz.prog (thenU (Instr.storeAt 173 t42 t41)) (fun _ w_4 => 
   pur Tryz.prog (binS .add 3 false true v_k (.int .i64 1)) fun t29 => 
   J_1 t29 w_4) (World.drew w_3)) (World.drew w_3)) (World.drew w_3)) (World.drew w_3))
    (pur Tryz.prog (binS .add 3 false true v_i (.int .i64 1)) fun t13 => 
  J t13 w_3)) [(.int .i64 0)] w_2) w_1) w_1) w_1)
   (Q (.tuple #[]) w_1)) w_1) [(.int .i64 0)] w
theorem eq58 (v_b : Value) (Q : Value → World → Prop) (w : World) : semF Tryz.prog 58 [v_b] Q w = S58 v_b Q w := by kernel_rfl
theorem ref58 {v_b : Value} {Q : Value → World → Prop} {w : World} (h : S58 v_b Q w) : callS Tryz.prog 58 #[v_b] Q w :=
  callS_of mix (fun a w => Tryz.call58 a w) (by kernel_rfl) (by rw [eq58]; exact h)
-- (*commons/commonsbook.Book).putLocks
def S59 (v_b : Value) (Q : Value → World → Prop) (w : World) : Prop :=
 lp 1 (fun J => fun v_i w_1 => ∀ _j : Fr, 
  pur Tryz.prog (nilV v_b) fun t7 => 
  pur Tryz.prog (Instr.fieldAt 43 t7 8) fun t8 => 
  rd Tryz.prog (Instr.loadAt 31 t8) (fun t9 => 
  pur Tryz.prog (Builtin.len_ #[31] 3 #[t9]) fun t10 => 
  pur Tryz.prog (binS .lss 3 false false v_i t10) fun t11 => 
  condS t11
   (pur Tryz.prog (nilV v_b) fun t16 => 
  pur Tryz.prog (Instr.fieldAt 43 t16 8) fun t17 => 
  rd Tryz.prog (Instr.loadAt 31 t17) (fun t18 => 
  pur Tryz.prog (Instr.indexAt 31 t18 v_i) fun t20 => 
  rd Tryz.prog (Instr.loadAt 140 t20) (fun t21 => 
  pur Tryz.prog (Builtin.len_ #[140] 3 #[t21]) fun t22 => 
  callS Tryz.prog 127 #[v_i, (.int .i64 0), t22] (fun t23 w_2 => 
  lp 1 (fun J_1 => fun v_k w_3 => ∀ _j : Fr, 
   pur Tryz.prog (Builtin.len_ #[140] 3 #[t23]) fun t26 => 
   pur Tryz.prog (binS .lss 3 false false v_k t26) fun t27 => 
   condS t27
    (pur Tryz.prog (nilV v_b) fun t31 => 
   pur Tryz.prog (Instr.fieldAt 43 t31 8) fun t32 => 
   rd Tryz.prog (Instr.loadAt 31 t32) (fun t33 => 
   pur Tryz.prog (Instr.indexAt 31 t33 v_i) fun t35 => 
   rd Tryz.prog (Instr.loadAt 140 t35) (fun t36 => 
   pur Tryz.prog (Instr.indexAt 140 t23 v_k) fun t40 => 
   rd Tryz.prog (Instr.loadAt 176 t40) (fun t41 => 
   pur Tryz.prog (Instr.indexAt 140 t36 v_k) fun t42 => 
   act Tryz.prog (thenU (Instr.storeAt 176 t42 t41)) (fun _ w_4 => 
   pur Tryz.prog (binS .add 3 false true v_k (.int .i64 1)) fun t29 => 
   J_1 t29 w_4) (World.drew w_3)) (World.drew w_3)) (World.drew w_3)) (World.drew w_3))
    (pur Tryz.prog (binS .add 3 false true v_i (.int .i64 1)) fun t13 => 
  J t13 w_3)) [(.int .i64 0)] w_2) w_1) w_1) w_1)
   (Q (.tuple #[]) w_1)) w_1) [(.int .i64 0)] w
theorem eq59 (v_b : Value) (Q : Value → World → Prop) (w : World) : semF Tryz.prog 59 [v_b] Q w = S59 v_b Q w := by kernel_rfl
theorem ref59 {v_b : Value} {Q : Value → World → Prop} {w : World} (h : S59 v_b Q w) : callS Tryz.prog 59 #[v_b] Q w :=
  callS_of mix (fun a w => Tryz.call59 a w) (by kernel_rfl) (by rw [eq59]; exact h)
-- (*commons/commonsbook.Book).putImages
def S60 (v_b : Value) (Q : Value → World → Prop) (w : World) : Prop :=
 lp 1 (fun J => fun v_i w_1 => ∀ _j : Fr, 
  pur Tryz.prog (nilV v_b) fun t7 => 
  pur Tryz.prog (Instr.fieldAt 43 t7 10) fun t8 => 
  rd Tryz.prog (Instr.loadAt 32 t8) (fun t9 => 
  pur Tryz.prog (Builtin.len_ #[32] 3 #[t9]) fun t10 => 
  pur Tryz.prog (binS .lss 3 false false v_i t10) fun t11 => 
  condS t11
   (pur Tryz.prog (nilV v_b) fun t16 => 
  pur Tryz.prog (Instr.fieldAt 43 t16 10) fun t17 => 
  rd Tryz.prog (Instr.loadAt 32 t17) (fun t18 => 
  pur Tryz.prog (Instr.indexAt 32 t18 v_i) fun t20 => 
  rd Tryz.prog (Instr.loadAt 53 t20) (fun t21 => 
  pur Tryz.prog (Builtin.len_ #[53] 3 #[t21]) fun t22 => 
  callS Tryz.prog 128 #[v_i, (.int .i64 0), t22] (fun t23 w_2 => 
  lp 1 (fun J_1 => fun v_k w_3 => ∀ _j : Fr, 
   pur Tryz.prog (Builtin.len_ #[53] 3 #[t23]) fun t26 => 
   pur Tryz.prog (binS .lss 3 false false v_k t26) fun t27 => 
   condS t27
    (pur Tryz.prog (nilV v_b) fun t31 => 
   pur Tryz.prog (Instr.fieldAt 43 t31 10) fun t32 => 
   rd Tryz.prog (Instr.loadAt 32 t32) (fun t33 => 
   pur Tryz.prog (Instr.indexAt 32 t33 v_i) fun t35 => 
   rd Tryz.prog (Instr.loadAt 53 t35) (fun t36 => 
   pur Tryz.prog (Instr.indexAt 53 t23 v_k) fun t40 => 
   rd Tryz.prog (Instr.loadAt 69 t40) (fun t41 => 
   pur Tryz.prog (Instr.indexAt 53 t36 v_k) fun t42 => 
   act Tryz.prog (thenU (Instr.storeAt 69 t42 t41)) (fun _ w_4 => 
   pur Tryz.prog (binS .add 3 false true v_k (.int .i64 1)) fun t29 => 
   J_1 t29 w_4) (World.drew w_3)) (World.drew w_3)) (World.drew w_3)) (World.drew w_3))
    (pur Tryz.prog (binS .add 3 false true v_i (.int .i64 1)) fun t13 => 
  J t13 w_3)) [(.int .i64 0)] w_2) w_1) w_1) w_1)
   (Q (.tuple #[]) w_1)) w_1) [(.int .i64 0)] w
theorem eq60 (v_b : Value) (Q : Value → World → Prop) (w : World) : semF Tryz.prog 60 [v_b] Q w = S60 v_b Q w := by kernel_rfl
theorem ref60 {v_b : Value} {Q : Value → World → Prop} {w : World} (h : S60 v_b Q w) : callS Tryz.prog 60 #[v_b] Q w :=
  callS_of mix (fun a w => Tryz.call60 a w) (by kernel_rfl) (by rw [eq60]; exact h)
-- (*commons/commonsbook.Book).putPackets
def S61 (v_b : Value) (Q : Value → World → Prop) (w : World) : Prop :=
 lp 1 (fun J => fun v_i w_1 => ∀ _j : Fr, 
  pur Tryz.prog (nilV v_b) fun t7 => 
  pur Tryz.prog (Instr.fieldAt 43 t7 14) fun t8 => 
  rd Tryz.prog (Instr.loadAt 34 t8) (fun t9 => 
  pur Tryz.prog (Builtin.len_ #[34] 3 #[t9]) fun t10 => 
  pur Tryz.prog (binS .lss 3 false false v_i t10) fun t11 => 
  condS t11
   (pur Tryz.prog (nilV v_b) fun t16 => 
  pur Tryz.prog (Instr.fieldAt 43 t16 14) fun t17 => 
  rd Tryz.prog (Instr.loadAt 34 t17) (fun t18 => 
  pur Tryz.prog (Instr.indexAt 34 t18 v_i) fun t20 => 
  rd Tryz.prog (Instr.loadAt 144 t20) (fun t21 => 
  pur Tryz.prog (Builtin.len_ #[144] 3 #[t21]) fun t22 => 
  callS Tryz.prog 129 #[v_i, (.int .i64 0), t22] (fun t23 w_2 => 
  lp 1 (fun J_1 => fun v_k w_3 => ∀ _j : Fr, 
   pur Tryz.prog (Builtin.len_ #[144] 3 #[t23]) fun t26 => 
   pur Tryz.prog (binS .lss 3 false false v_k t26) fun t27 => 
   condS t27
    (pur Tryz.prog (nilV v_b) fun t31 => 
   pur Tryz.prog (Instr.fieldAt 43 t31 14) fun t32 => 
   rd Tryz.prog (Instr.loadAt 34 t32) (fun t33 => 
   pur Tryz.prog (Instr.indexAt 34 t33 v_i) fun t35 => 
   rd Tryz.prog (Instr.loadAt 144 t35) (fun t36 => 
   pur Tryz.prog (Instr.indexAt 144 t23 v_k) fun t40 => 
   rd Tryz.prog (Instr.loadAt 180 t40) (fun t41 => 
   pur Tryz.prog (Instr.indexAt 144 t36 v_k) fun t42 => 
   act Tryz.prog (thenU (Instr.storeAt 180 t42 t41)) (fun _ w_4 => 
   pur Tryz.prog (binS .add 3 false true v_k (.int .i64 1)) fun t29 => 
   J_1 t29 w_4) (World.drew w_3)) (World.drew w_3)) (World.drew w_3)) (World.drew w_3))
    (pur Tryz.prog (binS .add 3 false true v_i (.int .i64 1)) fun t13 => 
  J t13 w_3)) [(.int .i64 0)] w_2) w_1) w_1) w_1)
   (Q (.tuple #[]) w_1)) w_1) [(.int .i64 0)] w
theorem eq61 (v_b : Value) (Q : Value → World → Prop) (w : World) : semF Tryz.prog 61 [v_b] Q w = S61 v_b Q w := by kernel_rfl
theorem ref61 {v_b : Value} {Q : Value → World → Prop} {w : World} (h : S61 v_b Q w) : callS Tryz.prog 61 #[v_b] Q w :=
  callS_of mix (fun a w => Tryz.call61 a w) (by kernel_rfl) (by rw [eq61]; exact h)
-- (*commons/commonsbook.Book).putFrames
def S62 (v_b : Value) (Q : Value → World → Prop) (w : World) : Prop :=
 lp 1 (fun J => fun v_i w_1 => ∀ _j : Fr, 
  pur Tryz.prog (nilV v_b) fun t7 => 
  pur Tryz.prog (Instr.fieldAt 43 t7 16) fun t8 => 
  rd Tryz.prog (Instr.loadAt 35 t8) (fun t9 => 
  pur Tryz.prog (Builtin.len_ #[35] 3 #[t9]) fun t10 => 
  pur Tryz.prog (binS .lss 3 false false v_i t10) fun t11 => 
  condS t11
   (pur Tryz.prog (nilV v_b) fun t16 => 
  pur Tryz.prog (Instr.fieldAt 43 t16 16) fun t17 => 
  rd Tryz.prog (Instr.loadAt 35 t17) (fun t18 => 
  pur Tryz.prog (Instr.indexAt 35 t18 v_i) fun t20 => 
  rd Tryz.prog (Instr.loadAt 146 t20) (fun t21 => 
  pur Tryz.prog (Builtin.len_ #[146] 3 #[t21]) fun t22 => 
  callS Tryz.prog 130 #[v_i, (.int .i64 0), t22] (fun t23 w_2 => 
  lp 1 (fun J_1 => fun v_k w_3 => ∀ _j : Fr, 
   pur Tryz.prog (Builtin.len_ #[146] 3 #[t23]) fun t26 => 
   pur Tryz.prog (binS .lss 3 false false v_k t26) fun t27 => 
   condS t27
    (pur Tryz.prog (nilV v_b) fun t31 => 
   pur Tryz.prog (Instr.fieldAt 43 t31 16) fun t32 => 
   rd Tryz.prog (Instr.loadAt 35 t32) (fun t33 => 
   pur Tryz.prog (Instr.indexAt 35 t33 v_i) fun t35 => 
   rd Tryz.prog (Instr.loadAt 146 t35) (fun t36 => 
   pur Tryz.prog (Instr.indexAt 146 t23 v_k) fun t40 => 
   rd Tryz.prog (Instr.loadAt 183 t40) (fun t41 => 
   pur Tryz.prog (Instr.indexAt 146 t36 v_k) fun t42 => 
   act Tryz.prog (thenU (Instr.storeAt 183 t42 t41)) (fun _ w_4 => 
   pur Tryz.prog (binS .add 3 false true v_k (.int .i64 1)) fun t29 => 
   J_1 t29 w_4) (World.drew w_3)) (World.drew w_3)) (World.drew w_3)) (World.drew w_3))
    (pur Tryz.prog (binS .add 3 false true v_i (.int .i64 1)) fun t13 => 
  J t13 w_3)) [(.int .i64 0)] w_2) w_1) w_1) w_1)
   (Q (.tuple #[]) w_1)) w_1) [(.int .i64 0)] w
theorem eq62 (v_b : Value) (Q : Value → World → Prop) (w : World) : semF Tryz.prog 62 [v_b] Q w = S62 v_b Q w := by kernel_rfl
theorem ref62 {v_b : Value} {Q : Value → World → Prop} {w : World} (h : S62 v_b Q w) : callS Tryz.prog 62 #[v_b] Q w :=
  callS_of mix (fun a w => Tryz.call62 a w) (by kernel_rfl) (by rw [eq62]; exact h)
-- (*commons/commonsbook.Book).putWaits
def S63 (v_b : Value) (Q : Value → World → Prop) (w : World) : Prop :=
 lp 1 (fun J => fun v_i w_1 => ∀ _j : Fr, 
  pur Tryz.prog (nilV v_b) fun t7 => 
  pur Tryz.prog (Instr.fieldAt 43 t7 18) fun t8 => 
  rd Tryz.prog (Instr.loadAt 36 t8) (fun t9 => 
  pur Tryz.prog (Builtin.len_ #[36] 3 #[t9]) fun t10 => 
  pur Tryz.prog (binS .lss 3 false false v_i t10) fun t11 => 
  condS t11
   (pur Tryz.prog (nilV v_b) fun t16 => 
  pur Tryz.prog (Instr.fieldAt 43 t16 18) fun t17 => 
  rd Tryz.prog (Instr.loadAt 36 t17) (fun t18 => 
  pur Tryz.prog (Instr.indexAt 36 t18 v_i) fun t20 => 
  rd Tryz.prog (Instr.loadAt 148 t20) (fun t21 => 
  pur Tryz.prog (Builtin.len_ #[148] 3 #[t21]) fun t22 => 
  callS Tryz.prog 131 #[v_i, (.int .i64 0), t22] (fun t23 w_2 => 
  lp 1 (fun J_1 => fun v_k w_3 => ∀ _j : Fr, 
   pur Tryz.prog (Builtin.len_ #[148] 3 #[t23]) fun t26 => 
   pur Tryz.prog (binS .lss 3 false false v_k t26) fun t27 => 
   condS t27
    (pur Tryz.prog (nilV v_b) fun t31 => 
   pur Tryz.prog (Instr.fieldAt 43 t31 18) fun t32 => 
   rd Tryz.prog (Instr.loadAt 36 t32) (fun t33 => 
   pur Tryz.prog (Instr.indexAt 36 t33 v_i) fun t35 => 
   rd Tryz.prog (Instr.loadAt 148 t35) (fun t36 => 
   pur Tryz.prog (Instr.indexAt 148 t23 v_k) fun t40 => 
   rd Tryz.prog (Instr.loadAt 186 t40) (fun t41 => 
   pur Tryz.prog (Instr.indexAt 148 t36 v_k) fun t42 => 
   act Tryz.prog (thenU (Instr.storeAt 186 t42 t41)) (fun _ w_4 => 
   pur Tryz.prog (binS .add 3 false true v_k (.int .i64 1)) fun t29 => 
   J_1 t29 w_4) (World.drew w_3)) (World.drew w_3)) (World.drew w_3)) (World.drew w_3))
    (pur Tryz.prog (binS .add 3 false true v_i (.int .i64 1)) fun t13 => 
  J t13 w_3)) [(.int .i64 0)] w_2) w_1) w_1) w_1)
   (Q (.tuple #[]) w_1)) w_1) [(.int .i64 0)] w
theorem eq63 (v_b : Value) (Q : Value → World → Prop) (w : World) : semF Tryz.prog 63 [v_b] Q w = S63 v_b Q w := by kernel_rfl
theorem ref63 {v_b : Value} {Q : Value → World → Prop} {w : World} (h : S63 v_b Q w) : callS Tryz.prog 63 #[v_b] Q w :=
  callS_of mix (fun a w => Tryz.call63 a w) (by kernel_rfl) (by rw [eq63]; exact h)
-- (*commons/commonsbook.Book).putRevokes
def S64 (v_b : Value) (Q : Value → World → Prop) (w : World) : Prop :=
 lp 1 (fun J => fun v_i w_1 => ∀ _j : Fr, 
  pur Tryz.prog (nilV v_b) fun t7 => 
  pur Tryz.prog (Instr.fieldAt 43 t7 20) fun t8 => 
  rd Tryz.prog (Instr.loadAt 37 t8) (fun t9 => 
  pur Tryz.prog (Builtin.len_ #[37] 3 #[t9]) fun t10 => 
  pur Tryz.prog (binS .lss 3 false false v_i t10) fun t11 => 
  condS t11
   (pur Tryz.prog (nilV v_b) fun t16 => 
  pur Tryz.prog (Instr.fieldAt 43 t16 20) fun t17 => 
  rd Tryz.prog (Instr.loadAt 37 t17) (fun t18 => 
  pur Tryz.prog (Instr.indexAt 37 t18 v_i) fun t20 => 
  rd Tryz.prog (Instr.loadAt 150 t20) (fun t21 => 
  pur Tryz.prog (Builtin.len_ #[150] 3 #[t21]) fun t22 => 
  callS Tryz.prog 132 #[v_i, (.int .i64 0), t22] (fun t23 w_2 => 
  lp 1 (fun J_1 => fun v_k w_3 => ∀ _j : Fr, 
   pur Tryz.prog (Builtin.len_ #[150] 3 #[t23]) fun t26 => 
   pur Tryz.prog (binS .lss 3 false false v_k t26) fun t27 => 
   condS t27
    (pur Tryz.prog (nilV v_b) fun t31 => 
   pur Tryz.prog (Instr.fieldAt 43 t31 20) fun t32 => 
   rd Tryz.prog (Instr.loadAt 37 t32) (fun t33 => 
   pur Tryz.prog (Instr.indexAt 37 t33 v_i) fun t35 => 
   rd Tryz.prog (Instr.loadAt 150 t35) (fun t36 => 
   pur Tryz.prog (Instr.indexAt 150 t23 v_k) fun t40 => 
   rd Tryz.prog (Instr.loadAt 189 t40) (fun t41 => 
   pur Tryz.prog (Instr.indexAt 150 t36 v_k) fun t42 => 
   act Tryz.prog (thenU (Instr.storeAt 189 t42 t41)) (fun _ w_4 => 
   pur Tryz.prog (binS .add 3 false true v_k (.int .i64 1)) fun t29 => 
   J_1 t29 w_4) (World.drew w_3)) (World.drew w_3)) (World.drew w_3)) (World.drew w_3))
    (pur Tryz.prog (binS .add 3 false true v_i (.int .i64 1)) fun t13 => 
  J t13 w_3)) [(.int .i64 0)] w_2) w_1) w_1) w_1)
   (Q (.tuple #[]) w_1)) w_1) [(.int .i64 0)] w
theorem eq64 (v_b : Value) (Q : Value → World → Prop) (w : World) : semF Tryz.prog 64 [v_b] Q w = S64 v_b Q w := by kernel_rfl
theorem ref64 {v_b : Value} {Q : Value → World → Prop} {w : World} (h : S64 v_b Q w) : callS Tryz.prog 64 #[v_b] Q w :=
  callS_of mix (fun a w => Tryz.call64 a w) (by kernel_rfl) (by rw [eq64]; exact h)
-- (*commons/commonsbook.Book).putEntries
def S65 (v_b : Value) (Q : Value → World → Prop) (w : World) : Prop :=
 lp 1 (fun J => fun v_i w_1 => ∀ _j : Fr, 
  pur Tryz.prog (nilV v_b) fun t7 => 
  pur Tryz.prog (Instr.fieldAt 43 t7 22) fun t8 => 
  rd Tryz.prog (Instr.loadAt 38 t8) (fun t9 => 
  pur Tryz.prog (Builtin.len_ #[38] 3 #[t9]) fun t10 => 
  pur Tryz.prog (binS .lss 3 false false v_i t10) fun t11 => 
  condS t11
   (pur Tryz.prog (nilV v_b) fun t16 => 
  pur Tryz.prog (Instr.fieldAt 43 t16 22) fun t17 => 
  rd Tryz.prog (Instr.loadAt 38 t17) (fun t18 => 
  pur Tryz.prog (Instr.indexAt 38 t18 v_i) fun t20 => 
  rd Tryz.prog (Instr.loadAt 152 t20) (fun t21 => 
  pur Tryz.prog (Builtin.len_ #[152] 3 #[t21]) fun t22 => 
  callS Tryz.prog 133 #[v_i, (.int .i64 0), t22] (fun t23 w_2 => 
  lp 1 (fun J_1 => fun v_k w_3 => ∀ _j : Fr, 
   pur Tryz.prog (Builtin.len_ #[152] 3 #[t23]) fun t26 => 
   pur Tryz.prog (binS .lss 3 false false v_k t26) fun t27 => 
   condS t27
    (pur Tryz.prog (nilV v_b) fun t31 => 
   pur Tryz.prog (Instr.fieldAt 43 t31 22) fun t32 => 
   rd Tryz.prog (Instr.loadAt 38 t32) (fun t33 => 
   pur Tryz.prog (Instr.indexAt 38 t33 v_i) fun t35 => 
   rd Tryz.prog (Instr.loadAt 152 t35) (fun t36 => 
   pur Tryz.prog (Instr.indexAt 152 t23 v_k) fun t40 => 
   rd Tryz.prog (Instr.loadAt 192 t40) (fun t41 => 
   pur Tryz.prog (Instr.indexAt 152 t36 v_k) fun t42 => 
   act Tryz.prog (thenU (Instr.storeAt 192 t42 t41)) (fun _ w_4 => 
   pur Tryz.prog (binS .add 3 false true v_k (.int .i64 1)) fun t29 => 
   J_1 t29 w_4) (World.drew w_3)) (World.drew w_3)) (World.drew w_3)) (World.drew w_3))
    (pur Tryz.prog (binS .add 3 false true v_i (.int .i64 1)) fun t13 => 
  J t13 w_3)) [(.int .i64 0)] w_2) w_1) w_1) w_1)
   (Q (.tuple #[]) w_1)) w_1) [(.int .i64 0)] w
theorem eq65 (v_b : Value) (Q : Value → World → Prop) (w : World) : semF Tryz.prog 65 [v_b] Q w = S65 v_b Q w := by kernel_rfl
theorem ref65 {v_b : Value} {Q : Value → World → Prop} {w : World} (h : S65 v_b Q w) : callS Tryz.prog 65 #[v_b] Q w :=
  callS_of mix (fun a w => Tryz.call65 a w) (by kernel_rfl) (by rw [eq65]; exact h)
-- (*commons/commonsbook.Book).putParts
def S66 (v_b : Value) (Q : Value → World → Prop) (w : World) : Prop :=
 lp 1 (fun J => fun v_i w_1 => ∀ _j : Fr, 
  pur Tryz.prog (nilV v_b) fun t7 => 
  pur Tryz.prog (Instr.fieldAt 43 t7 24) fun t8 => 
  rd Tryz.prog (Instr.loadAt 39 t8) (fun t9 => 
  pur Tryz.prog (Builtin.len_ #[39] 3 #[t9]) fun t10 => 
  pur Tryz.prog (binS .lss 3 false false v_i t10) fun t11 => 
  condS t11
   (pur Tryz.prog (nilV v_b) fun t16 => 
  pur Tryz.prog (Instr.fieldAt 43 t16 24) fun t17 => 
  rd Tryz.prog (Instr.loadAt 39 t17) (fun t18 => 
  pur Tryz.prog (Instr.indexAt 39 t18 v_i) fun t20 => 
  rd Tryz.prog (Instr.loadAt 154 t20) (fun t21 => 
  pur Tryz.prog (Builtin.len_ #[154] 3 #[t21]) fun t22 => 
  callS Tryz.prog 134 #[v_i, (.int .i64 0), t22] (fun t23 w_2 => 
  lp 1 (fun J_1 => fun v_k w_3 => ∀ _j : Fr, 
   pur Tryz.prog (Builtin.len_ #[154] 3 #[t23]) fun t26 => 
   pur Tryz.prog (binS .lss 3 false false v_k t26) fun t27 => 
   condS t27
    (pur Tryz.prog (nilV v_b) fun t31 => 
   pur Tryz.prog (Instr.fieldAt 43 t31 24) fun t32 => 
   rd Tryz.prog (Instr.loadAt 39 t32) (fun t33 => 
   pur Tryz.prog (Instr.indexAt 39 t33 v_i) fun t35 => 
   rd Tryz.prog (Instr.loadAt 154 t35) (fun t36 => 
   pur Tryz.prog (Instr.indexAt 154 t23 v_k) fun t40 => 
   rd Tryz.prog (Instr.loadAt 195 t40) (fun t41 => 
   pur Tryz.prog (Instr.indexAt 154 t36 v_k) fun t42 => 
   act Tryz.prog (thenU (Instr.storeAt 195 t42 t41)) (fun _ w_4 => 
   pur Tryz.prog (binS .add 3 false true v_k (.int .i64 1)) fun t29 => 
   J_1 t29 w_4) (World.drew w_3)) (World.drew w_3)) (World.drew w_3)) (World.drew w_3))
    (pur Tryz.prog (binS .add 3 false true v_i (.int .i64 1)) fun t13 => 
  J t13 w_3)) [(.int .i64 0)] w_2) w_1) w_1) w_1)
   (Q (.tuple #[]) w_1)) w_1) [(.int .i64 0)] w
theorem eq66 (v_b : Value) (Q : Value → World → Prop) (w : World) : semF Tryz.prog 66 [v_b] Q w = S66 v_b Q w := by kernel_rfl
theorem ref66 {v_b : Value} {Q : Value → World → Prop} {w : World} (h : S66 v_b Q w) : callS Tryz.prog 66 #[v_b] Q w :=
  callS_of mix (fun a w => Tryz.call66 a w) (by kernel_rfl) (by rw [eq66]; exact h)
-- (*commons/commonsbook.Book).growTexts
def S67 (v_b : Value) (Q : Value → World → Prop) (w : World) : Prop :=
 lp 2 (fun J => fun v_out v_i w_1 => ∀ _j : Fr, 
  pur Tryz.prog (nilV v_b) fun t9 => 
  pur Tryz.prog (Instr.fieldAt 43 t9 0) fun t10 => 
  rd Tryz.prog (Instr.loadAt 27 t10) (fun t11 => 
  pur Tryz.prog (Builtin.len_ #[27] 3 #[t11]) fun t12 => 
  pur Tryz.prog (binS .lss 3 false false v_i t12) fun t13 => 
  condS t13
   (pur Tryz.prog (nilV v_b) fun t17 => 
  pur Tryz.prog (Instr.fieldAt 43 t17 0) fun t18 => 
  rd Tryz.prog (Instr.loadAt 27 t18) (fun t19 => 
  pur Tryz.prog (Instr.indexAt 27 t19 v_i) fun t21 => 
  rd Tryz.prog (Instr.loadAt 135 t21) (fun t22 => 
  lp 2 (fun J_1 => fun v_l v_n w_2 => ∀ _j : Fr, 
   pur Tryz.prog (binS .lss 3 false true v_n (.int .i64 12)) fun t24 => 
   condS t24
    (pur Tryz.prog (Builtin.len_ #[135] 3 #[v_l]) fun t30 => 
   callS Tryz.prog 123 #[v_i, t30, (.int .i64 1)] (fun t31 w_3 => 
   act Tryz.prog (Builtin.append_ #[135, 135] 135 #[v_l, t31]) (fun t32 w_4 => 
   pur Tryz.prog (binS .add 3 false true v_n (.int .i64 1)) fun t26 => 
   J_1 t32 t26 w_4) w_3) w_2)
    (pur Tryz.prog (Builtin.len_ #[135] 3 #[v_l]) fun t37 => 
  callS Tryz.prog 123 #[v_i, t37, (.int .i64 60)] (fun t38 w_5 => 
  act Tryz.prog (Builtin.append_ #[135, 135] 135 #[v_l, t38]) (fun t39 w_6 => 
  act Tryz.prog (Instr.buildSlice 27 1 #[(0, t39)]) (fun t40 w_7 => 
  act Tryz.prog (Builtin.append_ #[27, 27] 27 #[v_out, t40]) (fun t41 w_8 => 
  pur Tryz.prog (binS .add 3 false true v_i (.int .i64 1)) fun t15 => 
  J t41 t15 w_8) w_7) w_6) w_5) w_2)) [t22, (.int .i64 0)] w_1) w_1) w_1)
   (Q v_out w_1)) w_1) [(.slice none 0 0), (.int .i64 0)] w
theorem eq67 (v_b : Value) (Q : Value → World → Prop) (w : World) : semF Tryz.prog 67 [v_b] Q w = S67 v_b Q w := by kernel_rfl
theorem ref67 {v_b : Value} {Q : Value → World → Prop} {w : World} (h : S67 v_b Q w) : callS Tryz.prog 67 #[v_b] Q w :=
  callS_of mix (fun a w => Tryz.call67 a w) (by kernel_rfl) (by rw [eq67]; exact h)
-- (*commons/commonsbook.Book).growInts
def S68 (v_b : Value) (Q : Value → World → Prop) (w : World) : Prop :=
 lp 2 (fun J => fun v_out v_i w_1 => ∀ _j : Fr, 
  pur Tryz.prog (nilV v_b) fun t9 => 
  pur Tryz.prog (Instr.fieldAt 43 t9 2) fun t10 => 
  rd Tryz.prog (Instr.loadAt 28 t10) (fun t11 => 
  pur Tryz.prog (Builtin.len_ #[28] 3 #[t11]) fun t12 => 
  pur Tryz.prog (binS .lss 3 false false v_i t12) fun t13 => 
  condS t13
   (pur Tryz.prog (nilV v_b) fun t17 => 
  pur Tryz.prog (Instr.fieldAt 43 t17 2) fun t18 => 
  rd Tryz.prog (Instr.loadAt 28 t18) (fun t19 => 
  pur Tryz.prog (Instr.indexAt 28 t19 v_i) fun t21 => 
  rd Tryz.prog (Instr.loadAt 86 t21) (fun t22 => 
  lp 2 (fun J_1 => fun v_l v_n w_2 => ∀ _j : Fr, 
   pur Tryz.prog (binS .lss 3 false true v_n (.int .i64 12)) fun t24 => 
   condS t24
    (pur Tryz.prog (Builtin.len_ #[86] 3 #[v_l]) fun t30 => 
   callS Tryz.prog 124 #[v_i, t30, (.int .i64 1)] (fun t31 w_3 => 
   act Tryz.prog (Builtin.append_ #[86, 86] 86 #[v_l, t31]) (fun t32 w_4 => 
   pur Tryz.prog (binS .add 3 false true v_n (.int .i64 1)) fun t26 => 
   J_1 t32 t26 w_4) w_3) w_2)
    (pur Tryz.prog (Builtin.len_ #[86] 3 #[v_l]) fun t37 => 
  callS Tryz.prog 124 #[v_i, t37, (.int .i64 60)] (fun t38 w_5 => 
  act Tryz.prog (Builtin.append_ #[86, 86] 86 #[v_l, t38]) (fun t39 w_6 => 
  act Tryz.prog (Instr.buildSlice 28 1 #[(0, t39)]) (fun t40 w_7 => 
  act Tryz.prog (Builtin.append_ #[28, 28] 28 #[v_out, t40]) (fun t41 w_8 => 
  pur Tryz.prog (binS .add 3 false true v_i (.int .i64 1)) fun t15 => 
  J t41 t15 w_8) w_7) w_6) w_5) w_2)) [t22, (.int .i64 0)] w_1) w_1) w_1)
   (Q v_out w_1)) w_1) [(.slice none 0 0), (.int .i64 0)] w
theorem eq68 (v_b : Value) (Q : Value → World → Prop) (w : World) : semF Tryz.prog 68 [v_b] Q w = S68 v_b Q w := by kernel_rfl
theorem ref68 {v_b : Value} {Q : Value → World → Prop} {w : World} (h : S68 v_b Q w) : callS Tryz.prog 68 #[v_b] Q w :=
  callS_of mix (fun a w => Tryz.call68 a w) (by kernel_rfl) (by rw [eq68]; exact h)
-- (*commons/commonsbook.Book).growNums
def S69 (v_b : Value) (Q : Value → World → Prop) (w : World) : Prop :=
 lp 2 (fun J => fun v_out v_i w_1 => ∀ _j : Fr, 
  pur Tryz.prog (nilV v_b) fun t9 => 
  pur Tryz.prog (Instr.fieldAt 43 t9 4) fun t10 => 
  rd Tryz.prog (Instr.loadAt 29 t10) (fun t11 => 
  pur Tryz.prog (Builtin.len_ #[29] 3 #[t11]) fun t12 => 
  pur Tryz.prog (binS .lss 3 false false v_i t12) fun t13 => 
  condS t13
   (pur Tryz.prog (nilV v_b) fun t17 => 
  pur Tryz.prog (Instr.fieldAt 43 t17 4) fun t18 => 
  rd Tryz.prog (Instr.loadAt 29 t18) (fun t19 => 
  pur Tryz.prog (Instr.indexAt 29 t19 v_i) fun t21 => 
  rd Tryz.prog (Instr.loadAt 23 t21) (fun t22 => 
  lp 2 (fun J_1 => fun v_l v_n w_2 => ∀ _j : Fr, 
   pur Tryz.prog (binS .lss 3 false true v_n (.int .i64 12)) fun t24 => 
   condS t24
    (pur Tryz.prog (Builtin.len_ #[23] 3 #[v_l]) fun t30 => 
   callS Tryz.prog 125 #[v_i, t30, (.int .i64 1)] (fun t31 w_3 => 
   act Tryz.prog (Builtin.append_ #[23, 23] 23 #[v_l, t31]) (fun t32 w_4 => 
   pur Tryz.prog (binS .add 3 false true v_n (.int .i64 1)) fun t26 => 
   J_1 t32 t26 w_4) w_3) w_2)
    (pur Tryz.prog (Builtin.len_ #[23] 3 #[v_l]) fun t37 => 
  callS Tryz.prog 125 #[v_i, t37, (.int .i64 60)] (fun t38 w_5 => 
  act Tryz.prog (Builtin.append_ #[23, 23] 23 #[v_l, t38]) (fun t39 w_6 => 
  act Tryz.prog (Instr.buildSlice 29 1 #[(0, t39)]) (fun t40 w_7 => 
  act Tryz.prog (Builtin.append_ #[29, 29] 29 #[v_out, t40]) (fun t41 w_8 => 
  pur Tryz.prog (binS .add 3 false true v_i (.int .i64 1)) fun t15 => 
  J t41 t15 w_8) w_7) w_6) w_5) w_2)) [t22, (.int .i64 0)] w_1) w_1) w_1)
   (Q v_out w_1)) w_1) [(.slice none 0 0), (.int .i64 0)] w
theorem eq69 (v_b : Value) (Q : Value → World → Prop) (w : World) : semF Tryz.prog 69 [v_b] Q w = S69 v_b Q w := by kernel_rfl
theorem ref69 {v_b : Value} {Q : Value → World → Prop} {w : World} (h : S69 v_b Q w) : callS Tryz.prog 69 #[v_b] Q w :=
  callS_of mix (fun a w => Tryz.call69 a w) (by kernel_rfl) (by rw [eq69]; exact h)
-- (*commons/commonsbook.Book).growSpans
def S70 (v_b : Value) (Q : Value → World → Prop) (w : World) : Prop :=
 lp 2 (fun J => fun v_out v_i w_1 => ∀ _j : Fr, 
  pur Tryz.prog (nilV v_b) fun t9 => 
  pur Tryz.prog (Instr.fieldAt 43 t9 6) fun t10 => 
  rd Tryz.prog (Instr.loadAt 30 t10) (fun t11 => 
  pur Tryz.prog (Builtin.len_ #[30] 3 #[t11]) fun t12 => 
  pur Tryz.prog (binS .lss 3 false false v_i t12) fun t13 => 
  condS t13
   (pur Tryz.prog (nilV v_b) fun t17 => 
  pur Tryz.prog (Instr.fieldAt 43 t17 6) fun t18 => 
  rd Tryz.prog (Instr.loadAt 30 t18) (fun t19 => 
  pur Tryz.prog (Instr.indexAt 30 t19 v_i) fun t21 => 
  rd Tryz.prog (Instr.loadAt 138 t21) (fun t22 => 
  lp 2 (fun J_1 => fun v_l v_n w_2 => ∀ _j : Fr, 
   pur Tryz.prog (binS .lss 3 false true v_n (.int .i64 12)) fun t24 => 
   condS t24
    (pur Tryz.prog (Builtin.len_ #[138] 3 #[v_l]) fun t30 => 
   callS Tryz.prog 126 #[v_i, t30, (.int .i64 1)] (fun t31 w_3 => 
   act Tryz.prog (Builtin.append_ #[138, 138] 138 #[v_l, t31]) (fun t32 w_4 => 
   pur Tryz.prog (binS .add 3 false true v_n (.int .i64 1)) fun t26 => 
   J_1 t32 t26 w_4) w_3) w_2)
    (pur Tryz.prog (Builtin.len_ #[138] 3 #[v_l]) fun t37 => 
  callS Tryz.prog 126 #[v_i, t37, (.int .i64 60)] (fun t38 w_5 => 
  act Tryz.prog (Builtin.append_ #[138, 138] 138 #[v_l, t38]) (fun t39 w_6 => 
  act Tryz.prog (Instr.buildSlice 30 1 #[(0, t39)]) (fun t40 w_7 => 
  act Tryz.prog (Builtin.append_ #[30, 30] 30 #[v_out, t40]) (fun t41 w_8 => 
  pur Tryz.prog (binS .add 3 false true v_i (.int .i64 1)) fun t15 => 
  J t41 t15 w_8) w_7) w_6) w_5) w_2)) [t22, (.int .i64 0)] w_1) w_1) w_1)
   (Q v_out w_1)) w_1) [(.slice none 0 0), (.int .i64 0)] w
theorem eq70 (v_b : Value) (Q : Value → World → Prop) (w : World) : semF Tryz.prog 70 [v_b] Q w = S70 v_b Q w := by kernel_rfl
theorem ref70 {v_b : Value} {Q : Value → World → Prop} {w : World} (h : S70 v_b Q w) : callS Tryz.prog 70 #[v_b] Q w :=
  callS_of mix (fun a w => Tryz.call70 a w) (by kernel_rfl) (by rw [eq70]; exact h)
-- (*commons/commonsbook.Book).growLocks
def S71 (v_b : Value) (Q : Value → World → Prop) (w : World) : Prop :=
 lp 2 (fun J => fun v_out v_i w_1 => ∀ _j : Fr, 
  pur Tryz.prog (nilV v_b) fun t9 => 
  pur Tryz.prog (Instr.fieldAt 43 t9 8) fun t10 => 
  rd Tryz.prog (Instr.loadAt 31 t10) (fun t11 => 
  pur Tryz.prog (Builtin.len_ #[31] 3 #[t11]) fun t12 => 
  pur Tryz.prog (binS .lss 3 false false v_i t12) fun t13 => 
  condS t13
   (pur Tryz.prog (nilV v_b) fun t17 => 
  pur Tryz.prog (Instr.fieldAt 43 t17 8) fun t18 => 
  rd Tryz.prog (Instr.loadAt 31 t18) (fun t19 => 
  pur Tryz.prog (Instr.indexAt 31 t19 v_i) fun t21 => 
  rd Tryz.prog (Instr.loadAt 140 t21) (fun t22 => 
  lp 2 (fun J_1 => fun v_l v_n w_2 => ∀ _j : Fr, 
   pur Tryz.prog (binS .lss 3 false true v_n (.int .i64 12)) fun t24 => 
   condS t24
    (pur Tryz.prog (Builtin.len_ #[140] 3 #[v_l]) fun t30 => 
   callS Tryz.prog 127 #[v_i, t30, (.int .i64 1)] (fun t31 w_3 => 
   act Tryz.prog (Builtin.append_ #[140, 140] 140 #[v_l, t31]) (fun t32 w_4 => 
   pur Tryz.prog (binS .add 3 false true v_n (.int .i64 1)) fun t26 => 
   J_1 t32 t26 w_4) w_3) w_2)
    (pur Tryz.prog (Builtin.len_ #[140] 3 #[v_l]) fun t37 => 
  callS Tryz.prog 127 #[v_i, t37, (.int .i64 60)] (fun t38 w_5 => 
  act Tryz.prog (Builtin.append_ #[140, 140] 140 #[v_l, t38]) (fun t39 w_6 => 
  act Tryz.prog (Instr.buildSlice 31 1 #[(0, t39)]) (fun t40 w_7 => 
  act Tryz.prog (Builtin.append_ #[31, 31] 31 #[v_out, t40]) (fun t41 w_8 => 
  pur Tryz.prog (binS .add 3 false true v_i (.int .i64 1)) fun t15 => 
  J t41 t15 w_8) w_7) w_6) w_5) w_2)) [t22, (.int .i64 0)] w_1) w_1) w_1)
   (Q v_out w_1)) w_1) [(.slice none 0 0), (.int .i64 0)] w
theorem eq71 (v_b : Value) (Q : Value → World → Prop) (w : World) : semF Tryz.prog 71 [v_b] Q w = S71 v_b Q w := by kernel_rfl
theorem ref71 {v_b : Value} {Q : Value → World → Prop} {w : World} (h : S71 v_b Q w) : callS Tryz.prog 71 #[v_b] Q w :=
  callS_of mix (fun a w => Tryz.call71 a w) (by kernel_rfl) (by rw [eq71]; exact h)
-- (*commons/commonsbook.Book).growImages
def S72 (v_b : Value) (Q : Value → World → Prop) (w : World) : Prop :=
 lp 2 (fun J => fun v_out v_i w_1 => ∀ _j : Fr, 
  pur Tryz.prog (nilV v_b) fun t9 => 
  pur Tryz.prog (Instr.fieldAt 43 t9 10) fun t10 => 
  rd Tryz.prog (Instr.loadAt 32 t10) (fun t11 => 
  pur Tryz.prog (Builtin.len_ #[32] 3 #[t11]) fun t12 => 
  pur Tryz.prog (binS .lss 3 false false v_i t12) fun t13 => 
  condS t13
   (pur Tryz.prog (nilV v_b) fun t17 => 
  pur Tryz.prog (Instr.fieldAt 43 t17 10) fun t18 => 
  rd Tryz.prog (Instr.loadAt 32 t18) (fun t19 => 
  pur Tryz.prog (Instr.indexAt 32 t19 v_i) fun t21 => 
  rd Tryz.prog (Instr.loadAt 53 t21) (fun t22 => 
  lp 2 (fun J_1 => fun v_l v_n w_2 => ∀ _j : Fr, 
   pur Tryz.prog (binS .lss 3 false true v_n (.int .i64 12)) fun t24 => 
   condS t24
    (pur Tryz.prog (Builtin.len_ #[53] 3 #[v_l]) fun t30 => 
   callS Tryz.prog 128 #[v_i, t30, (.int .i64 1)] (fun t31 w_3 => 
   act Tryz.prog (Builtin.append_ #[53, 53] 53 #[v_l, t31]) (fun t32 w_4 => 
   pur Tryz.prog (binS .add 3 false true v_n (.int .i64 1)) fun t26 => 
   J_1 t32 t26 w_4) w_3) w_2)
    (pur Tryz.prog (Builtin.len_ #[53] 3 #[v_l]) fun t37 => 
  callS Tryz.prog 128 #[v_i, t37, (.int .i64 60)] (fun t38 w_5 => 
  act Tryz.prog (Builtin.append_ #[53, 53] 53 #[v_l, t38]) (fun t39 w_6 => 
  act Tryz.prog (Instr.buildSlice 32 1 #[(0, t39)]) (fun t40 w_7 => 
  act Tryz.prog (Builtin.append_ #[32, 32] 32 #[v_out, t40]) (fun t41 w_8 => 
  pur Tryz.prog (binS .add 3 false true v_i (.int .i64 1)) fun t15 => 
  J t41 t15 w_8) w_7) w_6) w_5) w_2)) [t22, (.int .i64 0)] w_1) w_1) w_1)
   (Q v_out w_1)) w_1) [(.slice none 0 0), (.int .i64 0)] w
theorem eq72 (v_b : Value) (Q : Value → World → Prop) (w : World) : semF Tryz.prog 72 [v_b] Q w = S72 v_b Q w := by kernel_rfl
theorem ref72 {v_b : Value} {Q : Value → World → Prop} {w : World} (h : S72 v_b Q w) : callS Tryz.prog 72 #[v_b] Q w :=
  callS_of mix (fun a w => Tryz.call72 a w) (by kernel_rfl) (by rw [eq72]; exact h)
-- (*commons/commonsbook.Book).growRecords
def S73 (v_b : Value) (Q : Value → World → Prop) (w : World) : Prop :=
 lp 2 (fun J => fun v_out v_i w_1 => ∀ _j : Fr, 
  pur Tryz.prog (nilV v_b) fun t9 => 
  pur Tryz.prog (Instr.fieldAt 43 t9 12) fun t10 => 
  rd Tryz.prog (Instr.loadAt 33 t10) (fun t11 => 
  pur Tryz.prog (Builtin.len_ #[33] 3 #[t11]) fun t12 => 
  pur Tryz.prog (binS .lss 3 false false v_i t12) fun t13 => 
  condS t13
   (pur Tryz.prog (nilV v_b) fun t17 => 
  pur Tryz.prog (Instr.fieldAt 43 t17 12) fun t18 => 
  rd Tryz.prog (Instr.loadAt 33 t18) (fun t19 => 
  pur Tryz.prog (Instr.indexAt 33 t19 v_i) fun t21 => 
  rd Tryz.prog (Instr.loadAt 142 t21) (fun t22 => 
  lp 2 (fun J_1 => fun v_l v_n w_2 => ∀ _j : Fr, 
   pur Tryz.prog (binS .lss 3 false true v_n (.int .i64 12)) fun t24 => 
   condS t24
    (pur Tryz.prog (Builtin.len_ #[142] 3 #[v_l]) fun t30 => 
   callS Tryz.prog 120 #[v_i, t30, (.int .i64 1)] (fun t31 w_3 => 
   act Tryz.prog (Builtin.append_ #[142, 142] 142 #[v_l, t31]) (fun t32 w_4 => 
   pur Tryz.prog (binS .add 3 false true v_n (.int .i64 1)) fun t26 => 
   J_1 t32 t26 w_4) w_3) w_2)
    (pur Tryz.prog (Builtin.len_ #[142] 3 #[v_l]) fun t37 => 
  callS Tryz.prog 120 #[v_i, t37, (.int .i64 60)] (fun t38 w_5 => 
  act Tryz.prog (Builtin.append_ #[142, 142] 142 #[v_l, t38]) (fun t39 w_6 => 
  act Tryz.prog (Instr.buildSlice 33 1 #[(0, t39)]) (fun t40 w_7 => 
  act Tryz.prog (Builtin.append_ #[33, 33] 33 #[v_out, t40]) (fun t41 w_8 => 
  pur Tryz.prog (binS .add 3 false true v_i (.int .i64 1)) fun t15 => 
  J t41 t15 w_8) w_7) w_6) w_5) w_2)) [t22, (.int .i64 0)] w_1) w_1) w_1)
   (Q v_out w_1)) w_1) [(.slice none 0 0), (.int .i64 0)] w
theorem eq73 (v_b : Value) (Q : Value → World → Prop) (w : World) : semF Tryz.prog 73 [v_b] Q w = S73 v_b Q w := by kernel_rfl
theorem ref73 {v_b : Value} {Q : Value → World → Prop} {w : World} (h : S73 v_b Q w) : callS Tryz.prog 73 #[v_b] Q w :=
  callS_of mix (fun a w => Tryz.call73 a w) (by kernel_rfl) (by rw [eq73]; exact h)
-- (*commons/commonsbook.Book).growPackets
def S74 (v_b : Value) (Q : Value → World → Prop) (w : World) : Prop :=
 lp 2 (fun J => fun v_out v_i w_1 => ∀ _j : Fr, 
  pur Tryz.prog (nilV v_b) fun t9 => 
  pur Tryz.prog (Instr.fieldAt 43 t9 14) fun t10 => 
  rd Tryz.prog (Instr.loadAt 34 t10) (fun t11 => 
  pur Tryz.prog (Builtin.len_ #[34] 3 #[t11]) fun t12 => 
  pur Tryz.prog (binS .lss 3 false false v_i t12) fun t13 => 
  condS t13
   (pur Tryz.prog (nilV v_b) fun t17 => 
  pur Tryz.prog (Instr.fieldAt 43 t17 14) fun t18 => 
  rd Tryz.prog (Instr.loadAt 34 t18) (fun t19 => 
  pur Tryz.prog (Instr.indexAt 34 t19 v_i) fun t21 => 
  rd Tryz.prog (Instr.loadAt 144 t21) (fun t22 => 
  lp 2 (fun J_1 => fun v_l v_n w_2 => ∀ _j : Fr, 
   pur Tryz.prog (binS .lss 3 false true v_n (.int .i64 12)) fun t24 => 
   condS t24
    (pur Tryz.prog (Builtin.len_ #[144] 3 #[v_l]) fun t30 => 
   callS Tryz.prog 129 #[v_i, t30, (.int .i64 1)] (fun t31 w_3 => 
   act Tryz.prog (Builtin.append_ #[144, 144] 144 #[v_l, t31]) (fun t32 w_4 => 
   pur Tryz.prog (binS .add 3 false true v_n (.int .i64 1)) fun t26 => 
   J_1 t32 t26 w_4) w_3) w_2)
    (pur Tryz.prog (Builtin.len_ #[144] 3 #[v_l]) fun t37 => 
  callS Tryz.prog 129 #[v_i, t37, (.int .i64 60)] (fun t38 w_5 => 
  act Tryz.prog (Builtin.append_ #[144, 144] 144 #[v_l, t38]) (fun t39 w_6 => 
  act Tryz.prog (Instr.buildSlice 34 1 #[(0, t39)]) (fun t40 w_7 => 
  act Tryz.prog (Builtin.append_ #[34, 34] 34 #[v_out, t40]) (fun t41 w_8 => 
  pur Tryz.prog (binS .add 3 false true v_i (.int .i64 1)) fun t15 => 
  J t41 t15 w_8) w_7) w_6) w_5) w_2)) [t22, (.int .i64 0)] w_1) w_1) w_1)
   (Q v_out w_1)) w_1) [(.slice none 0 0), (.int .i64 0)] w
theorem eq74 (v_b : Value) (Q : Value → World → Prop) (w : World) : semF Tryz.prog 74 [v_b] Q w = S74 v_b Q w := by kernel_rfl
theorem ref74 {v_b : Value} {Q : Value → World → Prop} {w : World} (h : S74 v_b Q w) : callS Tryz.prog 74 #[v_b] Q w :=
  callS_of mix (fun a w => Tryz.call74 a w) (by kernel_rfl) (by rw [eq74]; exact h)
-- (*commons/commonsbook.Book).growFrames
def S75 (v_b : Value) (Q : Value → World → Prop) (w : World) : Prop :=
 lp 2 (fun J => fun v_out v_i w_1 => ∀ _j : Fr, 
  pur Tryz.prog (nilV v_b) fun t9 => 
  pur Tryz.prog (Instr.fieldAt 43 t9 16) fun t10 => 
  rd Tryz.prog (Instr.loadAt 35 t10) (fun t11 => 
  pur Tryz.prog (Builtin.len_ #[35] 3 #[t11]) fun t12 => 
  pur Tryz.prog (binS .lss 3 false false v_i t12) fun t13 => 
  condS t13
   (pur Tryz.prog (nilV v_b) fun t17 => 
  pur Tryz.prog (Instr.fieldAt 43 t17 16) fun t18 => 
  rd Tryz.prog (Instr.loadAt 35 t18) (fun t19 => 
  pur Tryz.prog (Instr.indexAt 35 t19 v_i) fun t21 => 
  rd Tryz.prog (Instr.loadAt 146 t21) (fun t22 => 
  lp 2 (fun J_1 => fun v_l v_n w_2 => ∀ _j : Fr, 
   pur Tryz.prog (binS .lss 3 false true v_n (.int .i64 12)) fun t24 => 
   condS t24
    (pur Tryz.prog (Builtin.len_ #[146] 3 #[v_l]) fun t30 => 
   callS Tryz.prog 130 #[v_i, t30, (.int .i64 1)] (fun t31 w_3 => 
   act Tryz.prog (Builtin.append_ #[146, 146] 146 #[v_l, t31]) (fun t32 w_4 => 
   pur Tryz.prog (binS .add 3 false true v_n (.int .i64 1)) fun t26 => 
   J_1 t32 t26 w_4) w_3) w_2)
    (pur Tryz.prog (Builtin.len_ #[146] 3 #[v_l]) fun t37 => 
  callS Tryz.prog 130 #[v_i, t37, (.int .i64 60)] (fun t38 w_5 => 
  act Tryz.prog (Builtin.append_ #[146, 146] 146 #[v_l, t38]) (fun t39 w_6 => 
  act Tryz.prog (Instr.buildSlice 35 1 #[(0, t39)]) (fun t40 w_7 => 
  act Tryz.prog (Builtin.append_ #[35, 35] 35 #[v_out, t40]) (fun t41 w_8 => 
  pur Tryz.prog (binS .add 3 false true v_i (.int .i64 1)) fun t15 => 
  J t41 t15 w_8) w_7) w_6) w_5) w_2)) [t22, (.int .i64 0)] w_1) w_1) w_1)
   (Q v_out w_1)) w_1) [(.slice none 0 0), (.int .i64 0)] w
theorem eq75 (v_b : Value) (Q : Value → World → Prop) (w : World) : semF Tryz.prog 75 [v_b] Q w = S75 v_b Q w := by kernel_rfl
theorem ref75 {v_b : Value} {Q : Value → World → Prop} {w : World} (h : S75 v_b Q w) : callS Tryz.prog 75 #[v_b] Q w :=
  callS_of mix (fun a w => Tryz.call75 a w) (by kernel_rfl) (by rw [eq75]; exact h)
-- (*commons/commonsbook.Book).growWaits
def S76 (v_b : Value) (Q : Value → World → Prop) (w : World) : Prop :=
 lp 2 (fun J => fun v_out v_i w_1 => ∀ _j : Fr, 
  pur Tryz.prog (nilV v_b) fun t9 => 
  pur Tryz.prog (Instr.fieldAt 43 t9 18) fun t10 => 
  rd Tryz.prog (Instr.loadAt 36 t10) (fun t11 => 
  pur Tryz.prog (Builtin.len_ #[36] 3 #[t11]) fun t12 => 
  pur Tryz.prog (binS .lss 3 false false v_i t12) fun t13 => 
  condS t13
   (pur Tryz.prog (nilV v_b) fun t17 => 
  pur Tryz.prog (Instr.fieldAt 43 t17 18) fun t18 => 
  rd Tryz.prog (Instr.loadAt 36 t18) (fun t19 => 
  pur Tryz.prog (Instr.indexAt 36 t19 v_i) fun t21 => 
  rd Tryz.prog (Instr.loadAt 148 t21) (fun t22 => 
  lp 2 (fun J_1 => fun v_l v_n w_2 => ∀ _j : Fr, 
   pur Tryz.prog (binS .lss 3 false true v_n (.int .i64 12)) fun t24 => 
   condS t24
    (pur Tryz.prog (Builtin.len_ #[148] 3 #[v_l]) fun t30 => 
   callS Tryz.prog 131 #[v_i, t30, (.int .i64 1)] (fun t31 w_3 => 
   act Tryz.prog (Builtin.append_ #[148, 148] 148 #[v_l, t31]) (fun t32 w_4 => 
   pur Tryz.prog (binS .add 3 false true v_n (.int .i64 1)) fun t26 => 
   J_1 t32 t26 w_4) w_3) w_2)
    (pur Tryz.prog (Builtin.len_ #[148] 3 #[v_l]) fun t37 => 
  callS Tryz.prog 131 #[v_i, t37, (.int .i64 60)] (fun t38 w_5 => 
  act Tryz.prog (Builtin.append_ #[148, 148] 148 #[v_l, t38]) (fun t39 w_6 => 
  act Tryz.prog (Instr.buildSlice 36 1 #[(0, t39)]) (fun t40 w_7 => 
  act Tryz.prog (Builtin.append_ #[36, 36] 36 #[v_out, t40]) (fun t41 w_8 => 
  pur Tryz.prog (binS .add 3 false true v_i (.int .i64 1)) fun t15 => 
  J t41 t15 w_8) w_7) w_6) w_5) w_2)) [t22, (.int .i64 0)] w_1) w_1) w_1)
   (Q v_out w_1)) w_1) [(.slice none 0 0), (.int .i64 0)] w
theorem eq76 (v_b : Value) (Q : Value → World → Prop) (w : World) : semF Tryz.prog 76 [v_b] Q w = S76 v_b Q w := by kernel_rfl
theorem ref76 {v_b : Value} {Q : Value → World → Prop} {w : World} (h : S76 v_b Q w) : callS Tryz.prog 76 #[v_b] Q w :=
  callS_of mix (fun a w => Tryz.call76 a w) (by kernel_rfl) (by rw [eq76]; exact h)
-- (*commons/commonsbook.Book).growRevokes
def S77 (v_b : Value) (Q : Value → World → Prop) (w : World) : Prop :=
 lp 2 (fun J => fun v_out v_i w_1 => ∀ _j : Fr, 
  pur Tryz.prog (nilV v_b) fun t9 => 
  pur Tryz.prog (Instr.fieldAt 43 t9 20) fun t10 => 
  rd Tryz.prog (Instr.loadAt 37 t10) (fun t11 => 
  pur Tryz.prog (Builtin.len_ #[37] 3 #[t11]) fun t12 => 
  pur Tryz.prog (binS .lss 3 false false v_i t12) fun t13 => 
  condS t13
   (pur Tryz.prog (nilV v_b) fun t17 => 
  pur Tryz.prog (Instr.fieldAt 43 t17 20) fun t18 => 
  rd Tryz.prog (Instr.loadAt 37 t18) (fun t19 => 
  pur Tryz.prog (Instr.indexAt 37 t19 v_i) fun t21 => 
  rd Tryz.prog (Instr.loadAt 150 t21) (fun t22 => 
  lp 2 (fun J_1 => fun v_l v_n w_2 => ∀ _j : Fr, 
   pur Tryz.prog (binS .lss 3 false true v_n (.int .i64 12)) fun t24 => 
   condS t24
    (pur Tryz.prog (Builtin.len_ #[150] 3 #[v_l]) fun t30 => 
   callS Tryz.prog 132 #[v_i, t30, (.int .i64 1)] (fun t31 w_3 => 
   act Tryz.prog (Builtin.append_ #[150, 150] 150 #[v_l, t31]) (fun t32 w_4 => 
   pur Tryz.prog (binS .add 3 false true v_n (.int .i64 1)) fun t26 => 
   J_1 t32 t26 w_4) w_3) w_2)
    (pur Tryz.prog (Builtin.len_ #[150] 3 #[v_l]) fun t37 => 
  callS Tryz.prog 132 #[v_i, t37, (.int .i64 60)] (fun t38 w_5 => 
  act Tryz.prog (Builtin.append_ #[150, 150] 150 #[v_l, t38]) (fun t39 w_6 => 
  act Tryz.prog (Instr.buildSlice 37 1 #[(0, t39)]) (fun t40 w_7 => 
  act Tryz.prog (Builtin.append_ #[37, 37] 37 #[v_out, t40]) (fun t41 w_8 => 
  pur Tryz.prog (binS .add 3 false true v_i (.int .i64 1)) fun t15 => 
  J t41 t15 w_8) w_7) w_6) w_5) w_2)) [t22, (.int .i64 0)] w_1) w_1) w_1)
   (Q v_out w_1)) w_1) [(.slice none 0 0), (.int .i64 0)] w
theorem eq77 (v_b : Value) (Q : Value → World → Prop) (w : World) : semF Tryz.prog 77 [v_b] Q w = S77 v_b Q w := by kernel_rfl
theorem ref77 {v_b : Value} {Q : Value → World → Prop} {w : World} (h : S77 v_b Q w) : callS Tryz.prog 77 #[v_b] Q w :=
  callS_of mix (fun a w => Tryz.call77 a w) (by kernel_rfl) (by rw [eq77]; exact h)
-- (*commons/commonsbook.Book).growEntries
def S78 (v_b : Value) (Q : Value → World → Prop) (w : World) : Prop :=
 lp 2 (fun J => fun v_out v_i w_1 => ∀ _j : Fr, 
  pur Tryz.prog (nilV v_b) fun t9 => 
  pur Tryz.prog (Instr.fieldAt 43 t9 22) fun t10 => 
  rd Tryz.prog (Instr.loadAt 38 t10) (fun t11 => 
  pur Tryz.prog (Builtin.len_ #[38] 3 #[t11]) fun t12 => 
  pur Tryz.prog (binS .lss 3 false false v_i t12) fun t13 => 
  condS t13
   (pur Tryz.prog (nilV v_b) fun t17 => 
  pur Tryz.prog (Instr.fieldAt 43 t17 22) fun t18 => 
  rd Tryz.prog (Instr.loadAt 38 t18) (fun t19 => 
  pur Tryz.prog (Instr.indexAt 38 t19 v_i) fun t21 => 
  rd Tryz.prog (Instr.loadAt 152 t21) (fun t22 => 
  lp 2 (fun J_1 => fun v_l v_n w_2 => ∀ _j : Fr, 
   pur Tryz.prog (binS .lss 3 false true v_n (.int .i64 12)) fun t24 => 
   condS t24
    (pur Tryz.prog (Builtin.len_ #[152] 3 #[v_l]) fun t30 => 
   callS Tryz.prog 133 #[v_i, t30, (.int .i64 1)] (fun t31 w_3 => 
   act Tryz.prog (Builtin.append_ #[152, 152] 152 #[v_l, t31]) (fun t32 w_4 => 
   pur Tryz.prog (binS .add 3 false true v_n (.int .i64 1)) fun t26 => 
   J_1 t32 t26 w_4) w_3) w_2)
    (pur Tryz.prog (Builtin.len_ #[152] 3 #[v_l]) fun t37 => 
  callS Tryz.prog 133 #[v_i, t37, (.int .i64 60)] (fun t38 w_5 => 
  act Tryz.prog (Builtin.append_ #[152, 152] 152 #[v_l, t38]) (fun t39 w_6 => 
  act Tryz.prog (Instr.buildSlice 38 1 #[(0, t39)]) (fun t40 w_7 => 
  act Tryz.prog (Builtin.append_ #[38, 38] 38 #[v_out, t40]) (fun t41 w_8 => 
  pur Tryz.prog (binS .add 3 false true v_i (.int .i64 1)) fun t15 => 
  J t41 t15 w_8) w_7) w_6) w_5) w_2)) [t22, (.int .i64 0)] w_1) w_1) w_1)
   (Q v_out w_1)) w_1) [(.slice none 0 0), (.int .i64 0)] w
theorem eq78 (v_b : Value) (Q : Value → World → Prop) (w : World) : semF Tryz.prog 78 [v_b] Q w = S78 v_b Q w := by kernel_rfl
theorem ref78 {v_b : Value} {Q : Value → World → Prop} {w : World} (h : S78 v_b Q w) : callS Tryz.prog 78 #[v_b] Q w :=
  callS_of mix (fun a w => Tryz.call78 a w) (by kernel_rfl) (by rw [eq78]; exact h)
-- (*commons/commonsbook.Book).growParts
def S79 (v_b : Value) (Q : Value → World → Prop) (w : World) : Prop :=
 lp 2 (fun J => fun v_out v_i w_1 => ∀ _j : Fr, 
  pur Tryz.prog (nilV v_b) fun t9 => 
  pur Tryz.prog (Instr.fieldAt 43 t9 24) fun t10 => 
  rd Tryz.prog (Instr.loadAt 39 t10) (fun t11 => 
  pur Tryz.prog (Builtin.len_ #[39] 3 #[t11]) fun t12 => 
  pur Tryz.prog (binS .lss 3 false false v_i t12) fun t13 => 
  condS t13
   (pur Tryz.prog (nilV v_b) fun t17 => 
  pur Tryz.prog (Instr.fieldAt 43 t17 24) fun t18 => 
  rd Tryz.prog (Instr.loadAt 39 t18) (fun t19 => 
  pur Tryz.prog (Instr.indexAt 39 t19 v_i) fun t21 => 
  rd Tryz.prog (Instr.loadAt 154 t21) (fun t22 => 
  lp 2 (fun J_1 => fun v_l v_n w_2 => ∀ _j : Fr, 
   pur Tryz.prog (binS .lss 3 false true v_n (.int .i64 12)) fun t24 => 
   condS t24
    (pur Tryz.prog (Builtin.len_ #[154] 3 #[v_l]) fun t30 => 
   callS Tryz.prog 134 #[v_i, t30, (.int .i64 1)] (fun t31 w_3 => 
   act Tryz.prog (Builtin.append_ #[154, 154] 154 #[v_l, t31]) (fun t32 w_4 => 
   pur Tryz.prog (binS .add 3 false true v_n (.int .i64 1)) fun t26 => 
   J_1 t32 t26 w_4) w_3) w_2)
    (pur Tryz.prog (Builtin.len_ #[154] 3 #[v_l]) fun t37 => 
  callS Tryz.prog 134 #[v_i, t37, (.int .i64 60)] (fun t38 w_5 => 
  act Tryz.prog (Builtin.append_ #[154, 154] 154 #[v_l, t38]) (fun t39 w_6 => 
  act Tryz.prog (Instr.buildSlice 39 1 #[(0, t39)]) (fun t40 w_7 => 
  act Tryz.prog (Builtin.append_ #[39, 39] 39 #[v_out, t40]) (fun t41 w_8 => 
  pur Tryz.prog (binS .add 3 false true v_i (.int .i64 1)) fun t15 => 
  J t41 t15 w_8) w_7) w_6) w_5) w_2)) [t22, (.int .i64 0)] w_1) w_1) w_1)
   (Q v_out w_1)) w_1) [(.slice none 0 0), (.int .i64 0)] w
theorem eq79 (v_b : Value) (Q : Value → World → Prop) (w : World) : semF Tryz.prog 79 [v_b] Q w = S79 v_b Q w := by kernel_rfl
theorem ref79 {v_b : Value} {Q : Value → World → Prop} {w : World} (h : S79 v_b Q w) : callS Tryz.prog 79 #[v_b] Q w :=
  callS_of mix (fun a w => Tryz.call79 a w) (by kernel_rfl) (by rw [eq79]; exact h)
-- (*commons/commonsbook.Book).growMsgs
def S80 (v_b : Value) (Q : Value → World → Prop) (w : World) : Prop :=
 lp 2 (fun J => fun v_out v_i w_1 => ∀ _j : Fr, 
  pur Tryz.prog (nilV v_b) fun t9 => 
  pur Tryz.prog (Instr.fieldAt 43 t9 26) fun t10 => 
  rd Tryz.prog (Instr.loadAt 40 t10) (fun t11 => 
  pur Tryz.prog (Builtin.len_ #[40] 3 #[t11]) fun t12 => 
  pur Tryz.prog (binS .lss 3 false false v_i t12) fun t13 => 
  condS t13
   (pur Tryz.prog (nilV v_b) fun t17 => 
  pur Tryz.prog (Instr.fieldAt 43 t17 26) fun t18 => 
  rd Tryz.prog (Instr.loadAt 40 t18) (fun t19 => 
  pur Tryz.prog (Instr.indexAt 40 t19 v_i) fun t21 => 
  rd Tryz.prog (Instr.loadAt 156 t21) (fun t22 => 
  lp 2 (fun J_1 => fun v_l v_n w_2 => ∀ _j : Fr, 
   pur Tryz.prog (binS .lss 3 false true v_n (.int .i64 12)) fun t24 => 
   condS t24
    (pur Tryz.prog (Builtin.len_ #[156] 3 #[v_l]) fun t30 => 
   callS Tryz.prog 121 #[v_i, t30, (.int .i64 1)] (fun t31 w_3 => 
   act Tryz.prog (Builtin.append_ #[156, 156] 156 #[v_l, t31]) (fun t32 w_4 => 
   pur Tryz.prog (binS .add 3 false true v_n (.int .i64 1)) fun t26 => 
   J_1 t32 t26 w_4) w_3) w_2)
    (pur Tryz.prog (Builtin.len_ #[156] 3 #[v_l]) fun t37 => 
  callS Tryz.prog 121 #[v_i, t37, (.int .i64 60)] (fun t38 w_5 => 
  act Tryz.prog (Builtin.append_ #[156, 156] 156 #[v_l, t38]) (fun t39 w_6 => 
  act Tryz.prog (Instr.buildSlice 40 1 #[(0, t39)]) (fun t40 w_7 => 
  act Tryz.prog (Builtin.append_ #[40, 40] 40 #[v_out, t40]) (fun t41 w_8 => 
  pur Tryz.prog (binS .add 3 false true v_i (.int .i64 1)) fun t15 => 
  J t41 t15 w_8) w_7) w_6) w_5) w_2)) [t22, (.int .i64 0)] w_1) w_1) w_1)
   (Q v_out w_1)) w_1) [(.slice none 0 0), (.int .i64 0)] w
theorem eq80 (v_b : Value) (Q : Value → World → Prop) (w : World) : semF Tryz.prog 80 [v_b] Q w = S80 v_b Q w := by kernel_rfl
theorem ref80 {v_b : Value} {Q : Value → World → Prop} {w : World} (h : S80 v_b Q w) : callS Tryz.prog 80 #[v_b] Q w :=
  callS_of mix (fun a w => Tryz.call80 a w) (by kernel_rfl) (by rw [eq80]; exact h)
-- (*commons/commonsbook.Book).growSteps
def S81 (v_b : Value) (Q : Value → World → Prop) (w : World) : Prop :=
 lp 2 (fun J => fun v_out v_i w_1 => ∀ _j : Fr, 
  pur Tryz.prog (nilV v_b) fun t9 => 
  pur Tryz.prog (Instr.fieldAt 43 t9 28) fun t10 => 
  rd Tryz.prog (Instr.loadAt 41 t10) (fun t11 => 
  pur Tryz.prog (Builtin.len_ #[41] 3 #[t11]) fun t12 => 
  pur Tryz.prog (binS .lss 3 false false v_i t12) fun t13 => 
  condS t13
   (pur Tryz.prog (nilV v_b) fun t17 => 
  pur Tryz.prog (Instr.fieldAt 43 t17 28) fun t18 => 
  rd Tryz.prog (Instr.loadAt 41 t18) (fun t19 => 
  pur Tryz.prog (Instr.indexAt 41 t19 v_i) fun t21 => 
  rd Tryz.prog (Instr.loadAt 158 t21) (fun t22 => 
  lp 2 (fun J_1 => fun v_l v_n w_2 => ∀ _j : Fr, 
   pur Tryz.prog (binS .lss 3 false true v_n (.int .i64 12)) fun t24 => 
   condS t24
    (pur Tryz.prog (Builtin.len_ #[158] 3 #[v_l]) fun t30 => 
   callS Tryz.prog 122 #[v_i, t30, (.int .i64 1)] (fun t31 w_3 => 
   act Tryz.prog (Builtin.append_ #[158, 158] 158 #[v_l, t31]) (fun t32 w_4 => 
   pur Tryz.prog (binS .add 3 false true v_n (.int .i64 1)) fun t26 => 
   J_1 t32 t26 w_4) w_3) w_2)
    (pur Tryz.prog (Builtin.len_ #[158] 3 #[v_l]) fun t37 => 
  callS Tryz.prog 122 #[v_i, t37, (.int .i64 60)] (fun t38 w_5 => 
  act Tryz.prog (Builtin.append_ #[158, 158] 158 #[v_l, t38]) (fun t39 w_6 => 
  act Tryz.prog (Instr.buildSlice 41 1 #[(0, t39)]) (fun t40 w_7 => 
  act Tryz.prog (Builtin.append_ #[41, 41] 41 #[v_out, t40]) (fun t41 w_8 => 
  pur Tryz.prog (binS .add 3 false true v_i (.int .i64 1)) fun t15 => 
  J t41 t15 w_8) w_7) w_6) w_5) w_2)) [t22, (.int .i64 0)] w_1) w_1) w_1)
   (Q v_out w_1)) w_1) [(.slice none 0 0), (.int .i64 0)] w
theorem eq81 (v_b : Value) (Q : Value → World → Prop) (w : World) : semF Tryz.prog 81 [v_b] Q w = S81 v_b Q w := by kernel_rfl
theorem ref81 {v_b : Value} {Q : Value → World → Prop} {w : World} (h : S81 v_b Q w) : callS Tryz.prog 81 #[v_b] Q w :=
  callS_of mix (fun a w => Tryz.call81 a w) (by kernel_rfl) (by rw [eq81]; exact h)
-- commons/commonsbook.markedTexts
def S82 (v_l : Value) (Q : Value → World → Prop) (w : World) : Prop :=
 lp 1 (fun J => fun v_i w_1 => ∀ _j : Fr, 
  pur Tryz.prog (Builtin.len_ #[27] 3 #[v_l]) fun t6 => 
  pur Tryz.prog (binS .lss 3 false false v_i t6) fun t7 => 
  condS t7
   (∃ S : World → Prop, S (World.drew w_1) ∧ 
  pur Tryz.prog (Instr.indexAt 27 v_l v_i) fun t12 => 
  hld Tryz.prog S (Instr.loadAt 135 t12) fun t13 => 
  pur Tryz.prog (Instr.indexAt 27 v_l v_i) fun t17 => 
  hld Tryz.prog S (Instr.loadAt 135 t17) fun t18 => 
  pur Tryz.prog (Builtin.len_ #[135] 3 #[t18]) fun t19 => 
  callS Tryz.prog 123 #[v_i, (.int .i64 0), t19] (fun t20 w_2 => S w_2 ∧ 
  callS Tryz.prog 107 #[t13, t20] (fun t21 w_3 => S w_3 ∧ 
  pur Tryz.prog (Op.unary .not t21) fun t22 => 
  condS t22
   (Q (.bool false) w_3)
   (pur Tryz.prog (binS .add 3 false true v_i (.int .i64 1)) fun t9 => 
  J t9 w_3)) w_2) (World.drew w_1))
   (Q (.bool true) w_1)) [(.int .i64 0)] w
theorem eq82 (v_l : Value) (Q : Value → World → Prop) (w : World) : semF Tryz.prog 82 [v_l] Q w = S82 v_l Q w := by kernel_rfl
theorem ref82 {v_l : Value} {Q : Value → World → Prop} {w : World} (h : S82 v_l Q w) : callS Tryz.prog 82 #[v_l] Q w :=
  callS_of mix (fun a w => Tryz.call82 a w) (by kernel_rfl) (by rw [eq82]; exact h)
-- commons/commonsbook.markedInts
def S83 (v_l : Value) (Q : Value → World → Prop) (w : World) : Prop :=
 lp 1 (fun J => fun v_i w_1 => ∀ _j : Fr, 
  pur Tryz.prog (Builtin.len_ #[28] 3 #[v_l]) fun t6 => 
  pur Tryz.prog (binS .lss 3 false false v_i t6) fun t7 => 
  condS t7
   (∃ S : World → Prop, S (World.drew w_1) ∧ 
  pur Tryz.prog (Instr.indexAt 28 v_l v_i) fun t12 => 
  hld Tryz.prog S (Instr.loadAt 86 t12) fun t13 => 
  pur Tryz.prog (Instr.indexAt 28 v_l v_i) fun t17 => 
  hld Tryz.prog S (Instr.loadAt 86 t17) fun t18 => 
  pur Tryz.prog (Builtin.len_ #[86] 3 #[t18]) fun t19 => 
  callS Tryz.prog 124 #[v_i, (.int .i64 0), t19] (fun t20 w_2 => S w_2 ∧ 
  callS Tryz.prog 108 #[t13, t20] (fun t21 w_3 => S w_3 ∧ 
  pur Tryz.prog (Op.unary .not t21) fun t22 => 
  condS t22
   (Q (.bool false) w_3)
   (pur Tryz.prog (binS .add 3 false true v_i (.int .i64 1)) fun t9 => 
  J t9 w_3)) w_2) (World.drew w_1))
   (Q (.bool true) w_1)) [(.int .i64 0)] w
theorem eq83 (v_l : Value) (Q : Value → World → Prop) (w : World) : semF Tryz.prog 83 [v_l] Q w = S83 v_l Q w := by kernel_rfl
theorem ref83 {v_l : Value} {Q : Value → World → Prop} {w : World} (h : S83 v_l Q w) : callS Tryz.prog 83 #[v_l] Q w :=
  callS_of mix (fun a w => Tryz.call83 a w) (by kernel_rfl) (by rw [eq83]; exact h)
-- commons/commonsbook.markedNums
def S84 (v_l : Value) (Q : Value → World → Prop) (w : World) : Prop :=
 lp 1 (fun J => fun v_i w_1 => ∀ _j : Fr, 
  pur Tryz.prog (Builtin.len_ #[29] 3 #[v_l]) fun t6 => 
  pur Tryz.prog (binS .lss 3 false false v_i t6) fun t7 => 
  condS t7
   (∃ S : World → Prop, S (World.drew w_1) ∧ 
  pur Tryz.prog (Instr.indexAt 29 v_l v_i) fun t12 => 
  hld Tryz.prog S (Instr.loadAt 23 t12) fun t13 => 
  pur Tryz.prog (Instr.indexAt 29 v_l v_i) fun t17 => 
  hld Tryz.prog S (Instr.loadAt 23 t17) fun t18 => 
  pur Tryz.prog (Builtin.len_ #[23] 3 #[t18]) fun t19 => 
  callS Tryz.prog 125 #[v_i, (.int .i64 0), t19] (fun t20 w_2 => S w_2 ∧ 
  callS Tryz.prog 11 #[t13, t20] (fun t21 w_3 => S w_3 ∧ 
  pur Tryz.prog (Op.unary .not t21) fun t22 => 
  condS t22
   (Q (.bool false) w_3)
   (pur Tryz.prog (binS .add 3 false true v_i (.int .i64 1)) fun t9 => 
  J t9 w_3)) w_2) (World.drew w_1))
   (Q (.bool true) w_1)) [(.int .i64 0)] w
theorem eq84 (v_l : Value) (Q : Value → World → Prop) (w : World) : semF Tryz.prog 84 [v_l] Q w = S84 v_l Q w := by kernel_rfl
theorem ref84 {v_l : Value} {Q : Value → World → Prop} {w : World} (h : S84 v_l Q w) : callS Tryz.prog 84 #[v_l] Q w :=
  callS_of mix (fun a w => Tryz.call84 a w) (by kernel_rfl) (by rw [eq84]; exact h)
-- commons/commonsbook.markedSpans
def S85 (v_l : Value) (Q : Value → World → Prop) (w : World) : Prop :=
 lp 1 (fun J => fun v_i w_1 => ∀ _j : Fr, 
  pur Tryz.prog (Builtin.len_ #[30] 3 #[v_l]) fun t6 => 
  pur Tryz.prog (binS .lss 3 false false v_i t6) fun t7 => 
  condS t7
   (∃ S : World → Prop, S (World.drew w_1) ∧ 
  pur Tryz.prog (Instr.indexAt 30 v_l v_i) fun t12 => 
  hld Tryz.prog S (Instr.loadAt 138 t12) fun t13 => 
  pur Tryz.prog (Instr.indexAt 30 v_l v_i) fun t17 => 
  hld Tryz.prog S (Instr.loadAt 138 t17) fun t18 => 
  pur Tryz.prog (Builtin.len_ #[138] 3 #[t18]) fun t19 => 
  callS Tryz.prog 126 #[v_i, (.int .i64 0), t19] (fun t20 w_2 => S w_2 ∧ 
  callS Tryz.prog 109 #[t13, t20] (fun t21 w_3 => S w_3 ∧ 
  pur Tryz.prog (Op.unary .not t21) fun t22 => 
  condS t22
   (Q (.bool false) w_3)
   (pur Tryz.prog (binS .add 3 false true v_i (.int .i64 1)) fun t9 => 
  J t9 w_3)) w_2) (World.drew w_1))
   (Q (.bool true) w_1)) [(.int .i64 0)] w
theorem eq85 (v_l : Value) (Q : Value → World → Prop) (w : World) : semF Tryz.prog 85 [v_l] Q w = S85 v_l Q w := by kernel_rfl
theorem ref85 {v_l : Value} {Q : Value → World → Prop} {w : World} (h : S85 v_l Q w) : callS Tryz.prog 85 #[v_l] Q w :=
  callS_of mix (fun a w => Tryz.call85 a w) (by kernel_rfl) (by rw [eq85]; exact h)
-- commons/commonsbook.markedLocks
def S86 (v_l : Value) (Q : Value → World → Prop) (w : World) : Prop :=
 lp 1 (fun J => fun v_i w_1 => ∀ _j : Fr, 
  pur Tryz.prog (Builtin.len_ #[31] 3 #[v_l]) fun t6 => 
  pur Tryz.prog (binS .lss 3 false false v_i t6) fun t7 => 
  condS t7
   (∃ S : World → Prop, S (World.drew w_1) ∧ 
  pur Tryz.prog (Instr.indexAt 31 v_l v_i) fun t12 => 
  hld Tryz.prog S (Instr.loadAt 140 t12) fun t13 => 
  pur Tryz.prog (Instr.indexAt 31 v_l v_i) fun t17 => 
  hld Tryz.prog S (Instr.loadAt 140 t17) fun t18 => 
  pur Tryz.prog (Builtin.len_ #[140] 3 #[t18]) fun t19 => 
  callS Tryz.prog 127 #[v_i, (.int .i64 0), t19] (fun t20 w_2 => S w_2 ∧ 
  callS Tryz.prog 110 #[t13, t20] (fun t21 w_3 => S w_3 ∧ 
  pur Tryz.prog (Op.unary .not t21) fun t22 => 
  condS t22
   (Q (.bool false) w_3)
   (pur Tryz.prog (binS .add 3 false true v_i (.int .i64 1)) fun t9 => 
  J t9 w_3)) w_2) (World.drew w_1))
   (Q (.bool true) w_1)) [(.int .i64 0)] w
theorem eq86 (v_l : Value) (Q : Value → World → Prop) (w : World) : semF Tryz.prog 86 [v_l] Q w = S86 v_l Q w := by kernel_rfl
theorem ref86 {v_l : Value} {Q : Value → World → Prop} {w : World} (h : S86 v_l Q w) : callS Tryz.prog 86 #[v_l] Q w :=
  callS_of mix (fun a w => Tryz.call86 a w) (by kernel_rfl) (by rw [eq86]; exact h)
-- commons/commonsbook.markedImages
def S87 (v_l : Value) (Q : Value → World → Prop) (w : World) : Prop :=
 lp 1 (fun J => fun v_i w_1 => ∀ _j : Fr, 
  pur Tryz.prog (Builtin.len_ #[32] 3 #[v_l]) fun t6 => 
  pur Tryz.prog (binS .lss 3 false false v_i t6) fun t7 => 
  condS t7
   (∃ S : World → Prop, S (World.drew w_1) ∧ 
  pur Tryz.prog (Instr.indexAt 32 v_l v_i) fun t12 => 
  hld Tryz.prog S (Instr.loadAt 53 t12) fun t13 => 
  pur Tryz.prog (Instr.indexAt 32 v_l v_i) fun t17 => 
  hld Tryz.prog S (Instr.loadAt 53 t17) fun t18 => 
  pur Tryz.prog (Builtin.len_ #[53] 3 #[t18]) fun t19 => 
  callS Tryz.prog 128 #[v_i, (.int .i64 0), t19] (fun t20 w_2 => S w_2 ∧ 
  callS Tryz.prog 15 #[t13, t20] (fun t21 w_3 => S w_3 ∧ 
  pur Tryz.prog (Op.unary .not t21) fun t22 => 
  condS t22
   (Q (.bool false) w_3)
   (pur Tryz.prog (binS .add 3 false true v_i (.int .i64 1)) fun t9 => 
  J t9 w_3)) w_2) (World.drew w_1))
   (Q (.bool true) w_1)) [(.int .i64 0)] w
theorem eq87 (v_l : Value) (Q : Value → World → Prop) (w : World) : semF Tryz.prog 87 [v_l] Q w = S87 v_l Q w := by kernel_rfl
theorem ref87 {v_l : Value} {Q : Value → World → Prop} {w : World} (h : S87 v_l Q w) : callS Tryz.prog 87 #[v_l] Q w :=
  callS_of mix (fun a w => Tryz.call87 a w) (by kernel_rfl) (by rw [eq87]; exact h)
-- commons/commonsbook.markedRecords
def S88 (v_l : Value) (Q : Value → World → Prop) (w : World) : Prop :=
 lp 1 (fun J => fun v_i w_1 => ∀ _j : Fr, 
  pur Tryz.prog (Builtin.len_ #[33] 3 #[v_l]) fun t6 => 
  pur Tryz.prog (binS .lss 3 false false v_i t6) fun t7 => 
  condS t7
   (∃ S : World → Prop, S (World.drew w_1) ∧ 
  pur Tryz.prog (Instr.indexAt 33 v_l v_i) fun t12 => 
  hld Tryz.prog S (Instr.loadAt 142 t12) fun t13 => 
  pur Tryz.prog (Instr.indexAt 33 v_l v_i) fun t17 => 
  hld Tryz.prog S (Instr.loadAt 142 t17) fun t18 => 
  pur Tryz.prog (Builtin.len_ #[142] 3 #[t18]) fun t19 => 
  callS Tryz.prog 120 #[v_i, (.int .i64 0), t19] (fun t20 w_2 => S w_2 ∧ 
  callS Tryz.prog 111 #[t13, t20] (fun t21 w_3 => S w_3 ∧ 
  pur Tryz.prog (Op.unary .not t21) fun t22 => 
  condS t22
   (Q (.bool false) w_3)
   (pur Tryz.prog (binS .add 3 false true v_i (.int .i64 1)) fun t9 => 
  J t9 w_3)) w_2) (World.drew w_1))
   (Q (.bool true) w_1)) [(.int .i64 0)] w
theorem eq88 (v_l : Value) (Q : Value → World → Prop) (w : World) : semF Tryz.prog 88 [v_l] Q w = S88 v_l Q w := by kernel_rfl
theorem ref88 {v_l : Value} {Q : Value → World → Prop} {w : World} (h : S88 v_l Q w) : callS Tryz.prog 88 #[v_l] Q w :=
  callS_of mix (fun a w => Tryz.call88 a w) (by kernel_rfl) (by rw [eq88]; exact h)
-- commons/commonsbook.markedPackets
def S89 (v_l : Value) (Q : Value → World → Prop) (w : World) : Prop :=
 lp 1 (fun J => fun v_i w_1 => ∀ _j : Fr, 
  pur Tryz.prog (Builtin.len_ #[34] 3 #[v_l]) fun t6 => 
  pur Tryz.prog (binS .lss 3 false false v_i t6) fun t7 => 
  condS t7
   (∃ S : World → Prop, S (World.drew w_1) ∧ 
  pur Tryz.prog (Instr.indexAt 34 v_l v_i) fun t12 => 
  hld Tryz.prog S (Instr.loadAt 144 t12) fun t13 => 
  pur Tryz.prog (Instr.indexAt 34 v_l v_i) fun t17 => 
  hld Tryz.prog S (Instr.loadAt 144 t17) fun t18 => 
  pur Tryz.prog (Builtin.len_ #[144] 3 #[t18]) fun t19 => 
  callS Tryz.prog 129 #[v_i, (.int .i64 0), t19] (fun t20 w_2 => S w_2 ∧ 
  callS Tryz.prog 112 #[t13, t20] (fun t21 w_3 => S w_3 ∧ 
  pur Tryz.prog (Op.unary .not t21) fun t22 => 
  condS t22
   (Q (.bool false) w_3)
   (pur Tryz.prog (binS .add 3 false true v_i (.int .i64 1)) fun t9 => 
  J t9 w_3)) w_2) (World.drew w_1))
   (Q (.bool true) w_1)) [(.int .i64 0)] w
theorem eq89 (v_l : Value) (Q : Value → World → Prop) (w : World) : semF Tryz.prog 89 [v_l] Q w = S89 v_l Q w := by kernel_rfl
theorem ref89 {v_l : Value} {Q : Value → World → Prop} {w : World} (h : S89 v_l Q w) : callS Tryz.prog 89 #[v_l] Q w :=
  callS_of mix (fun a w => Tryz.call89 a w) (by kernel_rfl) (by rw [eq89]; exact h)
-- commons/commonsbook.markedFrames
def S90 (v_l : Value) (Q : Value → World → Prop) (w : World) : Prop :=
 lp 1 (fun J => fun v_i w_1 => ∀ _j : Fr, 
  pur Tryz.prog (Builtin.len_ #[35] 3 #[v_l]) fun t6 => 
  pur Tryz.prog (binS .lss 3 false false v_i t6) fun t7 => 
  condS t7
   (∃ S : World → Prop, S (World.drew w_1) ∧ 
  pur Tryz.prog (Instr.indexAt 35 v_l v_i) fun t12 => 
  hld Tryz.prog S (Instr.loadAt 146 t12) fun t13 => 
  pur Tryz.prog (Instr.indexAt 35 v_l v_i) fun t17 => 
  hld Tryz.prog S (Instr.loadAt 146 t17) fun t18 => 
  pur Tryz.prog (Builtin.len_ #[146] 3 #[t18]) fun t19 => 
  callS Tryz.prog 130 #[v_i, (.int .i64 0), t19] (fun t20 w_2 => S w_2 ∧ 
  callS Tryz.prog 113 #[t13, t20] (fun t21 w_3 => S w_3 ∧ 
  pur Tryz.prog (Op.unary .not t21) fun t22 => 
  condS t22
   (Q (.bool false) w_3)
   (pur Tryz.prog (binS .add 3 false true v_i (.int .i64 1)) fun t9 => 
  J t9 w_3)) w_2) (World.drew w_1))
   (Q (.bool true) w_1)) [(.int .i64 0)] w
theorem eq90 (v_l : Value) (Q : Value → World → Prop) (w : World) : semF Tryz.prog 90 [v_l] Q w = S90 v_l Q w := by kernel_rfl
theorem ref90 {v_l : Value} {Q : Value → World → Prop} {w : World} (h : S90 v_l Q w) : callS Tryz.prog 90 #[v_l] Q w :=
  callS_of mix (fun a w => Tryz.call90 a w) (by kernel_rfl) (by rw [eq90]; exact h)
-- commons/commonsbook.markedWaits
def S91 (v_l : Value) (Q : Value → World → Prop) (w : World) : Prop :=
 lp 1 (fun J => fun v_i w_1 => ∀ _j : Fr, 
  pur Tryz.prog (Builtin.len_ #[36] 3 #[v_l]) fun t6 => 
  pur Tryz.prog (binS .lss 3 false false v_i t6) fun t7 => 
  condS t7
   (∃ S : World → Prop, S (World.drew w_1) ∧ 
  pur Tryz.prog (Instr.indexAt 36 v_l v_i) fun t12 => 
  hld Tryz.prog S (Instr.loadAt 148 t12) fun t13 => 
  pur Tryz.prog (Instr.indexAt 36 v_l v_i) fun t17 => 
  hld Tryz.prog S (Instr.loadAt 148 t17) fun t18 => 
  pur Tryz.prog (Builtin.len_ #[148] 3 #[t18]) fun t19 => 
  callS Tryz.prog 131 #[v_i, (.int .i64 0), t19] (fun t20 w_2 => S w_2 ∧ 
  callS Tryz.prog 114 #[t13, t20] (fun t21 w_3 => S w_3 ∧ 
  pur Tryz.prog (Op.unary .not t21) fun t22 => 
  condS t22
   (Q (.bool false) w_3)
   (pur Tryz.prog (binS .add 3 false true v_i (.int .i64 1)) fun t9 => 
  J t9 w_3)) w_2) (World.drew w_1))
   (Q (.bool true) w_1)) [(.int .i64 0)] w
theorem eq91 (v_l : Value) (Q : Value → World → Prop) (w : World) : semF Tryz.prog 91 [v_l] Q w = S91 v_l Q w := by kernel_rfl
theorem ref91 {v_l : Value} {Q : Value → World → Prop} {w : World} (h : S91 v_l Q w) : callS Tryz.prog 91 #[v_l] Q w :=
  callS_of mix (fun a w => Tryz.call91 a w) (by kernel_rfl) (by rw [eq91]; exact h)
-- commons/commonsbook.markedRevokes
def S92 (v_l : Value) (Q : Value → World → Prop) (w : World) : Prop :=
 lp 1 (fun J => fun v_i w_1 => ∀ _j : Fr, 
  pur Tryz.prog (Builtin.len_ #[37] 3 #[v_l]) fun t6 => 
  pur Tryz.prog (binS .lss 3 false false v_i t6) fun t7 => 
  condS t7
   (∃ S : World → Prop, S (World.drew w_1) ∧ 
  pur Tryz.prog (Instr.indexAt 37 v_l v_i) fun t12 => 
  hld Tryz.prog S (Instr.loadAt 150 t12) fun t13 => 
  pur Tryz.prog (Instr.indexAt 37 v_l v_i) fun t17 => 
  hld Tryz.prog S (Instr.loadAt 150 t17) fun t18 => 
  pur Tryz.prog (Builtin.len_ #[150] 3 #[t18]) fun t19 => 
  callS Tryz.prog 132 #[v_i, (.int .i64 0), t19] (fun t20 w_2 => S w_2 ∧ 
  callS Tryz.prog 115 #[t13, t20] (fun t21 w_3 => S w_3 ∧ 
  pur Tryz.prog (Op.unary .not t21) fun t22 => 
  condS t22
   (Q (.bool false) w_3)
   (pur Tryz.prog (binS .add 3 false true v_i (.int .i64 1)) fun t9 => 
  J t9 w_3)) w_2) (World.drew w_1))
   (Q (.bool true) w_1)) [(.int .i64 0)] w
theorem eq92 (v_l : Value) (Q : Value → World → Prop) (w : World) : semF Tryz.prog 92 [v_l] Q w = S92 v_l Q w := by kernel_rfl
theorem ref92 {v_l : Value} {Q : Value → World → Prop} {w : World} (h : S92 v_l Q w) : callS Tryz.prog 92 #[v_l] Q w :=
  callS_of mix (fun a w => Tryz.call92 a w) (by kernel_rfl) (by rw [eq92]; exact h)
-- commons/commonsbook.markedEntries
def S93 (v_l : Value) (Q : Value → World → Prop) (w : World) : Prop :=
 lp 1 (fun J => fun v_i w_1 => ∀ _j : Fr, 
  pur Tryz.prog (Builtin.len_ #[38] 3 #[v_l]) fun t6 => 
  pur Tryz.prog (binS .lss 3 false false v_i t6) fun t7 => 
  condS t7
   (∃ S : World → Prop, S (World.drew w_1) ∧ 
  pur Tryz.prog (Instr.indexAt 38 v_l v_i) fun t12 => 
  hld Tryz.prog S (Instr.loadAt 152 t12) fun t13 => 
  pur Tryz.prog (Instr.indexAt 38 v_l v_i) fun t17 => 
  hld Tryz.prog S (Instr.loadAt 152 t17) fun t18 => 
  pur Tryz.prog (Builtin.len_ #[152] 3 #[t18]) fun t19 => 
  callS Tryz.prog 133 #[v_i, (.int .i64 0), t19] (fun t20 w_2 => S w_2 ∧ 
  callS Tryz.prog 116 #[t13, t20] (fun t21 w_3 => S w_3 ∧ 
  pur Tryz.prog (Op.unary .not t21) fun t22 => 
  condS t22
   (Q (.bool false) w_3)
   (pur Tryz.prog (binS .add 3 false true v_i (.int .i64 1)) fun t9 => 
  J t9 w_3)) w_2) (World.drew w_1))
   (Q (.bool true) w_1)) [(.int .i64 0)] w
theorem eq93 (v_l : Value) (Q : Value → World → Prop) (w : World) : semF Tryz.prog 93 [v_l] Q w = S93 v_l Q w := by kernel_rfl
theorem ref93 {v_l : Value} {Q : Value → World → Prop} {w : World} (h : S93 v_l Q w) : callS Tryz.prog 93 #[v_l] Q w :=
  callS_of mix (fun a w => Tryz.call93 a w) (by kernel_rfl) (by rw [eq93]; exact h)
-- commons/commonsbook.markedParts
def S94 (v_l : Value) (Q : Value → World → Prop) (w : World) : Prop :=
 lp 1 (fun J => fun v_i w_1 => ∀ _j : Fr, 
  pur Tryz.prog (Builtin.len_ #[39] 3 #[v_l]) fun t6 => 
  pur Tryz.prog (binS .lss 3 false false v_i t6) fun t7 => 
  condS t7
   (∃ S : World → Prop, S (World.drew w_1) ∧ 
  pur Tryz.prog (Instr.indexAt 39 v_l v_i) fun t12 => 
  hld Tryz.prog S (Instr.loadAt 154 t12) fun t13 => 
  pur Tryz.prog (Instr.indexAt 39 v_l v_i) fun t17 => 
  hld Tryz.prog S (Instr.loadAt 154 t17) fun t18 => 
  pur Tryz.prog (Builtin.len_ #[154] 3 #[t18]) fun t19 => 
  callS Tryz.prog 134 #[v_i, (.int .i64 0), t19] (fun t20 w_2 => S w_2 ∧ 
  callS Tryz.prog 117 #[t13, t20] (fun t21 w_3 => S w_3 ∧ 
  pur Tryz.prog (Op.unary .not t21) fun t22 => 
  condS t22
   (Q (.bool false) w_3)
   (pur Tryz.prog (binS .add 3 false true v_i (.int .i64 1)) fun t9 => 
  J t9 w_3)) w_2) (World.drew w_1))
   (Q (.bool true) w_1)) [(.int .i64 0)] w
theorem eq94 (v_l : Value) (Q : Value → World → Prop) (w : World) : semF Tryz.prog 94 [v_l] Q w = S94 v_l Q w := by kernel_rfl
theorem ref94 {v_l : Value} {Q : Value → World → Prop} {w : World} (h : S94 v_l Q w) : callS Tryz.prog 94 #[v_l] Q w :=
  callS_of mix (fun a w => Tryz.call94 a w) (by kernel_rfl) (by rw [eq94]; exact h)
-- commons/commonsbook.markedMsgs
def S95 (v_l : Value) (Q : Value → World → Prop) (w : World) : Prop :=
 lp 1 (fun J => fun v_i w_1 => ∀ _j : Fr, 
  pur Tryz.prog (Builtin.len_ #[40] 3 #[v_l]) fun t6 => 
  pur Tryz.prog (binS .lss 3 false false v_i t6) fun t7 => 
  condS t7
   (∃ S : World → Prop, S (World.drew w_1) ∧ 
  pur Tryz.prog (Instr.indexAt 40 v_l v_i) fun t12 => 
  hld Tryz.prog S (Instr.loadAt 156 t12) fun t13 => 
  pur Tryz.prog (Instr.indexAt 40 v_l v_i) fun t17 => 
  hld Tryz.prog S (Instr.loadAt 156 t17) fun t18 => 
  pur Tryz.prog (Builtin.len_ #[156] 3 #[t18]) fun t19 => 
  callS Tryz.prog 121 #[v_i, (.int .i64 0), t19] (fun t20 w_2 => S w_2 ∧ 
  callS Tryz.prog 118 #[t13, t20] (fun t21 w_3 => S w_3 ∧ 
  pur Tryz.prog (Op.unary .not t21) fun t22 => 
  condS t22
   (Q (.bool false) w_3)
   (pur Tryz.prog (binS .add 3 false true v_i (.int .i64 1)) fun t9 => 
  J t9 w_3)) w_2) (World.drew w_1))
   (Q (.bool true) w_1)) [(.int .i64 0)] w
theorem eq95 (v_l : Value) (Q : Value → World → Prop) (w : World) : semF Tryz.prog 95 [v_l] Q w = S95 v_l Q w := by kernel_rfl
theorem ref95 {v_l : Value} {Q : Value → World → Prop} {w : World} (h : S95 v_l Q w) : callS Tryz.prog 95 #[v_l] Q w :=
  callS_of mix (fun a w => Tryz.call95 a w) (by kernel_rfl) (by rw [eq95]; exact h)
-- commons/commonsbook.markedSteps
def S96 (v_l : Value) (Q : Value → World → Prop) (w : World) : Prop :=
 lp 1 (fun J => fun v_i w_1 => ∀ _j : Fr, 
  pur Tryz.prog (Builtin.len_ #[41] 3 #[v_l]) fun t6 => 
  pur Tryz.prog (binS .lss 3 false false v_i t6) fun t7 => 
  condS t7
   (∃ S : World → Prop, S (World.drew w_1) ∧ 
  pur Tryz.prog (Instr.indexAt 41 v_l v_i) fun t12 => 
  hld Tryz.prog S (Instr.loadAt 158 t12) fun t13 => 
  pur Tryz.prog (Instr.indexAt 41 v_l v_i) fun t17 => 
  hld Tryz.prog S (Instr.loadAt 158 t17) fun t18 => 
  pur Tryz.prog (Builtin.len_ #[158] 3 #[t18]) fun t19 => 
  callS Tryz.prog 122 #[v_i, (.int .i64 0), t19] (fun t20 w_2 => S w_2 ∧ 
  callS Tryz.prog 119 #[t13, t20] (fun t21 w_3 => S w_3 ∧ 
  pur Tryz.prog (Op.unary .not t21) fun t22 => 
  condS t22
   (Q (.bool false) w_3)
   (pur Tryz.prog (binS .add 3 false true v_i (.int .i64 1)) fun t9 => 
  J t9 w_3)) w_2) (World.drew w_1))
   (Q (.bool true) w_1)) [(.int .i64 0)] w
theorem eq96 (v_l : Value) (Q : Value → World → Prop) (w : World) : semF Tryz.prog 96 [v_l] Q w = S96 v_l Q w := by kernel_rfl
theorem ref96 {v_l : Value} {Q : Value → World → Prop} {w : World} (h : S96 v_l Q w) : callS Tryz.prog 96 #[v_l] Q w :=
  callS_of mix (fun a w => Tryz.call96 a w) (by kernel_rfl) (by rw [eq96]; exact h)
-- commons/commonsbook.Room
def S97 (v_left v_sizes : Value) (Q : Value → World → Prop) (w : World) : Prop :=
 lp 2 (fun J => fun v_left_1 v_i w_1 => ∀ _j : Fr, 
  pur Tryz.prog (Builtin.len_ #[86] 3 #[v_sizes]) fun t8 => 
  pur Tryz.prog (binS .lss 3 false false v_i t8) fun t9 => 
  condS t9
   (pur Tryz.prog (binS .lss 3 false true v_left_1 (.int .i64 0)) fun t13 => 
  gd t13 false (fun k w_2 => k v_sizes w_2) (fun t15_1 w_3 => 
  gd t13 false (fun k_1 w_4 => k_1 v_i w_4) (fun t16_1 w_5 => 
  gd t13 false (fun k_2 w_6 => pur Tryz.prog (Instr.indexAt 86 t15_1 t16_1) fun t17 => k_2 t17 w_6) (fun t17_1 w_7 => 
  gd t13 false (fun k_3 w_8 => rd Tryz.prog (Instr.loadAt 3 t17_1) (fun t18 => k_3 t18 w_8) w_8) (fun t18_1 w_9 => 
  gd t13 false (fun k_4 w_10 => k_4 v_left_1 w_10) (fun t19_1 w_11 => 
  gd t13 false (fun k_5 w_12 => pur Tryz.prog (binS .gtr 3 false false t18_1 t19_1) fun t20 => k_5 t20 w_12) (fun t20_1 w_13 => 
  pur Tryz.prog (pickS t13 (.bool true) t20_1) fun t21 => 
  condS t21
   (Q (.int .i64 (-1)) w_13)
   (pur Tryz.prog (Instr.indexAt 86 v_sizes v_i) fun t25 => 
  rd Tryz.prog (Instr.loadAt 3 t25) (fun t26 => 
  pur Tryz.prog (binS .sub 3 false false v_left_1 t26) fun t27 => 
  pur Tryz.prog (binS .add 3 false true v_i (.int .i64 1)) fun t11 => 
  J t27 t11 w_13) w_13)) w_11) w_9) w_7) w_5) w_3) w_1)
   (Q v_left_1 w_1)) [v_left, (.int .i64 0)] w
theorem eq97 (v_left v_sizes : Value) (Q : Value → World → Prop) (w : World) : semF Tryz.prog 97 [v_left, v_sizes] Q w = S97 v_left v_sizes Q w := by kernel_rfl
theorem ref97 {v_left v_sizes : Value} {Q : Value → World → Prop} {w : World} (h : S97 v_left v_sizes Q w) : callS Tryz.prog 97 #[v_left, v_sizes] Q w :=
  callS_of mix (fun a w => Tryz.call97 a w) (by kernel_rfl) (by rw [eq97]; exact h)
-- slices.ContainsFunc[[]commons/api.Image,commons/api.Image]
def S98 (v_s v_f : Value) (Q : Value → World → Prop) (w : World) : Prop :=
 callS Tryz.prog 135 #[v_s, v_f] (fun t7 w_1 => 
 pur Tryz.prog (binS .geq 3 false true t7 (.int .i64 0)) fun t8 => 
 Q t8 w_1) w
theorem eq98 (v_s v_f : Value) (Q : Value → World → Prop) (w : World) : semF Tryz.prog 98 [v_s, v_f] Q w = S98 v_s v_f Q w := by kernel_rfl
theorem ref98 {v_s v_f : Value} {Q : Value → World → Prop} {w : World} (h : S98 v_s v_f Q w) : callS Tryz.prog 98 #[v_s, v_f] Q w :=
  callS_of mix (fun a w => Tryz.call98 a w) (by kernel_rfl) (by rw [eq98]; exact h)
-- (commons/hist.array).reads$1
def S99 (v_i t1 : Value) (Q : Value → World → Prop) (w : World) : Prop :=
 act Tryz.prog (Instr.box 69 v_i) (fun t2 w_1 => 
 rd Tryz.prog (Instr.loadAt 75 t1) (fun t7 => 
 pur Tryz.prog (Instr.fieldAt 69 t2 0) fun t8 => 
 rd Tryz.prog (Instr.loadAt 3 t8) (fun t9 => 
 rd Tryz.prog (Instr.lookup 75 t7 t9 true) (fun t10 => 
 pur Tryz.prog (Instr.extract t10 0) fun t11 => 
 pur Tryz.prog (Instr.extract t10 1) fun t12 => 
 jn 1 (fun J => 
  pur Tryz.prog (Op.unary .not t12) fun t14 => 
  condS t14
   (callS Tryz.prog 100 #[] (fun t15 w_2 => 
   J t15 w_2) w_1)
   (J t11 w_1))
 (fun v_s w_3 => ∀ _j : Fr, 
  pur Tryz.prog (Instr.fieldAt 69 t2 2) fun t17 => 
  rd Tryz.prog (Instr.loadAt 9 t17) (fun t18 => 
  pur Tryz.prog (binS .neq 9 false false v_s t18) fun t19 => 
  Q t19 w_3) w_3)) w_1) w_1) w_1) w
theorem eq99 (v_i t1 : Value) (Q : Value → World → Prop) (w : World) : semF Tryz.prog 99 [v_i, t1] Q w = S99 v_i t1 Q w := by kernel_rfl
theorem ref99 {v_i t1 : Value} {Q : Value → World → Prop} {w : World} (h : S99 v_i t1 Q w) : callS Tryz.prog 99 #[v_i, t1] Q w :=
  callS_of mix (fun a w => Tryz.call99 a w) (by kernel_rfl) (by rw [eq99]; exact h)
-- commons/hist.zero
def S100 (Q : Value → World → Prop) (w : World) : Prop :=
 callS Tryz.prog 136 #[(.string ⟨#[0]⟩), (.int .i64 96)] (fun t1 w_1 => 
 Q t1 w_1) w
theorem eq100 (Q : Value → World → Prop) (w : World) : semF Tryz.prog 100 [] Q w = S100 Q w := by kernel_rfl
theorem ref100 {Q : Value → World → Prop} {w : World} (h : S100 Q w) : callS Tryz.prog 100 #[] Q w :=
  callS_of mix (fun a w => Tryz.call100 a w) (by kernel_rfl) (by rw [eq100]; exact h)
-- slices.IndexFunc[[]commons/hist.Event,commons/hist.Event]
def S101 (v_s v_f : Value) (Q : Value → World → Prop) (w : World) : Prop :=
 pur Tryz.prog (Builtin.len_ #[22] 3 #[v_s]) fun t7 => 
 lp 1 (fun J => fun t8 w_1 => ∀ _j : Fr, 
  pur Tryz.prog (binS .lss 3 false false t8 t7) fun t9 => 
  condS t9
   (pur Tryz.prog (Instr.indexAt 22 v_s t8) fun t14 => 
  rd Tryz.prog (Instr.loadAt 66 t14) (fun t15 => 
  callF Tryz.prog v_f #[t15] (fun t16 w_2 => 
  condS t16
   (Q t8 w_2)
   (pur Tryz.prog (binS .add 3 false true t8 (.int .i64 1)) fun t18 => 
  J t18 w_2)) w_1) w_1)
   (Q (.int .i64 (-1)) w_1)) [(.int .i64 0)] w
theorem eq101 (v_s v_f : Value) (Q : Value → World → Prop) (w : World) : semF Tryz.prog 101 [v_s, v_f] Q w = S101 v_s v_f Q w := by kernel_rfl
theorem ref101 {v_s v_f : Value} {Q : Value → World → Prop} {w : World} (h : S101 v_s v_f Q w) : callS Tryz.prog 101 #[v_s, v_f] Q w :=
  callS_of mix (fun a w => Tryz.call101 a w) (by kernel_rfl) (by rw [eq101]; exact h)
-- commons/commonsref26.get
def S106 (v_a v_block : Value) (Q : Value → World → Prop) (w : World) : Prop :=
 lp 1 (fun J => fun v_i w_1 => ∀ _j : Fr, 
  pur Tryz.prog (Builtin.len_ #[53] 3 #[v_a]) fun t8 => 
  pur Tryz.prog (binS .lss 3 false false v_i t8) fun t9 => 
  condS t9
   (pur Tryz.prog (Instr.indexAt 53 v_a v_i) fun t14 => 
  pur Tryz.prog (Instr.fieldAt 69 t14 0) fun t15 => 
  rd Tryz.prog (Instr.loadAt 3 t15) (fun t16 => 
  pur Tryz.prog (binS .eql 3 false false t16 v_block) fun t18 => 
  condS t18
   (pur Tryz.prog (Instr.indexAt 53 v_a v_i) fun t21 => 
   pur Tryz.prog (Instr.fieldAt 69 t21 2) fun t22 => 
   rd Tryz.prog (Instr.loadAt 9 t22) (fun t23 => 
   Q t23 w_1) w_1)
   (pur Tryz.prog (binS .add 3 false true v_i (.int .i64 1)) fun t11 => 
  J t11 w_1)) w_1)
   (act Tryz.prog (Instr.makeSlice 67 (.int .i64 96) (.int .i64 96)) (fun t24 w_2 => 
 act Tryz.prog (convert 67 9 t24) (fun t25 w_3 => 
 Q t25 w_3) w_2) w_1)) [(.int .i64 0)] w
theorem eq106 (v_a v_block : Value) (Q : Value → World → Prop) (w : World) : semF Tryz.prog 106 [v_a, v_block] Q w = S106 v_a v_block Q w := by kernel_rfl
theorem ref106 {v_a v_block : Value} {Q : Value → World → Prop} {w : World} (h : S106 v_a v_block Q w) : callS Tryz.prog 106 #[v_a, v_block] Q w :=
  callS_of mix (fun a w => Tryz.call106 a w) (by kernel_rfl) (by rw [eq106]; exact h)
-- commons/commonsbook.markNums
def S125 (v_i v_from v_n : Value) (Q : Value → World → Prop) (w : World) : Prop :=
 lp 2 (fun J => fun v_out v_k w_1 => ∀ _j : Fr, 
  pur Tryz.prog (binS .add 3 false false v_from v_n) fun t13 => 
  pur Tryz.prog (binS .lss 3 false false v_k t13) fun t14 => 
  condS t14
   (pur Tryz.prog (binS .mul 3 true false (.int .i64 1000000) v_i) fun t19 => 
  pur Tryz.prog (binS .add 3 false false t19 v_k) fun t21 => 
  pur Tryz.prog (binS .add 3 false true t21 (.int .i64 7)) fun t22 => 
  pur Tryz.prog (convert 3 64 t22) fun t23 => 
  act Tryz.prog (Instr.buildSlice 23 1 #[(0, t23)]) (fun t24 w_2 => 
  act Tryz.prog (Builtin.append_ #[23, 23] 23 #[v_out, t24]) (fun t25 w_3 => 
  pur Tryz.prog (binS .add 3 false true v_k (.int .i64 1)) fun t16 => 
  J t25 t16 w_3) w_2) w_1)
   (Q v_out w_1)) [(.slice none 0 0), v_from] w
theorem eq125 (v_i v_from v_n : Value) (Q : Value → World → Prop) (w : World) : semF Tryz.prog 125 [v_i, v_from, v_n] Q w = S125 v_i v_from v_n Q w := by kernel_rfl
theorem ref125 {v_i v_from v_n : Value} {Q : Value → World → Prop} {w : World} (h : S125 v_i v_from v_n Q w) : callS Tryz.prog 125 #[v_i, v_from, v_n] Q w :=
  callS_of mix (fun a w => Tryz.call125 a w) (by kernel_rfl) (by rw [eq125]; exact h)
-- commons/commonsbook.markImages
def S128 (v_i v_from v_n : Value) (Q : Value → World → Prop) (w : World) : Prop :=
 lp 2 (fun J => fun v_out v_k w_1 => ∀ _j : Fr, 
  pur Tryz.prog (binS .add 3 false false v_from v_n) fun t13 => 
  pur Tryz.prog (binS .lss 3 false false v_k t13) fun t14 => 
  condS t14
   (pur Tryz.prog (binS .sub 3 true false (.int .i64 (-1)) v_i) fun t19 => 
  pur Tryz.prog (convert 3 64 v_k) fun t21 => 
  pur Tryz.prog (Instr.build 69 #[(0, t19), (1, t21)]) fun t22 => 
  act Tryz.prog (Instr.buildSlice 53 1 #[(0, t22)]) (fun t23 w_2 => 
  act Tryz.prog (Builtin.append_ #[53, 53] 53 #[v_out, t23]) (fun t24 w_3 => 
  pur Tryz.prog (binS .add 3 false true v_k (.int .i64 1)) fun t16 => 
  J t24 t16 w_3) w_2) w_1)
   (Q v_out w_1)) [(.slice none 0 0), v_from] w
theorem eq128 (v_i v_from v_n : Value) (Q : Value → World → Prop) (w : World) : semF Tryz.prog 128 [v_i, v_from, v_n] Q w = S128 v_i v_from v_n Q w := by kernel_rfl
theorem ref128 {v_i v_from v_n : Value} {Q : Value → World → Prop} {w : World} (h : S128 v_i v_from v_n Q w) : callS Tryz.prog 128 #[v_i, v_from, v_n] Q w :=
  callS_of mix (fun a w => Tryz.call128 a w) (by kernel_rfl) (by rw [eq128]; exact h)
-- slices.IndexFunc[[]commons/api.Image,commons/api.Image]
def S135 (v_s v_f : Value) (Q : Value → World → Prop) (w : World) : Prop :=
 pur Tryz.prog (Builtin.len_ #[53] 3 #[v_s]) fun t7 => 
 lp 1 (fun J => fun t8 w_1 => ∀ _j : Fr, 
  pur Tryz.prog (binS .lss 3 false false t8 t7) fun t9 => 
  condS t9
   (pur Tryz.prog (Instr.indexAt 53 v_s t8) fun t14 => 
  rd Tryz.prog (Instr.loadAt 69 t14) (fun t15 => 
  callF Tryz.prog v_f #[t15] (fun t16 w_2 => 
  condS t16
   (Q t8 w_2)
   (pur Tryz.prog (binS .add 3 false true t8 (.int .i64 1)) fun t18 => 
  J t18 w_2)) w_1) w_1)
   (Q (.int .i64 (-1)) w_1)) [(.int .i64 0)] w
theorem eq135 (v_s v_f : Value) (Q : Value → World → Prop) (w : World) : semF Tryz.prog 135 [v_s, v_f] Q w = S135 v_s v_f Q w := by kernel_rfl
theorem ref135 {v_s v_f : Value} {Q : Value → World → Prop} {w : World} (h : S135 v_s v_f Q w) : callS Tryz.prog 135 #[v_s, v_f] Q w :=
  callS_of mix (fun a w => Tryz.call135 a w) (by kernel_rfl) (by rw [eq135]; exact h)
end Go.Proofs.YtmmnifbponhhfaaGreatT
