/- The readings of the functions' code, printed by a program, each held equal to the one that is computed: for all arguments, all worlds.
   Conditions: none. -/
import Derived.Test.YtalkoelpibiboaaShC
import Derived.Test.YtalkoelpibiboaaProg
import Derived.KernelRfl
set_option linter.unusedSimpArgs false
set_option linter.unusedVariables false
namespace Go.Proofs.Ytalkoelpibiboaa
open Go.Sh
set_option maxRecDepth 100000
theorem mix : Try.prog.follows .mixedOrders = true := by kernel_rfl

-- gosem.cut.init
def S2 (Q : Value → World → Prop) (w : World) : Prop :=
 callS Try.prog 1 #[] (fun _ w_1 => 
 Q (.tuple #[]) w_1) w
theorem eq2 (Q : Value → World → Prop) (w : World) : semF Try.prog 2 [] Q w = S2 Q w := by kernel_rfl
theorem ref2 {Q : Value → World → Prop} {w : World} (h : S2 Q w) : callS Try.prog 2 #[] Q w :=
  callS_of mix (fun a w => Try.call2 a w) (by kernel_rfl) (by rw [eq2]; exact h)
-- commons/commonslaw6.SpanFew
def S3 (v_l v_block : Value) (Q : Value → World → Prop) (w : World) : Prop :=
 pur Try.prog (Builtin.len_ #[22] 3 #[v_l]) fun t12 => 
 pur Try.prog (binS .gtr 3 false true t12 (.int .i64 60)) fun t13 => 
 condS t13
  (callS Try.prog 7 #[] (fun t14 w_1 => 
  Q t14 w_1) w)
  (callS Try.prog 8 #[v_l] (fun t16 w_2 => 
 lp 2 (fun J => fun v_in v_i w_3 => ∀ _j : Fr, 
  pur Try.prog (Builtin.len_ #[22] 3 #[t16]) fun t19 => 
  pur Try.prog (binS .lss 3 false false v_i t19) fun t20 => 
  condS t20
   (pur Try.prog (Instr.indexAt 22 t16 v_i) fun t25 => 
  rd Try.prog (Instr.loadAt 27 t25) (fun t26 => 
  callS Try.prog 9 #[t26] (fun t27 w_4 => 
  pur Try.prog (Op.unary .not t27) fun t28 => 
  gd t28 false (fun k w_5 => k v_i w_5) (fun t30_1 w_6 => 
  gd t28 false (fun k_1 w_7 => pur Try.prog (binS .gtr 3 false true t30_1 (.int .i64 0)) fun t31 => k_1 t31 w_7) (fun t31_1 w_8 => 
  gd t28 false (fun k_2 w_9 => k_2 t31_1 w_9) (fun t32_1 w_10 => 
  gd t32_1 true (fun k_3 w_11 => k_3 t16 w_11) (fun t33_1 w_12 => 
  gd t32_1 true (fun k_4 w_13 => k_4 v_i w_13) (fun t34_1 w_14 => 
  gd t32_1 true (fun k_5 w_15 => pur Try.prog (binS .sub 3 false true t34_1 (.int .i64 1)) fun t35 => k_5 t35 w_15) (fun t35_1 w_16 => 
  gd t32_1 true (fun k_6 w_17 => pur Try.prog (Instr.indexAt 22 t33_1 t35_1) fun t36 => k_6 t36 w_17) (fun t36_1 w_18 => 
  gd t32_1 true (fun k_7 w_19 => pur Try.prog (Instr.fieldAt 27 t36_1 1) fun t37 => k_7 t37 w_19) (fun t37_1 w_20 => 
  gd t32_1 true (fun k_8 w_21 => rd Try.prog (Instr.loadAt 3 t37_1) (fun t38 => k_8 t38 w_21) w_21) (fun t38_1 w_22 => 
  gd t32_1 true (fun k_9 w_23 => k_9 t16 w_23) (fun t39_1 w_24 => 
  gd t32_1 true (fun k_10 w_25 => k_10 v_i w_25) (fun t40_1 w_26 => 
  gd t32_1 true (fun k_11 w_27 => pur Try.prog (Instr.indexAt 22 t39_1 t40_1) fun t41 => k_11 t41 w_27) (fun t41_1 w_28 => 
  gd t32_1 true (fun k_12 w_29 => pur Try.prog (Instr.fieldAt 27 t41_1 0) fun t42 => k_12 t42 w_29) (fun t42_1 w_30 => 
  gd t32_1 true (fun k_13 w_31 => rd Try.prog (Instr.loadAt 3 t42_1) (fun t43 => k_13 t43 w_31) w_31) (fun t43_1 w_32 => 
  gd t32_1 true (fun k_14 w_33 => pur Try.prog (binS .geq 3 false false t38_1 t43_1) fun t44 => k_14 t44 w_33) (fun t44_1 w_34 => 
  gd t28 false (fun k_15 w_35 => pur Try.prog (pickS t32_1 t44_1 (.bool false)) fun t45 => k_15 t45 w_35) (fun t45_1 w_36 => 
  pur Try.prog (pickS t28 (.bool true) t45_1) fun t46 => 
  condS t46
   (Q (.bool false) w_36)
   (gd v_in false (fun k_16 w_37 => k_16 t16 w_37) (fun t49_1 w_38 => 
  gd v_in false (fun k_17 w_39 => k_17 v_i w_39) (fun t50_1 w_40 => 
  gd v_in false (fun k_18 w_41 => pur Try.prog (Instr.indexAt 22 t49_1 t50_1) fun t51 => k_18 t51 w_41) (fun t51_1 w_42 => 
  gd v_in false (fun k_19 w_43 => rd Try.prog (Instr.loadAt 27 t51_1) (fun t52 => k_19 t52 w_43) w_43) (fun t52_1 w_44 => 
  gd v_in false (fun k_20 w_45 => k_20 v_block w_45) (fun t53_1 w_46 => 
  gd v_in false (fun k_21 w_47 => callS Try.prog 10 #[t52_1, t53_1] (fun t54 w_48 => k_21 t54 w_48) w_47) (fun t54_1 w_49 => 
  pur Try.prog (pickS v_in (.bool true) t54_1) fun t55 => 
  pur Try.prog (binS .add 3 false true v_i (.int .i64 1)) fun t22 => 
  J t55 t22 w_49) w_46) w_44) w_42) w_40) w_38) w_36)) w_34) w_32) w_30) w_28) w_26) w_24) w_22) w_20) w_18) w_16) w_14) w_12) w_10) w_8) w_6) w_4) (World.drew w_3)) (World.drew w_3))
   (lp 2 (fun J_1 => fun v_was v_i_1 w_50 => ∀ _j : Fr, 
  pur Try.prog (Builtin.len_ #[22] 3 #[v_l]) fun t58 => 
  pur Try.prog (binS .lss 3 false false v_i_1 t58) fun t59 => 
  condS t59
   (gd v_was false (fun k_22 w_51 => k_22 v_l w_51) (fun t64_1 w_52 => 
  gd v_was false (fun k_23 w_53 => k_23 v_i_1 w_53) (fun t65_1 w_54 => 
  gd v_was false (fun k_24 w_55 => pur Try.prog (Instr.indexAt 22 t64_1 t65_1) fun t66 => k_24 t66 w_55) (fun t66_1 w_56 => 
  gd v_was false (fun k_25 w_57 => rd Try.prog (Instr.loadAt 27 t66_1) (fun t67 => k_25 t67 w_57) w_57) (fun t67_1 w_58 => 
  gd v_was false (fun k_26 w_59 => k_26 v_block w_59) (fun t68_1 w_60 => 
  gd v_was false (fun k_27 w_61 => callS Try.prog 10 #[t67_1, t68_1] (fun t69 w_62 => k_27 t69 w_62) w_61) (fun t69_1 w_63 => 
  pur Try.prog (pickS v_was (.bool true) t69_1) fun t70 => 
  pur Try.prog (binS .add 3 false true v_i_1 (.int .i64 1)) fun t61 => 
  J_1 t70 t61 w_63) w_60) w_58) w_56) w_54) w_52) w_50)
   (callS Try.prog 8 #[t16] (fun t72 w_64 => 
 callS Try.prog 7 #[] (fun t73 w_65 => 
 gd t73 true (fun k_28 w_66 => k_28 v_in w_66) (fun t75_1 w_67 => 
 gd t73 true (fun k_29 w_68 => k_29 v_was w_68) (fun t76_1 w_69 => 
 gd t73 true (fun k_30 w_70 => pur Try.prog (binS .eql 4 false false t75_1 t76_1) fun t77 => k_30 t77 w_70) (fun t77_1 w_71 => 
 pur Try.prog (pickS t73 t77_1 (.bool false)) fun t78 => 
 gd t78 true (fun k_31 w_72 => k_31 t72 w_72) (fun t80_1 w_73 => 
 gd t78 true (fun k_32 w_74 => pur Try.prog (Builtin.len_ #[22] 3 #[t80_1]) fun t81 => k_32 t81 w_74) (fun t81_1 w_75 => 
 gd t78 true (fun k_33 w_76 => k_33 t16 w_76) (fun t82_1 w_77 => 
 gd t78 true (fun k_34 w_78 => pur Try.prog (Builtin.len_ #[22] 3 #[t82_1]) fun t83 => k_34 t83 w_78) (fun t83_1 w_79 => 
 gd t78 true (fun k_35 w_80 => pur Try.prog (binS .eql 3 false false t81_1 t83_1) fun t84 => k_35 t84 w_80) (fun t84_1 w_81 => 
 pur Try.prog (pickS t78 t84_1 (.bool false)) fun t85 => 
 Q t85 w_81) w_79) w_77) w_75) w_73) w_71) w_69) w_67) w_65) w_64) w_50)) [(.bool false), (.int .i64 0)] w_3)) [(.bool false), (.int .i64 0)] w_2) w)
theorem eq3 (v_l v_block : Value) (Q : Value → World → Prop) (w : World) : semF Try.prog 3 [v_l, v_block] Q w = S3 v_l v_block Q w := by kernel_rfl
theorem ref3 {v_l v_block : Value} {Q : Value → World → Prop} {w : World} (h : S3 v_l v_block Q w) : callS Try.prog 3 #[v_l, v_block] Q w :=
  callS_of mix (fun a w => Try.call3 a w) (by kernel_rfl) (by rw [eq3]; exact h)
-- commons/commonslaw6.SpanMeets
def S4 (v_a v_b v_block : Value) (Q : Value → World → Prop) (w : World) : Prop :=
 act Try.prog (Instr.box 27 v_a) (fun t3 w_1 => 
 act Try.prog (Instr.box 27 v_b) (fun t4 w_2 => 
 rd Try.prog (Instr.loadAt 27 t3) (fun t15 => 
 rd Try.prog (Instr.loadAt 27 t4) (fun t16 => 
 callS Try.prog 11 #[t15, t16] (fun t17 w_3 => 
 pur Try.prog (Instr.extract t17 0) fun t18 => 
 pur Try.prog (Instr.extract t17 1) fun t19 => 
 act Try.prog (Instr.alloc 27 true (.tuple #[])) (fun t7 w_4 => 
 act Try.prog (thenU (Instr.storeAt 27 t7 t18)) (fun _ w_5 => 
 rd Try.prog (Instr.loadAt 27 t4) (fun t21 => 
 rd Try.prog (Instr.loadAt 27 t3) (fun t22 => 
 callS Try.prog 11 #[t21, t22] (fun t23 w_6 => 
 pur Try.prog (Instr.extract t23 0) fun t24 => 
 pur Try.prog (Instr.extract t23 1) fun t25 => 
 act Try.prog (Instr.alloc 27 true (.tuple #[])) (fun t9 w_7 => 
 act Try.prog (thenU (Instr.storeAt 27 t9 t24)) (fun _ w_8 => 
 rd Try.prog (Instr.loadAt 27 t3) (fun t26 => 
 callS Try.prog 10 #[t26, v_block] (fun t28 w_9 => 
 gd t28 true (fun k w_10 => rd Try.prog (Instr.loadAt 27 t4) (fun t30 => k t30 w_10) w_10) (fun t30_1 w_11 => 
 gd t28 true (fun k_1 w_12 => k_1 v_block w_12) (fun t31_1 w_13 => 
 gd t28 true (fun k_2 w_14 => callS Try.prog 10 #[t30_1, t31_1] (fun t32 w_15 => k_2 t32 w_15) w_14) (fun t32_1 w_16 => 
 pur Try.prog (pickS t28 t32_1 (.bool false)) fun t33 => 
 rd Try.prog (Instr.loadAt 27 t3) (fun t35 => 
 rd Try.prog (Instr.loadAt 27 t4) (fun t36 => 
 callS Try.prog 12 #[t35, t36] (fun t37 w_17 => 
 pur Try.prog (binS .neq 4 false false t19 t37) fun t38 => 
 gd t38 false (fun k_3 w_18 => k_3 t19 w_18) (fun t40_1 w_19 => 
 gd t38 false (fun k_4 w_20 => k_4 t25 w_20) (fun t41_1 w_21 => 
 gd t38 false (fun k_5 w_22 => pur Try.prog (binS .neq 4 false false t40_1 t41_1) fun t42 => k_5 t42 w_22) (fun t42_1 w_23 => 
 pur Try.prog (pickS t38 (.bool true) t42_1) fun t43 => 
 gd t43 false (fun k_6 w_24 => rd Try.prog (Instr.loadAt 27 t7) (fun t45 => k_6 t45 w_24) w_24) (fun t45_1 w_25 => 
 gd t43 false (fun k_7 w_26 => rd Try.prog (Instr.loadAt 27 t9) (fun t46 => k_7 t46 w_26) w_26) (fun t46_1 w_27 => 
 gd t43 false (fun k_8 w_28 => rd Try.prog (binS .neq 27 false false t45_1 t46_1) (fun t47 => k_8 t47 w_28) w_28) (fun t47_1 w_29 => 
 pur Try.prog (pickS t43 (.bool true) t47_1) fun t48 => 
 gd t48 false (fun k_9 w_30 => k_9 t33 w_30) (fun t50_1 w_31 => 
 gd t48 false (fun k_10 w_32 => k_10 t19 w_32) (fun t51_1 w_33 => 
 gd t48 false (fun k_11 w_34 => k_11 t51_1 w_34) (fun t52_1 w_35 => 
 gd t52_1 true (fun k_12 w_36 => rd Try.prog (Instr.loadAt 27 t7) (fun t53 => k_12 t53 w_36) w_36) (fun t53_1 w_37 => 
 gd t52_1 true (fun k_13 w_38 => k_13 v_block w_38) (fun t54_1 w_39 => 
 gd t52_1 true (fun k_14 w_40 => callS Try.prog 10 #[t53_1, t54_1] (fun t55 w_41 => k_14 t55 w_41) w_40) (fun t55_1 w_42 => 
 gd t48 false (fun k_15 w_43 => pur Try.prog (pickS t52_1 t55_1 (.bool false)) fun t56 => k_15 t56 w_43) (fun t56_1 w_44 => 
 gd t48 false (fun k_16 w_45 => pur Try.prog (binS .neq 4 false false t50_1 t56_1) fun t57 => k_16 t57 w_45) (fun t57_1 w_46 => 
 pur Try.prog (pickS t48 (.bool true) t57_1) fun t58 => 
 condS t58
  (Q (.bool false) w_46)
  (rd Try.prog (Instr.loadAt 27 t3) (fun t60 => 
 rd Try.prog (Instr.loadAt 27 t3) (fun t61 => 
 callS Try.prog 11 #[t60, t61] (fun t62 w_47 => 
 pur Try.prog (Instr.extract t62 0) fun t63 => 
 pur Try.prog (Instr.extract t62 1) fun t64 => 
 act Try.prog (Instr.alloc 27 true (.tuple #[])) (fun t12 w_48 => 
 act Try.prog (thenU (Instr.storeAt 27 t12 t63)) (fun _ w_49 => 
 ∃ S : World → Prop, S (World.drew w_49) ∧ 
 callS Try.prog 7 #[] (fun t65 w_50 => S w_50 ∧ 
 gd t65 true (fun k_17 w_51 => k_17 t64 w_51) (fun t67_1 w_52 => 
 gd t65 true (fun k_18 w_53 => hld Try.prog S (Instr.loadAt 27 t3) fun t68 => k_18 t68 w_53) (fun t68_1 w_54 => 
 gd t65 true (fun k_19 w_55 => callS Try.prog 9 #[t68_1] (fun t69 w_56 => S w_56 ∧ k_19 t69 w_56) w_55) (fun t69_1 w_57 => 
 gd t65 true (fun k_20 w_58 => pur Try.prog (binS .eql 4 false false t67_1 t69_1) fun t70 => k_20 t70 w_58) (fun t70_1 w_59 => 
 pur Try.prog (pickS t65 t70_1 (.bool false)) fun t71 => 
 gd t71 true (fun k_21 w_60 => k_21 t64 w_60) (fun t73_1 w_61 => 
 gd t71 true (fun k_22 w_62 => pur Try.prog (Op.unary .not t73_1) fun t74 => k_22 t74 w_62) (fun t74_1 w_63 => 
 gd t71 true (fun k_23 w_64 => k_23 t74_1 w_64) (fun t75_1 w_65 => 
 gd t75_1 false (fun k_24 w_66 => hld Try.prog S (Instr.loadAt 27 t12) fun t76 => k_24 t76 w_66) (fun t76_1 w_67 => 
 gd t75_1 false (fun k_25 w_68 => hld Try.prog S (Instr.loadAt 27 t3) fun t77 => k_25 t77 w_68) (fun t77_1 w_69 => 
 gd t75_1 false (fun k_26 w_70 => hld Try.prog S (binS .eql 27 false false t76_1 t77_1) fun t78 => k_26 t78 w_70) (fun t78_1 w_71 => 
 gd t71 true (fun k_27 w_72 => pur Try.prog (pickS t75_1 (.bool true) t78_1) fun t79 => k_27 t79 w_72) (fun t79_1 w_73 => 
 pur Try.prog (pickS t71 t79_1 (.bool false)) fun t80 => 
 gd t80 true (fun k_28 w_74 => k_28 t19 w_74) (fun t82_1 w_75 => 
 gd t80 true (fun k_29 w_76 => pur Try.prog (Op.unary .not t82_1) fun t83 => k_29 t83 w_76) (fun t83_1 w_77 => 
 gd t80 true (fun k_30 w_78 => k_30 t83_1 w_78) (fun t84_1 w_79 => 
 gd t84_1 false (fun k_31 w_80 => hld Try.prog S (Instr.loadAt 27 t7) fun t85 => k_31 t85 w_80) (fun t85_1 w_81 => 
 gd t84_1 false (fun k_32 w_82 => callS Try.prog 13 #[t85_1] (fun t86 w_83 => S w_83 ∧ k_32 t86 w_83) w_82) (fun t86_1 w_84 => 
 gd t84_1 false (fun k_33 w_85 => hld Try.prog S (Instr.loadAt 27 t3) fun t87 => k_33 t87 w_85) (fun t87_1 w_86 => 
 gd t84_1 false (fun k_34 w_87 => callS Try.prog 13 #[t87_1] (fun t88 w_88 => S w_88 ∧ k_34 t88 w_88) w_87) (fun t88_1 w_89 => 
 gd t84_1 false (fun k_35 w_90 => pur Try.prog (binS .leq 3 false false t86_1 t88_1) fun t89 => k_35 t89 w_90) (fun t89_1 w_91 => 
 gd t84_1 false (fun k_36 w_92 => k_36 t89_1 w_92) (fun t90_1 w_93 => 
 gd t90_1 true (fun k_37 w_94 => hld Try.prog S (Instr.loadAt 27 t7) fun t91 => k_37 t91 w_94) (fun t91_1 w_95 => 
 gd t90_1 true (fun k_38 w_96 => callS Try.prog 13 #[t91_1] (fun t92 w_97 => S w_97 ∧ k_38 t92 w_97) w_96) (fun t92_1 w_98 => 
 gd t90_1 true (fun k_39 w_99 => hld Try.prog S (Instr.loadAt 27 t4) fun t93 => k_39 t93 w_99) (fun t93_1 w_100 => 
 gd t90_1 true (fun k_40 w_101 => callS Try.prog 13 #[t93_1] (fun t94 w_102 => S w_102 ∧ k_40 t94 w_102) w_101) (fun t94_1 w_103 => 
 gd t90_1 true (fun k_41 w_104 => pur Try.prog (binS .leq 3 false false t92_1 t94_1) fun t95 => k_41 t95 w_104) (fun t95_1 w_105 => 
 gd t84_1 false (fun k_42 w_106 => pur Try.prog (pickS t90_1 t95_1 (.bool false)) fun t96 => k_42 t96 w_106) (fun t96_1 w_107 => 
 gd t80 true (fun k_43 w_108 => pur Try.prog (pickS t84_1 (.bool true) t96_1) fun t97 => k_43 t97 w_108) (fun t97_1 w_109 => 
 pur Try.prog (pickS t80 t97_1 (.bool false)) fun t98 => 
 Q t98 w_109) w_107) w_105) w_103) w_100) w_98) w_95) w_93) w_91) w_89) w_86) w_84) w_81) w_79) w_77) w_75) w_73) w_71) w_69) w_67) w_65) w_63) w_61) w_59) w_57) w_54) w_52) w_50) (World.drew w_49)) w_48) w_47) w_46) w_46) w_46)) w_44) w_42) w_39) w_37) w_35) w_33) w_31) w_29) w_27) w_25) w_23) w_21) w_19) w_17) w_16) w_16) w_16) w_13) w_11) w_9) w_8) w_8) w_7) w_6) w_5) w_5) w_5) w_4) w_3) w_2) w_2) w_2) w_1) w
theorem eq4 (v_a v_b v_block : Value) (Q : Value → World → Prop) (w : World) : semF Try.prog 4 [v_a, v_b, v_block] Q w = S4 v_a v_b v_block Q w := by kernel_rfl
theorem ref4 {v_a v_b v_block : Value} {Q : Value → World → Prop} {w : World} (h : S4 v_a v_b v_block Q w) : callS Try.prog 4 #[v_a, v_b, v_block] Q w :=
  callS_of mix (fun a w => Try.call4 a w) (by kernel_rfl) (by rw [eq4]; exact h)
-- commons/commonslaw6.SpanBlocks
def S5 (v_l v_most : Value) (Q : Value → World → Prop) (w : World) : Prop :=
 pur Try.prog (Builtin.len_ #[22] 3 #[v_l]) fun t12 => 
 pur Try.prog (binS .gtr 3 false true t12 (.int .i64 30)) fun t13 => 
 gd t13 false (fun k w_1 => k v_most w_1) (fun t15_1 w_2 => 
 gd t13 false (fun k_1 w_3 => pur Try.prog (binS .lss 3 false true t15_1 (.int .i64 0)) fun t16 => k_1 t16 w_3) (fun t16_1 w_4 => 
 pur Try.prog (pickS t13 (.bool true) t16_1) fun t17 => 
 gd t17 false (fun k_2 w_5 => k_2 v_most w_5) (fun t19_1 w_6 => 
 gd t17 false (fun k_3 w_7 => pur Try.prog (binS .gtr 3 false true t19_1 (.int .i64 2000)) fun t20 => k_3 t20 w_7) (fun t20_1 w_8 => 
 pur Try.prog (pickS t17 (.bool true) t20_1) fun t21 => 
 condS t21
  (callS Try.prog 7 #[] (fun t22 w_9 => 
  Q t22 w_9) w_8)
  (callS Try.prog 8 #[v_l] (fun t24 w_10 => 
 callS Try.prog 14 #[v_most, v_l] (fun t28 w_11 => 
 pur Try.prog (Instr.extract t28 0) fun t29 => 
 pur Try.prog (Instr.extract t28 1) fun t30 => 
 lp 2 (fun J => fun v_n v_i w_12 => ∀ _j : Fr, 
  pur Try.prog (Builtin.len_ #[22] 3 #[t24]) fun t33 => 
  pur Try.prog (binS .lss 3 false false v_i t33) fun t34 => 
  gd t34 true (fun k_4 w_13 => k_4 v_n w_13) (fun t36_1 w_14 => 
  gd t34 true (fun k_5 w_15 => k_5 v_most w_15) (fun t37_1 w_16 => 
  gd t34 true (fun k_6 w_17 => pur Try.prog (binS .leq 3 false false t36_1 t37_1) fun t38 => k_6 t38 w_17) (fun t38_1 w_18 => 
  pur Try.prog (pickS t34 t38_1 (.bool false)) fun t39 => 
  condS t39
   (jn 1 (fun J_1 => 
   pur Try.prog (Instr.indexAt 22 t24 v_i) fun t44 => 
   rd Try.prog (Instr.loadAt 27 t44) (fun t45 => 
   callS Try.prog 13 #[t45] (fun t46 w_19 => 
   pur Try.prog (binS .sub 3 false false v_most v_n) fun t49 => 
   pur Try.prog (binS .gtr 3 false false t46 t49) fun t50 => 
   condS t50
    (pur Try.prog (binS .add 3 false true v_most (.int .i64 1)) fun t52 => 
    J_1 t52 w_19)
    (pur Try.prog (Instr.indexAt 22 t24 v_i) fun t56 => 
    rd Try.prog (Instr.loadAt 27 t56) (fun t57 => 
    callS Try.prog 13 #[t57] (fun t58 w_20 => 
    pur Try.prog (binS .add 3 false false v_n t58) fun t59 => 
    J_1 t59 w_20) w_19) w_19)) w_18) w_18)
  (fun v_n_1 w_21 => ∀ _j : Fr, 
   pur Try.prog (binS .add 3 false true v_i (.int .i64 1)) fun t41 => 
   J v_n_1 t41 w_21))
   (lp 1 (fun J_2 => fun v_i_1 w_22 => ∀ _j : Fr, 
  pur Try.prog (Builtin.len_ #[35] 3 #[t29]) fun t62 => 
  pur Try.prog (binS .lss 3 false false v_i_1 t62) fun t63 => 
  condS t63
   (pur Try.prog (Instr.indexAt 35 t29 v_i_1) fun t68 => 
  rd Try.prog (Instr.loadAt 3 t68) (fun t69 => 
  pur Try.prog (binS .sub 3 false true v_i_1 (.int .i64 1)) fun t72 => 
  pur Try.prog (Instr.indexAt 35 t29 t72) fun t73 => 
  rd Try.prog (Instr.loadAt 3 t73) (fun t74 => 
  pur Try.prog (binS .leq 3 false false t69 t74) fun t75 => 
  condS t75
   (Q (.bool false) (World.drew w_22))
   (pur Try.prog (binS .add 3 false true v_i_1 (.int .i64 1)) fun t65 => 
  J_2 t65 (World.drew w_22))) (World.drew w_22)) (World.drew w_22))
   (callS Try.prog 7 #[] (fun t76 w_23 => 
 gd t76 true (fun k_7 w_24 => k_7 t30 w_24) (fun t78_1 w_25 => 
 gd t76 true (fun k_8 w_26 => k_8 v_n w_26) (fun t79_1 w_27 => 
 gd t76 true (fun k_9 w_28 => k_9 v_most w_28) (fun t80_1 w_29 => 
 gd t76 true (fun k_10 w_30 => pur Try.prog (binS .leq 3 false false t79_1 t80_1) fun t81 => k_10 t81 w_30) (fun t81_1 w_31 => 
 gd t76 true (fun k_11 w_32 => pur Try.prog (binS .eql 4 false false t78_1 t81_1) fun t82 => k_11 t82 w_32) (fun t82_1 w_33 => 
 pur Try.prog (pickS t76 t82_1 (.bool false)) fun t83 => 
 gd t83 true (fun k_12 w_34 => k_12 t30 w_34) (fun t85_1 w_35 => 
 gd t83 true (fun k_13 w_36 => pur Try.prog (Op.unary .not t85_1) fun t86 => k_13 t86 w_36) (fun t86_1 w_37 => 
 gd t83 true (fun k_14 w_38 => k_14 t86_1 w_38) (fun t87_1 w_39 => 
 gd t87_1 false (fun k_15 w_40 => k_15 t29 w_40) (fun t88_1 w_41 => 
 gd t87_1 false (fun k_16 w_42 => pur Try.prog (Builtin.len_ #[35] 3 #[t88_1]) fun t89 => k_16 t89 w_42) (fun t89_1 w_43 => 
 gd t87_1 false (fun k_17 w_44 => k_17 v_n w_44) (fun t90_1 w_45 => 
 gd t87_1 false (fun k_18 w_46 => pur Try.prog (binS .eql 3 false false t89_1 t90_1) fun t91 => k_18 t91 w_46) (fun t91_1 w_47 => 
 gd t83 true (fun k_19 w_48 => pur Try.prog (pickS t87_1 (.bool true) t91_1) fun t92 => k_19 t92 w_48) (fun t92_1 w_49 => 
 pur Try.prog (pickS t83 t92_1 (.bool false)) fun t93 => 
 gd t93 true (fun k_20 w_50 => k_20 t30 w_50) (fun t95_1 w_51 => 
 gd t93 true (fun k_21 w_52 => k_21 t95_1 w_52) (fun t96_1 w_53 => 
 gd t96_1 false (fun k_22 w_54 => k_22 t29 w_54) (fun t97_1 w_55 => 
 gd t96_1 false (fun k_23 w_56 => pur Try.prog (Builtin.len_ #[35] 3 #[t97_1]) fun t98 => k_23 t98 w_56) (fun t98_1 w_57 => 
 gd t96_1 false (fun k_24 w_58 => pur Try.prog (binS .eql 3 false true t98_1 (.int .i64 0)) fun t99 => k_24 t99 w_58) (fun t99_1 w_59 => 
 gd t93 true (fun k_25 w_60 => pur Try.prog (pickS t96_1 (.bool true) t99_1) fun t100 => k_25 t100 w_60) (fun t100_1 w_61 => 
 pur Try.prog (pickS t93 t100_1 (.bool false)) fun t101 => 
 Q t101 w_61) w_59) w_57) w_55) w_53) w_51) w_49) w_47) w_45) w_43) w_41) w_39) w_37) w_35) w_33) w_31) w_29) w_27) w_25) w_23) w_22)) [(.int .i64 1)] w_18)) w_16) w_14) w_12) [(.int .i64 0), (.int .i64 0)] w_11) w_10) w_8)) w_6) w_4) w_2) w
theorem eq5 (v_l v_most : Value) (Q : Value → World → Prop) (w : World) : semF Try.prog 5 [v_l, v_most] Q w = S5 v_l v_most Q w := by kernel_rfl
theorem ref5 {v_l v_most : Value} {Q : Value → World → Prop} {w : World} (h : S5 v_l v_most Q w) : callS Try.prog 5 #[v_l, v_most] Q w :=
  callS_of mix (fun a w => Try.call5 a w) (by kernel_rfl) (by rw [eq5]; exact h)
-- commons/commonslaw6.SpanJoins
def S6 (v_a v_b v_c v_block : Value) (Q : Value → World → Prop) (w : World) : Prop :=
 pur Try.prog (Builtin.len_ #[22] 3 #[v_a]) fun t13 => 
 pur Try.prog (binS .gtr 3 false true t13 (.int .i64 30)) fun t14 => 
 gd t14 false (fun k w_1 => k v_b w_1) (fun t16_1 w_2 => 
 gd t14 false (fun k_1 w_3 => pur Try.prog (Builtin.len_ #[22] 3 #[t16_1]) fun t17 => k_1 t17 w_3) (fun t17_1 w_4 => 
 gd t14 false (fun k_2 w_5 => pur Try.prog (binS .gtr 3 false true t17_1 (.int .i64 30)) fun t18 => k_2 t18 w_5) (fun t18_1 w_6 => 
 pur Try.prog (pickS t14 (.bool true) t18_1) fun t19 => 
 gd t19 false (fun k_3 w_7 => k_3 v_c w_7) (fun t21_1 w_8 => 
 gd t19 false (fun k_4 w_9 => pur Try.prog (Builtin.len_ #[22] 3 #[t21_1]) fun t22 => k_4 t22 w_9) (fun t22_1 w_10 => 
 gd t19 false (fun k_5 w_11 => pur Try.prog (binS .gtr 3 false true t22_1 (.int .i64 30)) fun t23 => k_5 t23 w_11) (fun t23_1 w_12 => 
 pur Try.prog (pickS t19 (.bool true) t23_1) fun t24 => 
 condS t24
  (callS Try.prog 7 #[] (fun t25 w_13 => 
  Q t25 w_13) w_12)
  (callS Try.prog 15 #[v_a, v_b] (fun t28 w_14 => 
 callS Try.prog 16 #[v_a, v_b] (fun t31 w_15 => 
 callS Try.prog 15 #[v_b, v_a] (fun t35 w_16 => 
 callS Try.prog 17 #[t28, t35] (fun t36 w_17 => 
 pur Try.prog (Op.unary .not t36) fun t37 => 
 gd t37 false (fun k_6 w_18 => k_6 t31 w_18) (fun t39_1 w_19 => 
 gd t37 false (fun k_7 w_20 => k_7 v_b w_20) (fun t40_1 w_21 => 
 gd t37 false (fun k_8 w_22 => k_8 v_a w_22) (fun t41_1 w_23 => 
 gd t37 false (fun k_9 w_24 => callS Try.prog 16 #[t40_1, t41_1] (fun t42 w_25 => k_9 t42 w_25) w_24) (fun t42_1 w_26 => 
 gd t37 false (fun k_10 w_27 => callS Try.prog 17 #[t39_1, t42_1] (fun t43 w_28 => k_10 t43 w_28) w_27) (fun t43_1 w_29 => 
 gd t37 false (fun k_11 w_30 => pur Try.prog (Op.unary .not t43_1) fun t44 => k_11 t44 w_30) (fun t44_1 w_31 => 
 pur Try.prog (pickS t37 (.bool true) t44_1) fun t45 => 
 gd t45 false (fun k_12 w_32 => k_12 t28 w_32) (fun t47_1 w_33 => 
 gd t45 false (fun k_13 w_34 => k_13 v_c w_34) (fun t48_1 w_35 => 
 gd t45 false (fun k_14 w_36 => callS Try.prog 15 #[t47_1, t48_1] (fun t49 w_37 => k_14 t49 w_37) w_36) (fun t49_1 w_38 => 
 gd t45 false (fun k_15 w_39 => k_15 v_a w_39) (fun t50_1 w_40 => 
 gd t45 false (fun k_16 w_41 => k_16 v_b w_41) (fun t51_1 w_42 => 
 gd t45 false (fun k_17 w_43 => k_17 v_c w_43) (fun t52_1 w_44 => 
 gd t45 false (fun k_18 w_45 => callS Try.prog 15 #[t51_1, t52_1] (fun t53 w_46 => k_18 t53 w_46) w_45) (fun t53_1 w_47 => 
 gd t45 false (fun k_19 w_48 => callS Try.prog 15 #[t50_1, t53_1] (fun t54 w_49 => k_19 t54 w_49) w_48) (fun t54_1 w_50 => 
 gd t45 false (fun k_20 w_51 => callS Try.prog 17 #[t49_1, t54_1] (fun t55 w_52 => k_20 t55 w_52) w_51) (fun t55_1 w_53 => 
 gd t45 false (fun k_21 w_54 => pur Try.prog (Op.unary .not t55_1) fun t56 => k_21 t56 w_54) (fun t56_1 w_55 => 
 pur Try.prog (pickS t45 (.bool true) t56_1) fun t57 => 
 gd t57 false (fun k_22 w_56 => k_22 t31 w_56) (fun t59_1 w_57 => 
 gd t57 false (fun k_23 w_58 => k_23 v_c w_58) (fun t60_1 w_59 => 
 gd t57 false (fun k_24 w_60 => callS Try.prog 16 #[t59_1, t60_1] (fun t61 w_61 => k_24 t61 w_61) w_60) (fun t61_1 w_62 => 
 gd t57 false (fun k_25 w_63 => k_25 v_a w_63) (fun t62_1 w_64 => 
 gd t57 false (fun k_26 w_65 => k_26 v_b w_65) (fun t63_1 w_66 => 
 gd t57 false (fun k_27 w_67 => k_27 v_c w_67) (fun t64_1 w_68 => 
 gd t57 false (fun k_28 w_69 => callS Try.prog 16 #[t63_1, t64_1] (fun t65 w_70 => k_28 t65 w_70) w_69) (fun t65_1 w_71 => 
 gd t57 false (fun k_29 w_72 => callS Try.prog 16 #[t62_1, t65_1] (fun t66 w_73 => k_29 t66 w_73) w_72) (fun t66_1 w_74 => 
 gd t57 false (fun k_30 w_75 => callS Try.prog 17 #[t61_1, t66_1] (fun t67 w_76 => k_30 t67 w_76) w_75) (fun t67_1 w_77 => 
 gd t57 false (fun k_31 w_78 => pur Try.prog (Op.unary .not t67_1) fun t68 => k_31 t68 w_78) (fun t68_1 w_79 => 
 pur Try.prog (pickS t57 (.bool true) t68_1) fun t69 => 
 condS t69
  (Q (.bool false) w_79)
  (callS Try.prog 18 #[t28, v_block] (fun t72 w_80 => 
 callS Try.prog 18 #[v_a, v_block] (fun t75 w_81 => 
 gd t75 false (fun k_32 w_82 => k_32 v_b w_82) (fun t77_1 w_83 => 
 gd t75 false (fun k_33 w_84 => k_33 v_block w_84) (fun t78_1 w_85 => 
 gd t75 false (fun k_34 w_86 => callS Try.prog 18 #[t77_1, t78_1] (fun t79 w_87 => k_34 t79 w_87) w_86) (fun t79_1 w_88 => 
 pur Try.prog (pickS t75 (.bool true) t79_1) fun t80 => 
 pur Try.prog (binS .eql 4 false false t72 t80) fun t81 => 
 callS Try.prog 7 #[] (fun t82 w_89 => 
 gd t82 true (fun k_35 w_90 => k_35 t81 w_90) (fun t84_1 w_91 => 
 pur Try.prog (pickS t82 t84_1 (.bool false)) fun t85 => 
 gd t85 true (fun k_36 w_92 => k_36 t31 w_92) (fun t87_1 w_93 => 
 gd t85 true (fun k_37 w_94 => k_37 v_block w_94) (fun t88_1 w_95 => 
 gd t85 true (fun k_38 w_96 => callS Try.prog 18 #[t87_1, t88_1] (fun t89 w_97 => k_38 t89 w_97) w_96) (fun t89_1 w_98 => 
 gd t85 true (fun k_39 w_99 => k_39 v_a w_99) (fun t90_1 w_100 => 
 gd t85 true (fun k_40 w_101 => k_40 v_block w_101) (fun t91_1 w_102 => 
 gd t85 true (fun k_41 w_103 => callS Try.prog 18 #[t90_1, t91_1] (fun t92 w_104 => k_41 t92 w_104) w_103) (fun t92_1 w_105 => 
 gd t85 true (fun k_42 w_106 => k_42 t92_1 w_106) (fun t93_1 w_107 => 
 gd t93_1 true (fun k_43 w_108 => k_43 v_b w_108) (fun t94_1 w_109 => 
 gd t93_1 true (fun k_44 w_110 => k_44 v_block w_110) (fun t95_1 w_111 => 
 gd t93_1 true (fun k_45 w_112 => callS Try.prog 18 #[t94_1, t95_1] (fun t96 w_113 => k_45 t96 w_113) w_112) (fun t96_1 w_114 => 
 gd t85 true (fun k_46 w_115 => pur Try.prog (pickS t93_1 t96_1 (.bool false)) fun t97 => k_46 t97 w_115) (fun t97_1 w_116 => 
 gd t85 true (fun k_47 w_117 => pur Try.prog (binS .eql 4 false false t89_1 t97_1) fun t98 => k_47 t98 w_117) (fun t98_1 w_118 => 
 pur Try.prog (pickS t85 t98_1 (.bool false)) fun t99 => 
 gd t99 true (fun k_48 w_119 => k_48 v_a w_119) (fun t101_1 w_120 => 
 gd t99 true (fun k_49 w_121 => k_49 v_b w_121) (fun t102_1 w_122 => 
 gd t99 true (fun k_50 w_123 => callS Try.prog 19 #[t101_1, t102_1] (fun t103 w_124 => k_50 t103 w_124) w_123) (fun t103_1 w_125 => 
 gd t99 true (fun k_51 w_126 => k_51 t31 w_126) (fun t104_1 w_127 => 
 gd t99 true (fun k_52 w_128 => callS Try.prog 15 #[t103_1, t104_1] (fun t105 w_129 => k_52 t105 w_129) w_128) (fun t105_1 w_130 => 
 gd t99 true (fun k_53 w_131 => k_53 v_a w_131) (fun t106_1 w_132 => 
 gd t99 true (fun k_54 w_133 => callS Try.prog 8 #[t106_1] (fun t107 w_134 => k_54 t107 w_134) w_133) (fun t107_1 w_135 => 
 gd t99 true (fun k_55 w_136 => callS Try.prog 17 #[t105_1, t107_1] (fun t108 w_137 => k_55 t108 w_137) w_136) (fun t108_1 w_138 => 
 pur Try.prog (pickS t99 t108_1 (.bool false)) fun t109 => 
 gd t109 true (fun k_56 w_139 => k_56 t28 w_139) (fun t111_1 w_140 => 
 gd t109 true (fun k_57 w_141 => k_57 v_a w_141) (fun t112_1 w_142 => 
 gd t109 true (fun k_58 w_143 => callS Try.prog 20 #[t111_1, t112_1] (fun t113 w_144 => k_58 t113 w_144) w_143) (fun t113_1 w_145 => 
 pur Try.prog (pickS t109 t113_1 (.bool false)) fun t114 => 
 gd t114 true (fun k_59 w_146 => k_59 v_a w_146) (fun t116_1 w_147 => 
 gd t114 true (fun k_60 w_148 => k_60 t31 w_148) (fun t117_1 w_149 => 
 gd t114 true (fun k_61 w_150 => callS Try.prog 20 #[t116_1, t117_1] (fun t118 w_151 => k_61 t118 w_151) w_150) (fun t118_1 w_152 => 
 pur Try.prog (pickS t114 t118_1 (.bool false)) fun t119 => 
 Q t119 w_152) w_149) w_147) w_145) w_142) w_140) w_138) w_135) w_132) w_130) w_127) w_125) w_122) w_120) w_118) w_116) w_114) w_111) w_109) w_107) w_105) w_102) w_100) w_98) w_95) w_93) w_91) w_89) w_88) w_85) w_83) w_81) w_80) w_79)) w_77) w_74) w_71) w_68) w_66) w_64) w_62) w_59) w_57) w_55) w_53) w_50) w_47) w_44) w_42) w_40) w_38) w_35) w_33) w_31) w_29) w_26) w_23) w_21) w_19) w_17) w_16) w_15) w_14) w_12)) w_10) w_8) w_6) w_4) w_2) w
theorem eq6 (v_a v_b v_c v_block : Value) (Q : Value → World → Prop) (w : World) : semF Try.prog 6 [v_a, v_b, v_c, v_block] Q w = S6 v_a v_b v_c v_block Q w := by kernel_rfl
theorem ref6 {v_a v_b v_c v_block : Value} {Q : Value → World → Prop} {w : World} (h : S6 v_a v_b v_c v_block Q w) : callS Try.prog 6 #[v_a, v_b, v_c, v_block] Q w :=
  callS_of mix (fun a w => Try.call6 a w) (by kernel_rfl) (by rw [eq6]; exact h)
-- commons/commonslaw6.alive
def S7 (Q : Value → World → Prop) (w : World) : Prop :=
 pur Try.prog (Instr.build 27 #[(0, (.int .i64 3)), (1, (.int .i64 5))]) fun t4 => 
 pur Try.prog (Instr.build 27 #[(0, (.int .i64 1)), (1, (.int .i64 3))]) fun t5 => 
 pur Try.prog (Instr.build 27 #[(0, (.int .i64 9)), (1, (.int .i64 9))]) fun t6 => 
 act Try.prog (Instr.buildSlice 22 3 #[(0, t4), (1, t5), (2, t6)]) (fun t7 w_1 => 
 callS Try.prog 8 #[t7] (fun t8 w_2 => 
 pur Try.prog (Instr.build 27 #[(0, (.int .i64 1)), (1, (.int .i64 5))]) fun t10 => 
 pur Try.prog (Instr.build 27 #[(0, (.int .i64 4)), (1, (.int .i64 9))]) fun t11 => 
 callS Try.prog 11 #[t10, t11] (fun t12 w_3 => 
 pur Try.prog (Instr.extract t12 0) fun t13 => 
 pur Try.prog (Instr.extract t12 1) fun t14 => 
 act Try.prog (Instr.alloc 27 true (.tuple #[])) (fun t2 w_4 => 
 act Try.prog (thenU (Instr.storeAt 27 t2 t13)) (fun _ w_5 => 
 pur Try.prog (Builtin.len_ #[22] 3 #[t8]) fun t16 => 
 pur Try.prog (binS .eql 3 false true t16 (.int .i64 1)) fun t17 => 
 gd t17 true (fun k w_6 => k t8 w_6) (fun t19_1 w_7 => 
 gd t17 true (fun k_1 w_8 => pur Try.prog (Instr.indexAt 22 t19_1 (.int .i64 0)) fun t20 => k_1 t20 w_8) (fun t20_1 w_9 => 
 gd t17 true (fun k_2 w_10 => rd Try.prog (Instr.loadAt 27 t20_1) (fun t21 => k_2 t21 w_10) w_10) (fun t21_1 w_11 => 
 gd t17 true (fun k_3 w_12 => pur Try.prog (Instr.build 27 #[(0, (.int .i64 1)), (1, (.int .i64 5))]) fun t22 => k_3 t22 w_12) (fun t22_1 w_13 => 
 gd t17 true (fun k_4 w_14 => rd Try.prog (binS .eql 27 false false t21_1 t22_1) (fun t23 => k_4 t23 w_14) w_14) (fun t23_1 w_15 => 
 pur Try.prog (pickS t17 t23_1 (.bool false)) fun t24 => 
 gd t24 true (fun k_5 w_16 => k_5 t14 w_16) (fun t26_1 w_17 => 
 pur Try.prog (pickS t24 t26_1 (.bool false)) fun t27 => 
 gd t27 true (fun k_6 w_18 => rd Try.prog (Instr.loadAt 27 t2) (fun t29 => k_6 t29 w_18) w_18) (fun t29_1 w_19 => 
 gd t27 true (fun k_7 w_20 => pur Try.prog (Instr.build 27 #[(0, (.int .i64 4)), (1, (.int .i64 5))]) fun t30 => k_7 t30 w_20) (fun t30_1 w_21 => 
 gd t27 true (fun k_8 w_22 => rd Try.prog (binS .eql 27 false false t29_1 t30_1) (fun t31 => k_8 t31 w_22) w_22) (fun t31_1 w_23 => 
 pur Try.prog (pickS t27 t31_1 (.bool false)) fun t32 => 
 gd t32 true (fun k_9 w_24 => rd Try.prog (Instr.loadAt 27 t2) (fun t34 => k_9 t34 w_24) w_24) (fun t34_1 w_25 => 
 gd t32 true (fun k_10 w_26 => callS Try.prog 10 #[t34_1, (.int .i64 4)] (fun t35 w_27 => k_10 t35 w_27) w_26) (fun t35_1 w_28 => 
 pur Try.prog (pickS t32 t35_1 (.bool false)) fun t36 => 
 gd t36 true (fun k_11 w_29 => rd Try.prog (Instr.loadAt 27 t2) (fun t38 => k_11 t38 w_29) w_29) (fun t38_1 w_30 => 
 gd t36 true (fun k_12 w_31 => callS Try.prog 13 #[t38_1] (fun t39 w_32 => k_12 t39 w_32) w_31) (fun t39_1 w_33 => 
 gd t36 true (fun k_13 w_34 => pur Try.prog (binS .eql 3 false true t39_1 (.int .i64 1)) fun t40 => k_13 t40 w_34) (fun t40_1 w_35 => 
 pur Try.prog (pickS t36 t40_1 (.bool false)) fun t41 => 
 Q t41 w_35) w_33) w_30) w_28) w_25) w_23) w_21) w_19) w_17) w_15) w_13) w_11) w_9) w_7) w_5) w_4) w_3) w_2) w_1) w
theorem eq7 (Q : Value → World → Prop) (w : World) : semF Try.prog 7 [] Q w = S7 Q w := by kernel_rfl
theorem ref7 {Q : Value → World → Prop} {w : World} (h : S7 Q w) : callS Try.prog 7 #[] Q w :=
  callS_of mix (fun a w => Try.call7 a w) (by kernel_rfl) (by rw [eq7]; exact h)
-- commons/span.Norm
def S8 (v_l : Value) (Q : Value → World → Prop) (w : World) : Prop :=
 callS Try.prog 22 #[v_l] (fun t8 w_1 => 
 callS Try.prog 21 #[t8, (.func (.func 23) #[] #[])] (fun t9 w_2 => 
 callS Try.prog 24 #[t9, (.func (.func 25) #[] #[])] (fun _ w_3 => 
 pur Try.prog (Builtin.len_ #[22] 3 #[t9]) fun t13 => 
 lp 2 (fun J => fun v_out t14 w_4 => ∀ _j : Fr, 
  pur Try.prog (binS .lss 3 false false t14 t13) fun t15 => 
  condS t15
   (jn 1 (fun J_1 => 
   pur Try.prog (Instr.indexAt 22 t9 t14) fun t16 => 
   rd Try.prog (Instr.loadAt 27 t16) (fun t17 => 
   act Try.prog (Instr.alloc 27 true (.tuple #[])) (fun t5 w_5 => 
   act Try.prog (thenU (Instr.storeAt 27 t5 t17)) (fun _ w_6 => 
   pur Try.prog (Builtin.len_ #[22] 3 #[v_out]) fun t19 => 
   pur Try.prog (binS .sub 3 false true t19 (.int .i64 1)) fun t20 => 
   pur Try.prog (binS .geq 3 false true t20 (.int .i64 0)) fun t22 => 
   gd t22 true (fun k w_7 => pur Try.prog (Instr.fieldAt 27 t5 0) fun t24 => k t24 w_7) (fun t24_1 w_8 => 
   gd t22 true (fun k_1 w_9 => rd Try.prog (Instr.loadAt 3 t24_1) (fun t25 => k_1 t25 w_9) w_9) (fun t25_1 w_10 => 
   gd t22 true (fun k_2 w_11 => k_2 v_out w_11) (fun t26_1 w_12 => 
   gd t22 true (fun k_3 w_13 => k_3 t20 w_13) (fun t27_1 w_14 => 
   gd t22 true (fun k_4 w_15 => pur Try.prog (Instr.indexAt 22 t26_1 t27_1) fun t28 => k_4 t28 w_15) (fun t28_1 w_16 => 
   gd t22 true (fun k_5 w_17 => pur Try.prog (Instr.fieldAt 27 t28_1 1) fun t29 => k_5 t29 w_17) (fun t29_1 w_18 => 
   gd t22 true (fun k_6 w_19 => rd Try.prog (Instr.loadAt 3 t29_1) (fun t30 => k_6 t30 w_19) w_19) (fun t30_1 w_20 => 
   gd t22 true (fun k_7 w_21 => pur Try.prog (binS .leq 3 false false t25_1 t30_1) fun t31 => k_7 t31 w_21) (fun t31_1 w_22 => 
   pur Try.prog (pickS t22 t31_1 (.bool false)) fun t32 => 
   condS t32
    (pur Try.prog (Instr.indexAt 22 v_out t20) fun t37 => 
    pur Try.prog (Instr.fieldAt 27 t37 1) fun t38 => 
    rd Try.prog (Instr.loadAt 3 t38) (fun t39 => 
    pur Try.prog (Instr.fieldAt 27 t5 1) fun t40 => 
    rd Try.prog (Instr.loadAt 3 t40) (fun t41 => 
    pur Try.prog (Builtin.max_ #[3, 3] 3 #[t39, t41]) fun t42 => 
    pur Try.prog (Instr.indexAt 22 v_out t20) fun t43 => 
    pur Try.prog (Instr.fieldAt 27 t43 1) fun t44 => 
    act Try.prog (thenU (Instr.storeAt 3 t44 t42)) (fun _ w_23 => 
    J_1 v_out w_23) (World.drew w_22)) (World.drew w_22)) (World.drew w_22))
    (rd Try.prog (Instr.loadAt 27 t5) (fun t46 => 
    act Try.prog (Instr.buildSlice 22 1 #[(0, t46)]) (fun t47 w_24 => 
    act Try.prog (Builtin.append_ #[22, 22] 22 #[v_out, t47]) (fun t48 w_25 => 
    J_1 t48 w_25) w_24) w_22) w_22)) w_20) w_18) w_16) w_14) w_12) w_10) w_8) (World.drew w_6)) w_5) w_4) w_4)
  (fun v_out_1 w_26 => ∀ _j : Fr, 
   pur Try.prog (binS .add 3 false true t14 (.int .i64 1)) fun t49 => 
   J v_out_1 t49 w_26))
   (Q v_out w_4)) [(.slice none 0 0), (.int .i64 0)] w_3) w_2) w_1) w
theorem eq8 (v_l : Value) (Q : Value → World → Prop) (w : World) : semF Try.prog 8 [v_l] Q w = S8 v_l Q w := by kernel_rfl
theorem ref8 {v_l : Value} {Q : Value → World → Prop} {w : World} (h : S8 v_l Q w) : callS Try.prog 8 #[v_l] Q w :=
  callS_of mix (fun a w => Try.call8 a w) (by kernel_rfl) (by rw [eq8]; exact h)
-- commons/span.Valid
def S9 (v_s : Value) (Q : Value → World → Prop) (w : World) : Prop :=
 act Try.prog (Instr.box 27 v_s) (fun t1 w_1 => 
 pur Try.prog (Instr.fieldAt 27 t1 0) fun t3 => 
 rd Try.prog (Instr.loadAt 3 t3) (fun t4 => 
 pur Try.prog (binS .geq 3 false true t4 (.int .i64 0)) fun t5 => 
 gd t5 true (fun k w_2 => pur Try.prog (Instr.fieldAt 27 t1 0) fun t7 => k t7 w_2) (fun t7_1 w_3 => 
 gd t5 true (fun k_1 w_4 => rd Try.prog (Instr.loadAt 3 t7_1) (fun t8 => k_1 t8 w_4) w_4) (fun t8_1 w_5 => 
 gd t5 true (fun k_2 w_6 => pur Try.prog (Instr.fieldAt 27 t1 1) fun t9 => k_2 t9 w_6) (fun t9_1 w_7 => 
 gd t5 true (fun k_3 w_8 => rd Try.prog (Instr.loadAt 3 t9_1) (fun t10 => k_3 t10 w_8) w_8) (fun t10_1 w_9 => 
 gd t5 true (fun k_4 w_10 => pur Try.prog (binS .lss 3 false false t8_1 t10_1) fun t11 => k_4 t11 w_10) (fun t11_1 w_11 => 
 pur Try.prog (pickS t5 t11_1 (.bool false)) fun t12 => 
 Q t12 w_11) w_9) w_7) w_5) w_3) w_1) w_1) w
theorem eq9 (v_s : Value) (Q : Value → World → Prop) (w : World) : semF Try.prog 9 [v_s] Q w = S9 v_s Q w := by kernel_rfl
theorem ref9 {v_s : Value} {Q : Value → World → Prop} {w : World} (h : S9 v_s Q w) : callS Try.prog 9 #[v_s] Q w :=
  callS_of mix (fun a w => Try.call9 a w) (by kernel_rfl) (by rw [eq9]; exact h)
-- commons/span.Has
def S10 (v_s v_block : Value) (Q : Value → World → Prop) (w : World) : Prop :=
 act Try.prog (Instr.box 27 v_s) (fun t2 w_1 => 
 rd Try.prog (Instr.loadAt 27 t2) (fun t5 => 
 callS Try.prog 9 #[t5] (fun t6 w_2 => 
 gd t6 true (fun k w_3 => pur Try.prog (Instr.fieldAt 27 t2 0) fun t8 => k t8 w_3) (fun t8_1 w_4 => 
 gd t6 true (fun k_1 w_5 => rd Try.prog (Instr.loadAt 3 t8_1) (fun t9 => k_1 t9 w_5) w_5) (fun t9_1 w_6 => 
 gd t6 true (fun k_2 w_7 => k_2 v_block w_7) (fun t10_1 w_8 => 
 gd t6 true (fun k_3 w_9 => pur Try.prog (binS .leq 3 false false t9_1 t10_1) fun t11 => k_3 t11 w_9) (fun t11_1 w_10 => 
 pur Try.prog (pickS t6 t11_1 (.bool false)) fun t12 => 
 gd t12 true (fun k_4 w_11 => k_4 v_block w_11) (fun t14_1 w_12 => 
 gd t12 true (fun k_5 w_13 => pur Try.prog (Instr.fieldAt 27 t2 1) fun t15 => k_5 t15 w_13) (fun t15_1 w_14 => 
 gd t12 true (fun k_6 w_15 => rd Try.prog (Instr.loadAt 3 t15_1) (fun t16 => k_6 t16 w_15) w_15) (fun t16_1 w_16 => 
 gd t12 true (fun k_7 w_17 => pur Try.prog (binS .lss 3 false false t14_1 t16_1) fun t17 => k_7 t17 w_17) (fun t17_1 w_18 => 
 pur Try.prog (pickS t12 t17_1 (.bool false)) fun t18 => 
 Q t18 w_18) w_16) w_14) w_12) w_10) w_8) w_6) w_4) w_2) w_1) w_1) w
theorem eq10 (v_s v_block : Value) (Q : Value → World → Prop) (w : World) : semF Try.prog 10 [v_s, v_block] Q w = S10 v_s v_block Q w := by kernel_rfl
theorem ref10 {v_s v_block : Value} {Q : Value → World → Prop} {w : World} (h : S10 v_s v_block Q w) : callS Try.prog 10 #[v_s, v_block] Q w :=
  callS_of mix (fun a w => Try.call10 a w) (by kernel_rfl) (by rw [eq10]; exact h)
-- commons/span.Meet
def S11 (v_a v_b : Value) (Q : Value → World → Prop) (w : World) : Prop :=
 act Try.prog (Instr.box 27 v_a) (fun t2 w_1 => 
 act Try.prog (Instr.box 27 v_b) (fun t3 w_2 => 
 act Try.prog (Instr.alloc 27 true (.tuple #[])) (fun t4 w_3 => 
 pur Try.prog (Instr.fieldAt 27 t2 0) fun t7 => 
 rd Try.prog (Instr.loadAt 3 t7) (fun t8 => 
 pur Try.prog (Instr.fieldAt 27 t3 0) fun t9 => 
 rd Try.prog (Instr.loadAt 3 t9) (fun t10 => 
 pur Try.prog (Builtin.max_ #[3, 3] 3 #[t8, t10]) fun t11 => 
 pur Try.prog (Instr.fieldAt 27 t2 1) fun t12 => 
 rd Try.prog (Instr.loadAt 3 t12) (fun t13 => 
 pur Try.prog (Instr.fieldAt 27 t3 1) fun t14 => 
 rd Try.prog (Instr.loadAt 3 t14) (fun t15 => 
 pur Try.prog (Builtin.min_ #[3, 3] 3 #[t13, t15]) fun t16 => 
 pur Try.prog (Instr.build 27 #[(0, t11), (1, t16)]) fun t17 => 
 act Try.prog (Instr.alloc 27 true (.tuple #[])) (fun t6 w_4 => 
 act Try.prog (thenU (Instr.storeAt 27 t6 t17)) (fun _ w_5 => 
 rd Try.prog (Instr.loadAt 27 t2) (fun t18 => 
 callS Try.prog 9 #[t18] (fun t19 w_6 => 
 pur Try.prog (Op.unary .not t19) fun t20 => 
 gd t20 false (fun k w_7 => rd Try.prog (Instr.loadAt 27 t3) (fun t22 => k t22 w_7) w_7) (fun t22_1 w_8 => 
 gd t20 false (fun k_1 w_9 => callS Try.prog 9 #[t22_1] (fun t23 w_10 => k_1 t23 w_10) w_9) (fun t23_1 w_11 => 
 gd t20 false (fun k_2 w_12 => pur Try.prog (Op.unary .not t23_1) fun t24 => k_2 t24 w_12) (fun t24_1 w_13 => 
 pur Try.prog (pickS t20 (.bool true) t24_1) fun t25 => 
 gd t25 false (fun k_3 w_14 => rd Try.prog (Instr.loadAt 27 t6) (fun t27 => k_3 t27 w_14) w_14) (fun t27_1 w_15 => 
 gd t25 false (fun k_4 w_16 => callS Try.prog 9 #[t27_1] (fun t28 w_17 => k_4 t28 w_17) w_16) (fun t28_1 w_18 => 
 gd t25 false (fun k_5 w_19 => pur Try.prog (Op.unary .not t28_1) fun t29 => k_5 t29 w_19) (fun t29_1 w_20 => 
 pur Try.prog (pickS t25 (.bool true) t29_1) fun t30 => 
 condS t30
  (pur Try.prog (Instr.build 27 #[]) fun t31 => 
  act Try.prog (thenU (Instr.storeAt 27 t4 t31)) (fun _ w_21 => 
  rd Try.prog (resL 27 t4) (fun r => Q (.tuple #[r, (.bool false)]) w_21) w_21) w_20)
  (rd Try.prog (Instr.loadAt 27 t6) (fun t32 => 
 act Try.prog (thenU (Instr.storeAt 27 t4 t32)) (fun _ w_22 => 
 rd Try.prog (resL 27 t4) (fun r_1 => Q (.tuple #[r_1, (.bool true)]) w_22) w_22) w_20) w_20)) w_18) w_15) w_13) w_11) w_8) w_6) w_5) w_5) w_4) w_3) w_3) w_3) w_3) w_3) w_2) w_1) w
theorem eq11 (v_a v_b : Value) (Q : Value → World → Prop) (w : World) : semF Try.prog 11 [v_a, v_b] Q w = S11 v_a v_b Q w := by kernel_rfl
theorem ref11 {v_a v_b : Value} {Q : Value → World → Prop} {w : World} (h : S11 v_a v_b Q w) : callS Try.prog 11 #[v_a, v_b] Q w :=
  callS_of mix (fun a w => Try.call11 a w) (by kernel_rfl) (by rw [eq11]; exact h)
-- commons/span.Meets
def S12 (v_a v_b : Value) (Q : Value → World → Prop) (w : World) : Prop :=
 act Try.prog (Instr.box 27 v_a) (fun t2 w_1 => 
 act Try.prog (Instr.box 27 v_b) (fun t3 w_2 => 
 rd Try.prog (Instr.loadAt 27 t2) (fun t8 => 
 rd Try.prog (Instr.loadAt 27 t3) (fun t9 => 
 callS Try.prog 11 #[t8, t9] (fun t10 w_3 => 
 pur Try.prog (Instr.extract t10 0) fun t11 => 
 pur Try.prog (Instr.extract t10 1) fun t12 => 
 act Try.prog (Instr.alloc 27 true (.tuple #[])) (fun t5 w_4 => 
 act Try.prog (thenU (Instr.storeAt 27 t5 t11)) (fun _ w_5 => 
 Q t12 w_5) w_4) w_3) w_2) w_2) w_2) w_1) w
theorem eq12 (v_a v_b : Value) (Q : Value → World → Prop) (w : World) : semF Try.prog 12 [v_a, v_b] Q w = S12 v_a v_b Q w := by kernel_rfl
theorem ref12 {v_a v_b : Value} {Q : Value → World → Prop} {w : World} (h : S12 v_a v_b Q w) : callS Try.prog 12 #[v_a, v_b] Q w :=
  callS_of mix (fun a w => Try.call12 a w) (by kernel_rfl) (by rw [eq12]; exact h)
-- commons/span.Len
def S13 (v_s : Value) (Q : Value → World → Prop) (w : World) : Prop :=
 act Try.prog (Instr.box 27 v_s) (fun t1 w_1 => 
 rd Try.prog (Instr.loadAt 27 t1) (fun t3 => 
 callS Try.prog 9 #[t3] (fun t4 w_2 => 
 pur Try.prog (Op.unary .not t4) fun t5 => 
 condS t5
  (Q (.int .i64 0) w_2)
  (pur Try.prog (Instr.fieldAt 27 t1 1) fun t6 => 
 rd Try.prog (Instr.loadAt 3 t6) (fun t7 => 
 pur Try.prog (Instr.fieldAt 27 t1 0) fun t8 => 
 rd Try.prog (Instr.loadAt 3 t8) (fun t9 => 
 pur Try.prog (binS .sub 3 false false t7 t9) fun t10 => 
 Q t10 w_2) w_2) w_2)) w_1) w_1) w
theorem eq13 (v_s : Value) (Q : Value → World → Prop) (w : World) : semF Try.prog 13 [v_s] Q w = S13 v_s Q w := by kernel_rfl
theorem ref13 {v_s : Value} {Q : Value → World → Prop} {w : World} (h : S13 v_s Q w) : callS Try.prog 13 #[v_s] Q w :=
  callS_of mix (fun a w => Try.call13 a w) (by kernel_rfl) (by rw [eq13]; exact h)
-- commons/span.Blocks
def S14 (v_most v_l : Value) (Q : Value → World → Prop) (w : World) : Prop :=
 callS Try.prog 8 #[v_l] (fun t14 w_1 => 
 pur Try.prog (Builtin.len_ #[22] 3 #[t14]) fun t16 => 
 lp 2 (fun J => fun v_n t17 w_2 => ∀ _j : Fr, 
  pur Try.prog (binS .lss 3 false false t17 t16) fun t18 => 
  condS t18
   (pur Try.prog (Instr.indexAt 22 t14 t17) fun t19 => 
  rd Try.prog (Instr.loadAt 27 t19) (fun t20 => 
  act Try.prog (Instr.alloc 27 true (.tuple #[])) (fun t8 w_3 => 
  act Try.prog (thenU (Instr.storeAt 27 t8 t20)) (fun _ w_4 => 
  rd Try.prog (Instr.loadAt 27 t8) (fun t22 => 
  callS Try.prog 13 #[t22] (fun t23 w_5 => 
  pur Try.prog (binS .add 3 false false v_n t23) fun t24 => 
  pur Try.prog (binS .add 3 false true t17 (.int .i64 1)) fun t25 => 
  J t24 t25 w_5) w_4) w_4) w_3) w_2) w_2)
   (pur Try.prog (binS .gtr 3 false false v_n v_most) fun t28 => 
 condS t28
  (Q (.tuple #[(.slice none 0 0), (.bool false)]) w_2)
  (pur Try.prog (Builtin.len_ #[22] 3 #[t14]) fun t30 => 
 lp 2 (fun J_1 => fun v_out t31 w_6 => ∀ _j : Fr, 
  pur Try.prog (binS .lss 3 false false t31 t30) fun t32 => 
  condS t32
   (pur Try.prog (Instr.indexAt 22 t14 t31) fun t33 => 
  rd Try.prog (Instr.loadAt 27 t33) (fun t34 => 
  act Try.prog (Instr.alloc 27 true (.tuple #[])) (fun t11 w_7 => 
  act Try.prog (thenU (Instr.storeAt 27 t11 t34)) (fun _ w_8 => 
  pur Try.prog (Instr.fieldAt 27 t11 0) fun t35 => 
  rd Try.prog (Instr.loadAt 3 t35) (fun t36 => 
  lp 2 (fun J_2 => fun v_out_1 v_block w_9 => ∀ _j : Fr, 
   pur Try.prog (Instr.fieldAt 27 t11 1) fun t38 => 
   rd Try.prog (Instr.loadAt 3 t38) (fun t39 => 
   pur Try.prog (binS .lss 3 false false v_block t39) fun t40 => 
   condS t40
    (act Try.prog (Instr.buildSlice 35 1 #[(0, v_block)]) (fun t45 w_10 => 
   act Try.prog (Builtin.append_ #[35, 35] 35 #[v_out_1, t45]) (fun t46 w_11 => 
   pur Try.prog (binS .add 3 false true v_block (.int .i64 1)) fun t42 => 
   J_2 t46 t42 w_11) w_10) w_9)
    (pur Try.prog (binS .add 3 false true t31 (.int .i64 1)) fun t47 => 
  J_1 v_out_1 t47 w_9)) w_9) [v_out, t36] w_8) w_8) w_7) w_6) w_6)
   (Q (.tuple #[v_out, (.bool true)]) w_6)) [(.slice none 0 0), (.int .i64 0)] w_2))) [(.int .i64 0), (.int .i64 0)] w_1) w
theorem eq14 (v_most v_l : Value) (Q : Value → World → Prop) (w : World) : semF Try.prog 14 [v_most, v_l] Q w = S14 v_most v_l Q w := by kernel_rfl
theorem ref14 {v_most v_l : Value} {Q : Value → World → Prop} {w : World} (h : S14 v_most v_l Q w) : callS Try.prog 14 #[v_most, v_l] Q w :=
  callS_of mix (fun a w => Try.call14 a w) (by kernel_rfl) (by rw [eq14]; exact h)
-- commons/span.Join
def S15 (v_a v_b : Value) (Q : Value → World → Prop) (w : World) : Prop :=
 act Try.prog (Instr.buildSlice 53 2 #[(0, v_a), (1, v_b)]) (fun t7 w_1 => 
 callS Try.prog 28 #[t7] (fun t8 w_2 => 
 callS Try.prog 8 #[t8] (fun t9 w_3 => 
 Q t9 w_3) w_2) w_1) w
theorem eq15 (v_a v_b : Value) (Q : Value → World → Prop) (w : World) : semF Try.prog 15 [v_a, v_b] Q w = S15 v_a v_b Q w := by kernel_rfl
theorem ref15 {v_a v_b : Value} {Q : Value → World → Prop} {w : World} (h : S15 v_a v_b Q w) : callS Try.prog 15 #[v_a, v_b] Q w :=
  callS_of mix (fun a w => Try.call15 a w) (by kernel_rfl) (by rw [eq15]; exact h)
-- commons/span.Both
def S16 (v_a v_b : Value) (Q : Value → World → Prop) (w : World) : Prop :=
 callS Try.prog 19 #[v_a, v_b] (fun t8 w_1 => 
 callS Try.prog 19 #[v_a, t8] (fun t9 w_2 => 
 Q t9 w_2) w_1) w
theorem eq16 (v_a v_b : Value) (Q : Value → World → Prop) (w : World) : semF Try.prog 16 [v_a, v_b] Q w = S16 v_a v_b Q w := by kernel_rfl
theorem ref16 {v_a v_b : Value} {Q : Value → World → Prop} {w : World} (h : S16 v_a v_b Q w) : callS Try.prog 16 #[v_a, v_b] Q w :=
  callS_of mix (fun a w => Try.call16 a w) (by kernel_rfl) (by rw [eq16]; exact h)
-- commons/commonsbook.SameSpans
def S17 (v_a v_b : Value) (Q : Value → World → Prop) (w : World) : Prop :=
 pur Try.prog (Builtin.len_ #[22] 3 #[v_a]) fun t7 => 
 pur Try.prog (Builtin.len_ #[22] 3 #[v_b]) fun t9 => 
 pur Try.prog (binS .neq 3 false false t7 t9) fun t10 => 
 condS t10
  (Q (.bool false) w)
  (lp 1 (fun J => fun v_i w_1 => ∀ _j : Fr, 
  pur Try.prog (Builtin.len_ #[22] 3 #[v_a]) fun t13 => 
  pur Try.prog (binS .lss 3 false false v_i t13) fun t14 => 
  condS t14
   (pur Try.prog (Instr.indexAt 22 v_a v_i) fun t19 => 
  rd Try.prog (Instr.loadAt 27 t19) (fun t20 => 
  pur Try.prog (Instr.indexAt 22 v_b v_i) fun t23 => 
  rd Try.prog (Instr.loadAt 27 t23) (fun t24 => 
  rd Try.prog (binS .eql 27 false false t20 t24) (fun t25 => 
  pur Try.prog (Op.unary .not t25) fun t26 => 
  condS t26
   (Q (.bool false) (World.drew w_1))
   (pur Try.prog (binS .add 3 false true v_i (.int .i64 1)) fun t16 => 
  J t16 (World.drew w_1))) (World.drew w_1)) (World.drew w_1)) (World.drew w_1))
   (Q (.bool true) w_1)) [(.int .i64 0)] w)
theorem eq17 (v_a v_b : Value) (Q : Value → World → Prop) (w : World) : semF Try.prog 17 [v_a, v_b] Q w = S17 v_a v_b Q w := by kernel_rfl
theorem ref17 {v_a v_b : Value} {Q : Value → World → Prop} {w : World} (h : S17 v_a v_b Q w) : callS Try.prog 17 #[v_a, v_b] Q w :=
  callS_of mix (fun a w => Try.call17 a w) (by kernel_rfl) (by rw [eq17]; exact h)
-- commons/commonslaw6.has
def S18 (v_l v_block : Value) (Q : Value → World → Prop) (w : World) : Prop :=
 lp 1 (fun J => fun v_i w_1 => ∀ _j : Fr, 
  pur Try.prog (Builtin.len_ #[22] 3 #[v_l]) fun t8 => 
  pur Try.prog (binS .lss 3 false false v_i t8) fun t9 => 
  condS t9
   (pur Try.prog (Instr.indexAt 22 v_l v_i) fun t14 => 
  rd Try.prog (Instr.loadAt 27 t14) (fun t15 => 
  callS Try.prog 10 #[t15, v_block] (fun t17 w_2 => 
  condS t17
   (Q (.bool true) w_2)
   (pur Try.prog (binS .add 3 false true v_i (.int .i64 1)) fun t11 => 
  J t11 w_2)) w_1) w_1)
   (Q (.bool false) w_1)) [(.int .i64 0)] w
theorem eq18 (v_l v_block : Value) (Q : Value → World → Prop) (w : World) : semF Try.prog 18 [v_l, v_block] Q w = S18 v_l v_block Q w := by kernel_rfl
theorem ref18 {v_l v_block : Value} {Q : Value → World → Prop} {w : World} (h : S18 v_l v_block Q w) : callS Try.prog 18 #[v_l, v_block] Q w :=
  callS_of mix (fun a w => Try.call18 a w) (by kernel_rfl) (by rw [eq18]; exact h)
-- commons/span.Minus
def S19 (v_a v_b : Value) (Q : Value → World → Prop) (w : World) : Prop :=
 callS Try.prog 8 #[v_a] (fun t12 w_1 => 
 callS Try.prog 8 #[v_b] (fun t14 w_2 => 
 pur Try.prog (Builtin.len_ #[22] 3 #[t14]) fun t15 => 
 lp 2 (fun J => fun v_out t16 w_3 => ∀ _j : Fr, 
  pur Try.prog (binS .lss 3 false false t16 t15) fun t17 => 
  condS t17
   (pur Try.prog (Instr.indexAt 22 t14 t16) fun t18 => 
  rd Try.prog (Instr.loadAt 27 t18) (fun t19 => 
  act Try.prog (Instr.alloc 27 true (.tuple #[])) (fun t7 w_4 => 
  act Try.prog (thenU (Instr.storeAt 27 t7 t19)) (fun _ w_5 => 
  pur Try.prog (Builtin.len_ #[22] 3 #[v_out]) fun t21 => 
  lp 2 (fun J_1 => fun v_left t22 w_6 => ∀ _j : Fr, 
   pur Try.prog (binS .lss 3 false false t22 t21) fun t23 => 
   condS t23
    (jn 1 (fun J_2 => 
    pur Try.prog (Instr.indexAt 22 v_out t22) fun t24 => 
    rd Try.prog (Instr.loadAt 27 t24) (fun t25 => 
    act Try.prog (Instr.alloc 27 true (.tuple #[])) (fun t10 w_7 => 
    act Try.prog (thenU (Instr.storeAt 27 t10 t25)) (fun _ w_8 => 
    rd Try.prog (Instr.loadAt 27 t10) (fun t26 => 
    rd Try.prog (Instr.loadAt 27 t7) (fun t27 => 
    callS Try.prog 12 #[t26, t27] (fun t28 w_9 => 
    pur Try.prog (Op.unary .not t28) fun t29 => 
    condS t29
     (rd Try.prog (Instr.loadAt 27 t10) (fun t31 => 
     act Try.prog (Instr.buildSlice 22 1 #[(0, t31)]) (fun t32 w_10 => 
     act Try.prog (Builtin.append_ #[22, 22] 22 #[v_left, t32]) (fun t33 w_11 => 
     J_2 t33 w_11) w_10) w_9) w_9)
     (pur Try.prog (Instr.fieldAt 27 t10 0) fun t35 => 
    rd Try.prog (Instr.loadAt 3 t35) (fun t36 => 
    pur Try.prog (Instr.fieldAt 27 t7 0) fun t37 => 
    rd Try.prog (Instr.loadAt 3 t37) (fun t38 => 
    pur Try.prog (Instr.build 27 #[(0, t36), (1, t38)]) fun t39 => 
    pur Try.prog (Instr.fieldAt 27 t7 1) fun t40 => 
    rd Try.prog (Instr.loadAt 3 t40) (fun t41 => 
    pur Try.prog (Instr.fieldAt 27 t10 1) fun t42 => 
    rd Try.prog (Instr.loadAt 3 t42) (fun t43 => 
    pur Try.prog (Instr.build 27 #[(0, t41), (1, t43)]) fun t44 => 
    act Try.prog (Instr.buildSlice 22 2 #[(0, t39), (1, t44)]) (fun t45 w_12 => 
    act Try.prog (Builtin.append_ #[22, 22] 22 #[v_left, t45]) (fun t46 w_13 => 
    J_2 t46 w_13) w_12) w_9) w_9) w_9) w_9) w_9)) w_8) w_8) w_8) w_7) w_6) w_6)
   (fun v_left_1 w_14 => ∀ _j : Fr, 
    pur Try.prog (binS .add 3 false true t22 (.int .i64 1)) fun t47 => 
    J_1 v_left_1 t47 w_14))
    (callS Try.prog 8 #[v_left] (fun t49 w_15 => 
  pur Try.prog (binS .add 3 false true t16 (.int .i64 1)) fun t50 => 
  J t49 t50 w_15) w_6)) [(.slice none 0 0), (.int .i64 0)] w_5) w_4) w_3) w_3)
   (Q v_out w_3)) [t12, (.int .i64 0)] w_2) w_1) w
theorem eq19 (v_a v_b : Value) (Q : Value → World → Prop) (w : World) : semF Try.prog 19 [v_a, v_b] Q w = S19 v_a v_b Q w := by kernel_rfl
theorem ref19 {v_a v_b : Value} {Q : Value → World → Prop} {w : World} (h : S19 v_a v_b Q w) : callS Try.prog 19 #[v_a, v_b] Q w :=
  callS_of mix (fun a w => Try.call19 a w) (by kernel_rfl) (by rw [eq19]; exact h)
-- commons/span.Covers
def S20 (v_a v_b : Value) (Q : Value → World → Prop) (w : World) : Prop :=
 callS Try.prog 19 #[v_b, v_a] (fun t7 w_1 => 
 pur Try.prog (Builtin.len_ #[22] 3 #[t7]) fun t8 => 
 pur Try.prog (binS .eql 3 false true t8 (.int .i64 0)) fun t9 => 
 Q t9 w_1) w
theorem eq20 (v_a v_b : Value) (Q : Value → World → Prop) (w : World) : semF Try.prog 20 [v_a, v_b] Q w = S20 v_a v_b Q w := by kernel_rfl
theorem ref20 {v_a v_b : Value} {Q : Value → World → Prop} {w : World} (h : S20 v_a v_b Q w) : callS Try.prog 20 #[v_a, v_b] Q w :=
  callS_of mix (fun a w => Try.call20 a w) (by kernel_rfl) (by rw [eq20]; exact h)
-- slices.DeleteFunc[[]commons/api.Span,commons/api.Span]
def S21 (v_s v_del : Value) (Q : Value → World → Prop) (w : World) : Prop :=
 callS Try.prog 29 #[v_s, v_del] (fun t10 w_1 => 
 pur Try.prog (binS .eql 3 false true t10 (.int .i64 (-1))) fun t12 => 
 condS t12
  (Q v_s w_1)
  (pur Try.prog (binS .add 3 false true t10 (.int .i64 1)) fun t15 => 
 lp 2 (fun J => fun v_i v_j w_2 => ∀ _j : Fr, 
  pur Try.prog (Builtin.len_ #[22] 3 #[v_s]) fun t18 => 
  pur Try.prog (binS .lss 3 false false v_j t18) fun t19 => 
  condS t19
   (jn 1 (fun J_1 => 
   pur Try.prog (Instr.indexAt 22 v_s v_j) fun t24 => 
   rd Try.prog (Instr.loadAt 27 t24) (fun t25 => 
   act Try.prog (Instr.alloc 27 true (.tuple #[])) (fun t7 w_3 => 
   act Try.prog (thenU (Instr.storeAt 27 t7 t25)) (fun _ w_4 => 
   rd Try.prog (Instr.loadAt 27 t7) (fun t27 => 
   callF Try.prog v_del #[t27] (fun t28 w_5 => 
   pur Try.prog (Op.unary .not t28) fun t29 => 
   condS t29
    (rd Try.prog (Instr.loadAt 27 t7) (fun t32 => 
    pur Try.prog (Instr.indexAt 22 v_s v_i) fun t33 => 
    act Try.prog (thenU (Instr.storeAt 27 t33 t32)) (fun _ w_6 => 
    pur Try.prog (binS .add 3 false true v_i (.int .i64 1)) fun t35 => 
    J_1 t35 w_6) w_5) w_5)
    (J_1 v_i w_5)) w_4) w_4) w_3) w_2) w_2)
  (fun v_i_1 w_7 => ∀ _j : Fr, 
   pur Try.prog (binS .add 3 false true v_j (.int .i64 1)) fun t21 => 
   J v_i_1 t21 w_7))
   (pur Try.prog (Instr.sliceAt 22 v_s (some v_i) none none) fun t38 => 
 act Try.prog (Builtin.clear_ #[22] 0 #[t38]) (fun _ w_8 => 
 pur Try.prog (Instr.sliceAt 22 v_s none (some v_i) none) fun t41 => 
 Q t41 w_8) w_2)) [t10, t15] w_1)) w
theorem eq21 (v_s v_del : Value) (Q : Value → World → Prop) (w : World) : semF Try.prog 21 [v_s, v_del] Q w = S21 v_s v_del Q w := by kernel_rfl
theorem ref21 {v_s v_del : Value} {Q : Value → World → Prop} {w : World} (h : S21 v_s v_del Q w) : callS Try.prog 21 #[v_s, v_del] Q w :=
  callS_of mix (fun a w => Try.call21 a w) (by kernel_rfl) (by rw [eq21]; exact h)
-- slices.Clone[[]commons/api.Span,commons/api.Span]
def S22 (v_s : Value) (Q : Value → World → Prop) (w : World) : Prop :=
 rd Try.prog (binS .eql 22 false true v_s (.slice none 0 0)) (fun t4 => 
 condS t4
  (Q (.slice none 0 0) w)
  (act Try.prog (Instr.buildSlice 22 0 #[]) (fun t5 w_1 => 
 act Try.prog (Builtin.append_ #[22, 22] 22 #[t5, v_s]) (fun t7 w_2 => 
 Q t7 w_2) w_1) w)) w
theorem eq22 (v_s : Value) (Q : Value → World → Prop) (w : World) : semF Try.prog 22 [v_s] Q w = S22 v_s Q w := by kernel_rfl
theorem ref22 {v_s : Value} {Q : Value → World → Prop} {w : World} (h : S22 v_s Q w) : callS Try.prog 22 #[v_s] Q w :=
  callS_of mix (fun a w => Try.call22 a w) (by kernel_rfl) (by rw [eq22]; exact h)
-- commons/span.Norm$1
def S23 (v_s : Value) (Q : Value → World → Prop) (w : World) : Prop :=
 act Try.prog (Instr.box 27 v_s) (fun t1 w_1 => 
 rd Try.prog (Instr.loadAt 27 t1) (fun t3 => 
 callS Try.prog 9 #[t3] (fun t4 w_2 => 
 pur Try.prog (Op.unary .not t4) fun t5 => 
 Q t5 w_2) w_1) w_1) w
theorem eq23 (v_s : Value) (Q : Value → World → Prop) (w : World) : semF Try.prog 23 [v_s] Q w = S23 v_s Q w := by kernel_rfl
theorem ref23 {v_s : Value} {Q : Value → World → Prop} {w : World} (h : S23 v_s Q w) : callS Try.prog 23 #[v_s] Q w :=
  callS_of mix (fun a w => Try.call23 a w) (by kernel_rfl) (by rw [eq23]; exact h)
-- slices.SortFunc[[]commons/api.Span,commons/api.Span]
def S24 (v_x v_cmp : Value) (Q : Value → World → Prop) (w : World) : Prop :=
 pur Try.prog (Builtin.len_ #[22] 3 #[v_x]) fun t6 => 
 pur Try.prog (convert 3 51 t6) fun t10 => 
 callS Try.prog 31 #[t10] (fun t11 w_1 => 
 callS Try.prog 30 #[v_x, (.int .i64 0), t6, t11, v_cmp] (fun _ w_2 => 
 Q (.tuple #[]) w_2) w_1) w
theorem eq24 (v_x v_cmp : Value) (Q : Value → World → Prop) (w : World) : semF Try.prog 24 [v_x, v_cmp] Q w = S24 v_x v_cmp Q w := by kernel_rfl
theorem ref24 {v_x v_cmp : Value} {Q : Value → World → Prop} {w : World} (h : S24 v_x v_cmp Q w) : callS Try.prog 24 #[v_x, v_cmp] Q w :=
  callS_of mix (fun a w => Try.call24 a w) (by kernel_rfl) (by rw [eq24]; exact h)
-- commons/span.Norm$2
def S25 (v_a v_b : Value) (Q : Value → World → Prop) (w : World) : Prop :=
 act Try.prog (Instr.box 27 v_a) (fun t2 w_1 => 
 act Try.prog (Instr.box 27 v_b) (fun t3 w_2 => 
 ∃ S : World → Prop, S (World.drew w_2) ∧ 
 pur Try.prog (Instr.fieldAt 27 t2 0) fun t5 => 
 hld Try.prog S (Instr.loadAt 3 t5) fun t6 => 
 pur Try.prog (Instr.fieldAt 27 t3 0) fun t7 => 
 hld Try.prog S (Instr.loadAt 3 t7) fun t8 => 
 callS Try.prog 27 #[t6, t8] (fun t9 w_3 => S w_3 ∧ 
 pur Try.prog (Instr.fieldAt 27 t2 1) fun t10 => 
 hld Try.prog S (Instr.loadAt 3 t10) fun t11 => 
 pur Try.prog (Instr.fieldAt 27 t3 1) fun t12 => 
 hld Try.prog S (Instr.loadAt 3 t12) fun t13 => 
 callS Try.prog 27 #[t11, t13] (fun t14 w_4 => S w_4 ∧ 
 act Try.prog (Instr.buildSlice 35 2 #[(0, t9), (1, t14)]) (fun t15 w_5 => S w_5 ∧ 
 callS Try.prog 26 #[t15] (fun t16 w_6 => S w_6 ∧ 
 Q t16 w_6) w_5) w_4) w_3) (World.drew w_2)) w_1) w
theorem eq25 (v_a v_b : Value) (Q : Value → World → Prop) (w : World) : semF Try.prog 25 [v_a, v_b] Q w = S25 v_a v_b Q w := by kernel_rfl
theorem ref25 {v_a v_b : Value} {Q : Value → World → Prop} {w : World} (h : S25 v_a v_b Q w) : callS Try.prog 25 #[v_a, v_b] Q w :=
  callS_of mix (fun a w => Try.call25 a w) (by kernel_rfl) (by rw [eq25]; exact h)
-- cmp.Or[int]
def S26 (v_vals : Value) (Q : Value → World → Prop) (w : World) : Prop :=
 pur Try.prog (Builtin.len_ #[35] 3 #[v_vals]) fun t7 => 
 lp 1 (fun J => fun t8 w_1 => ∀ _j : Fr, 
  pur Try.prog (binS .lss 3 false false t8 t7) fun t9 => 
  condS t9
   (pur Try.prog (Instr.indexAt 35 v_vals t8) fun t10 => 
  rd Try.prog (Instr.loadAt 3 t10) (fun t11 => 
  pur Try.prog (binS .neq 3 false false t11 (.int .i64 0)) fun t14 => 
  condS t14
   (Q t11 w_1)
   (pur Try.prog (binS .add 3 false true t8 (.int .i64 1)) fun t16 => 
  J t16 w_1)) w_1)
   (Q (.int .i64 0) w_1)) [(.int .i64 0)] w
theorem eq26 (v_vals : Value) (Q : Value → World → Prop) (w : World) : semF Try.prog 26 [v_vals] Q w = S26 v_vals Q w := by kernel_rfl
theorem ref26 {v_vals : Value} {Q : Value → World → Prop} {w : World} (h : S26 v_vals Q w) : callS Try.prog 26 #[v_vals] Q w :=
  callS_of mix (fun a w => Try.call26 a w) (by kernel_rfl) (by rw [eq26]; exact h)
-- cmp.Compare[int]
def S27 (v_x v_y : Value) (Q : Value → World → Prop) (w : World) : Prop :=
 callS Try.prog 32 #[v_x] (fun t8 w_1 => 
 callS Try.prog 32 #[v_y] (fun t10 w_2 => 
 condS t8
  (condS t10
   (Q (.int .i64 0) w_2)
   (Q (.int .i64 (-1)) w_2))
  (condS t10
  (Q (.int .i64 1) w_2)
  (pur Try.prog (binS .lss 3 false false v_x v_y) fun t16 => 
 condS t16
  (Q (.int .i64 (-1)) w_2)
  (pur Try.prog (binS .gtr 3 false false v_x v_y) fun t19 => 
 condS t19
  (Q (.int .i64 1) w_2)
  (Q (.int .i64 0) w_2))))) w_1) w
theorem eq27 (v_x v_y : Value) (Q : Value → World → Prop) (w : World) : semF Try.prog 27 [v_x, v_y] Q w = S27 v_x v_y Q w := by kernel_rfl
theorem ref27 {v_x v_y : Value} {Q : Value → World → Prop} {w : World} (h : S27 v_x v_y Q w) : callS Try.prog 27 #[v_x, v_y] Q w :=
  callS_of mix (fun a w => Try.call27 a w) (by kernel_rfl) (by rw [eq27]; exact h)
-- slices.Concat[[]commons/api.Span,commons/api.Span]
def S28 (v_slices : Value) (Q : Value → World → Prop) (w : World) : Prop :=
 pur Try.prog (Builtin.len_ #[53] 3 #[v_slices]) fun t10 => 
 lp 2 (fun J => fun v_size t11 w_1 => ∀ _j : Fr, 
  pur Try.prog (binS .lss 3 false false t11 t10) fun t12 => 
  condS t12
   (jn 1 (fun J_1 => 
   pur Try.prog (Instr.indexAt 53 v_slices t11) fun t13 => 
   rd Try.prog (Instr.loadAt 22 t13) (fun t14 => 
   pur Try.prog (Builtin.len_ #[22] 3 #[t14]) fun t17 => 
   pur Try.prog (binS .add 3 false false v_size t17) fun t18 => 
   pur Try.prog (binS .lss 3 false true t18 (.int .i64 0)) fun t20 => 
   condS t20
    (act Try.prog (Instr.makeInterface 9 (.string ⟨#[108, 101, 110, 32, 111, 117, 116, 32, 111, 102, 32, 114, 97, 110, 103, 101]⟩)) (fun _ w_2 => 
    act Try.prog (stuck "no such operation here") (fun _ w_3 => 
    J_1 t18 w_3) w_2) w_1)
    (J_1 t18 w_1)) w_1)
  (fun v_size_1 w_4 => ∀ _j : Fr, 
   pur Try.prog (binS .add 3 false true t11 (.int .i64 1)) fun t22 => 
   J v_size_1 t22 w_4))
   (callS Try.prog 33 #[(.slice none 0 0), v_size] (fun t24 w_5 => 
 pur Try.prog (Builtin.len_ #[53] 3 #[v_slices]) fun t26 => 
 lp 2 (fun J_2 => fun v_newslice t27 w_6 => ∀ _j : Fr, 
  pur Try.prog (binS .lss 3 false false t27 t26) fun t28 => 
  condS t28
   (pur Try.prog (Instr.indexAt 53 v_slices t27) fun t29 => 
  rd Try.prog (Instr.loadAt 22 t29) (fun t30 => 
  act Try.prog (Builtin.append_ #[22, 22] 22 #[v_newslice, t30]) (fun t33 w_7 => 
  pur Try.prog (binS .add 3 false true t27 (.int .i64 1)) fun t34 => 
  J_2 t33 t34 w_7) w_6) w_6)
   (Q v_newslice w_6)) [t24, (.int .i64 0)] w_5) w_1)) [(.int .i64 0), (.int .i64 0)] w
theorem eq28 (v_slices : Value) (Q : Value → World → Prop) (w : World) : semF Try.prog 28 [v_slices] Q w = S28 v_slices Q w := by kernel_rfl
theorem ref28 {v_slices : Value} {Q : Value → World → Prop} {w : World} (h : S28 v_slices Q w) : callS Try.prog 28 #[v_slices] Q w :=
  callS_of mix (fun a w => Try.call28 a w) (by kernel_rfl) (by rw [eq28]; exact h)
-- slices.IndexFunc[[]commons/api.Span,commons/api.Span]
def S29 (v_s v_f : Value) (Q : Value → World → Prop) (w : World) : Prop :=
 pur Try.prog (Builtin.len_ #[22] 3 #[v_s]) fun t7 => 
 lp 1 (fun J => fun t8 w_1 => ∀ _j : Fr, 
  pur Try.prog (binS .lss 3 false false t8 t7) fun t9 => 
  condS t9
   (pur Try.prog (Instr.indexAt 22 v_s t8) fun t14 => 
  rd Try.prog (Instr.loadAt 27 t14) (fun t15 => 
  callF Try.prog v_f #[t15] (fun t16 w_2 => 
  condS t16
   (Q t8 w_2)
   (pur Try.prog (binS .add 3 false true t8 (.int .i64 1)) fun t18 => 
  J t18 w_2)) w_1) w_1)
   (Q (.int .i64 (-1)) w_1)) [(.int .i64 0)] w
theorem eq29 (v_s v_f : Value) (Q : Value → World → Prop) (w : World) : semF Try.prog 29 [v_s, v_f] Q w = S29 v_s v_f Q w := by kernel_rfl
theorem ref29 {v_s v_f : Value} {Q : Value → World → Prop} {w : World} (h : S29 v_s v_f Q w) : callS Try.prog 29 #[v_s, v_f] Q w :=
  callS_of mix (fun a w => Try.call29 a w) (by kernel_rfl) (by rw [eq29]; exact h)
-- slices.pdqsortCmpFunc[commons/api.Span]
def S30 (v_data v_a v_b v_limit v_cmp : Value) (Q : Value → World → Prop) (w : World) : Prop :=
 lp 5 (fun J => fun v_a_1 v_b_1 v_limit_1 v_wasBalanced v_wasPartitioned w_1 => ∀ _j : Fr, 
  pur Try.prog (binS .sub 3 false false v_b_1 v_a_1) fun t23 => 
  pur Try.prog (binS .leq 3 false true t23 (.int .i64 12)) fun t25 => 
  condS t25
   (callS Try.prog 34 #[v_data, v_a_1, v_b_1, v_cmp] (fun _ w_2 => 
   Q (.tuple #[]) w_2) w_1)
   (pur Try.prog (binS .eql 3 false true v_limit_1 (.int .i64 0)) fun t32 => 
  condS t32
   (callS Try.prog 35 #[v_data, v_a_1, v_b_1, v_cmp] (fun _ w_3 => 
   Q (.tuple #[]) w_3) w_1)
   (jn 1 (fun J_1 => 
   pur Try.prog (Op.unary .not v_wasBalanced) fun t39 => 
   condS t39
    (callS Try.prog 36 #[v_data, v_a_1, v_b_1, v_cmp] (fun _ w_4 => 
    pur Try.prog (binS .sub 3 false true v_limit_1 (.int .i64 1)) fun t46 => 
    J_1 t46 w_4) w_1)
    (J_1 v_limit_1 w_1))
  (fun v_limit_2 w_5 => ∀ _j : Fr, 
   callS Try.prog 37 #[v_data, v_a_1, v_b_1, v_cmp] (fun t52 w_6 => 
   pur Try.prog (Instr.extract t52 0) fun t53 => 
   pur Try.prog (Instr.extract t52 1) fun t54 => 
   jn 2 (fun J_2 => 
    pur Try.prog (binS .eql 56 false true t54 (.int .i64 2)) fun t56 => 
    condS t56
     (callS Try.prog 38 #[v_data, v_a_1, v_b_1, v_cmp] (fun _ w_7 => 
     pur Try.prog (binS .sub 3 false true v_b_1 (.int .i64 1)) fun t63 => 
     pur Try.prog (binS .sub 3 false false t53 v_a_1) fun t66 => 
     pur Try.prog (binS .sub 3 false false t63 t66) fun t67 => 
     J_2 t67 (.int .i64 1) w_7) w_6)
     (J_2 t53 t54 w_6))
   (fun v_pivot v_hint w_8 => ∀ _j : Fr, 
    jn 0 (fun J_3 => 
     gd v_wasBalanced true (fun k w_9 => k v_wasPartitioned w_9) (fun t70_1 w_10 => 
     pur Try.prog (pickS v_wasBalanced t70_1 (.bool false)) fun t71 => 
     gd t71 true (fun k_1 w_11 => k_1 v_hint w_11) (fun t73_1 w_12 => 
     gd t71 true (fun k_2 w_13 => pur Try.prog (binS .eql 56 false true t73_1 (.int .i64 1)) fun t74 => k_2 t74 w_13) (fun t74_1 w_14 => 
     pur Try.prog (pickS t71 t74_1 (.bool false)) fun t75 => 
     condS t75
      (callS Try.prog 39 #[v_data, v_a_1, v_b_1, v_cmp] (fun t80 w_15 => 
      condS t80
       (Q (.tuple #[]) w_15)
       (J_3  w_15)) w_14)
      (J_3  w_14)) w_12) w_10) w_8)
    (fun  w_16 => ∀ _j : Fr, 
     pur Try.prog (binS .gtr 3 false true v_a_1 (.int .i64 0)) fun t82 => 
     gd t82 true (fun k_3 w_17 => k_3 v_cmp w_17) (fun t84_1 w_18 => 
     gd t82 true (fun k_4 w_19 => k_4 v_data w_19) (fun t85_1 w_20 => 
     gd t82 true (fun k_5 w_21 => k_5 v_a_1 w_21) (fun t86_1 w_22 => 
     gd t82 true (fun k_6 w_23 => pur Try.prog (binS .sub 3 false true t86_1 (.int .i64 1)) fun t87 => k_6 t87 w_23) (fun t87_1 w_24 => 
     gd t82 true (fun k_7 w_25 => pur Try.prog (Instr.indexAt 22 t85_1 t87_1) fun t88 => k_7 t88 w_25) (fun t88_1 w_26 => 
     gd t82 true (fun k_8 w_27 => rd Try.prog (Instr.loadAt 27 t88_1) (fun t89 => k_8 t89 w_27) w_27) (fun t89_1 w_28 => 
     gd t82 true (fun k_9 w_29 => k_9 v_data w_29) (fun t90_1 w_30 => 
     gd t82 true (fun k_10 w_31 => k_10 v_pivot w_31) (fun t91_1 w_32 => 
     gd t82 true (fun k_11 w_33 => pur Try.prog (Instr.indexAt 22 t90_1 t91_1) fun t92 => k_11 t92 w_33) (fun t92_1 w_34 => 
     gd t82 true (fun k_12 w_35 => rd Try.prog (Instr.loadAt 27 t92_1) (fun t93 => k_12 t93 w_35) w_35) (fun t93_1 w_36 => 
     gd t82 true (fun k_13 w_37 => callF Try.prog t84_1 #[t89_1, t93_1] (fun t94 w_38 => k_13 t94 w_38) w_37) (fun t94_1 w_39 => 
     gd t82 true (fun k_14 w_40 => pur Try.prog (binS .lss 3 false true t94_1 (.int .i64 0)) fun t95 => k_14 t95 w_40) (fun t95_1 w_41 => 
     gd t82 true (fun k_15 w_42 => pur Try.prog (Op.unary .not t95_1) fun t96 => k_15 t96 w_42) (fun t96_1 w_43 => 
     pur Try.prog (pickS t82 t96_1 (.bool false)) fun t97 => 
     condS t97
      (callS Try.prog 40 #[v_data, v_a_1, v_b_1, v_pivot, v_cmp] (fun t103 w_44 => 
      J t103 v_b_1 v_limit_2 v_wasBalanced v_wasPartitioned w_44) w_43)
      (callS Try.prog 41 #[v_data, v_a_1, v_b_1, v_pivot, v_cmp] (fun t111 w_45 => 
     pur Try.prog (Instr.extract t111 0) fun t112 => 
     pur Try.prog (Instr.extract t111 1) fun t113 => 
     pur Try.prog (binS .sub 3 false false t112 v_a_1) fun t117 => 
     pur Try.prog (binS .sub 3 false false v_b_1 t112) fun t120 => 
     pur Try.prog (binS .quo 3 false true t23 (.int .i64 8)) fun t122 => 
     pur Try.prog (binS .lss 3 false false t117 t120) fun t125 => 
     condS t125
      (pur Try.prog (binS .geq 3 false false t117 t122) fun t128 => 
      callS Try.prog 30 #[v_data, v_a_1, t112, v_limit_2, v_cmp] (fun _ w_46 => 
      pur Try.prog (binS .add 3 false true t112 (.int .i64 1)) fun t136 => 
      J t136 v_b_1 v_limit_2 t128 t113 w_46) w_45)
      (pur Try.prog (binS .geq 3 false false t120 t122) fun t139 => 
      pur Try.prog (binS .add 3 false true t112 (.int .i64 1)) fun t142 => 
      callS Try.prog 30 #[v_data, t142, v_b_1, v_limit_2, v_cmp] (fun _ w_47 => 
      J v_a_1 t112 v_limit_2 t139 t113 w_47) w_45)) w_43)) w_41) w_39) w_36) w_34) w_32) w_30) w_28) w_26) w_24) w_22) w_20) w_18) (World.drew w_16)))) w_5)))) [v_a, v_b, v_limit, (.bool true), (.bool true)] w
theorem eq30 (v_data v_a v_b v_limit v_cmp : Value) (Q : Value → World → Prop) (w : World) : semF Try.prog 30 [v_data, v_a, v_b, v_limit, v_cmp] Q w = S30 v_data v_a v_b v_limit v_cmp Q w := by kernel_rfl
theorem ref30 {v_data v_a v_b v_limit v_cmp : Value} {Q : Value → World → Prop} {w : World} (h : S30 v_data v_a v_b v_limit v_cmp Q w) : callS Try.prog 30 #[v_data, v_a, v_b, v_limit, v_cmp] Q w :=
  callS_of mix (fun a w => Try.call30 a w) (by kernel_rfl) (by rw [eq30]; exact h)
-- math/bits.Len
def S31 (v_x : Value) (Q : Value → World → Prop) (w : World) : Prop :=
 condS (.bool false)
  (pur Try.prog (convert 51 64 v_x) fun t4 => 
  callS Try.prog 42 #[t4] (fun t5 w_1 => 
  Q t5 w_1) w)
  (callS Try.prog 43 #[v_x] (fun t7 w_2 => 
 Q t7 w_2) w)
theorem eq31 (v_x : Value) (Q : Value → World → Prop) (w : World) : semF Try.prog 31 [v_x] Q w = S31 v_x Q w := by kernel_rfl
theorem ref31 {v_x : Value} {Q : Value → World → Prop} {w : World} (h : S31 v_x Q w) : callS Try.prog 31 #[v_x] Q w :=
  callS_of mix (fun a w => Try.call31 a w) (by kernel_rfl) (by rw [eq31]; exact h)
-- cmp.isNaN[int]
def S32 (v_x : Value) (Q : Value → World → Prop) (w : World) : Prop :=
 pur Try.prog (binS .neq 3 false false v_x v_x) fun t5 => 
 Q t5 w
theorem eq32 (v_x : Value) (Q : Value → World → Prop) (w : World) : semF Try.prog 32 [v_x] Q w = S32 v_x Q w := by kernel_rfl
theorem ref32 {v_x : Value} {Q : Value → World → Prop} {w : World} (h : S32 v_x Q w) : callS Try.prog 32 #[v_x] Q w :=
  callS_of mix (fun a w => Try.call32 a w) (by kernel_rfl) (by rw [eq32]; exact h)
-- slices.Grow[[]commons/api.Span,commons/api.Span]
def S33 (v_s v_n : Value) (Q : Value → World → Prop) (w : World) : Prop :=
 jn 0 (fun J => 
  pur Try.prog (binS .lss 3 false true v_n (.int .i64 0)) fun t6 => 
  condS t6
   (act Try.prog (Instr.makeInterface 9 (.string ⟨#[99, 97, 110, 110, 111, 116, 32, 98, 101, 32, 110, 101, 103, 97, 116, 105, 118, 101]⟩)) (fun _ w_1 => 
   act Try.prog (stuck "no such operation here") (fun _ w_2 => 
   J  w_2) w_1) w)
   (J  w))
 (fun  w_3 => ∀ _j : Fr, 
  jn 1 (fun J_1 => 
   pur Try.prog (Builtin.cap_ #[22] 3 #[v_s]) fun t10 => 
   pur Try.prog (Builtin.len_ #[22] 3 #[v_s]) fun t12 => 
   pur Try.prog (binS .sub 3 false false t10 t12) fun t13 => 
   pur Try.prog (binS .sub 3 false false v_n t13) fun t14 => 
   pur Try.prog (binS .gtr 3 false true t14 (.int .i64 0)) fun t16 => 
   condS t16
    (pur Try.prog (Builtin.cap_ #[22] 3 #[v_s]) fun t19 => 
    pur Try.prog (Instr.sliceAt 22 v_s none (some t19) none) fun t20 => 
    act Try.prog (Builtin.append_ #[22, 3] 22 #[t20, t14]) (fun t22 w_4 => 
    pur Try.prog (Builtin.len_ #[22] 3 #[v_s]) fun t24 => 
    pur Try.prog (Instr.sliceAt 22 t22 none (some t24) none) fun t25 => 
    J_1 t25 w_4) w_3)
    (J_1 v_s w_3))
  (fun v_s_1 w_5 => ∀ _j : Fr, 
   Q v_s_1 w_5))
theorem eq33 (v_s v_n : Value) (Q : Value → World → Prop) (w : World) : semF Try.prog 33 [v_s, v_n] Q w = S33 v_s v_n Q w := by kernel_rfl
theorem ref33 {v_s v_n : Value} {Q : Value → World → Prop} {w : World} (h : S33 v_s v_n Q w) : callS Try.prog 33 #[v_s, v_n] Q w :=
  callS_of mix (fun a w => Try.call33 a w) (by kernel_rfl) (by rw [eq33]; exact h)
-- slices.insertionSortCmpFunc[commons/api.Span]
def S34 (v_data v_a v_b v_cmp : Value) (Q : Value → World → Prop) (w : World) : Prop :=
 pur Try.prog (binS .add 3 false true v_a (.int .i64 1)) fun t11 => 
 lp 1 (fun J => fun v_i w_1 => ∀ _j : Fr, 
  pur Try.prog (binS .lss 3 false false v_i v_b) fun t14 => 
  condS t14
   (lp 1 (fun J_1 => fun v_j w_2 => ∀ _j : Fr, 
   pur Try.prog (binS .gtr 3 false false v_j v_a) fun t20 => 
   gd t20 true (fun k w_3 => k v_cmp w_3) (fun t22_1 w_4 => 
   gd t20 true (fun k_1 w_5 => k_1 v_data w_5) (fun t23_1 w_6 => 
   gd t20 true (fun k_2 w_7 => k_2 v_j w_7) (fun t24_1 w_8 => 
   gd t20 true (fun k_3 w_9 => pur Try.prog (Instr.indexAt 22 t23_1 t24_1) fun t25 => k_3 t25 w_9) (fun t25_1 w_10 => 
   gd t20 true (fun k_4 w_11 => rd Try.prog (Instr.loadAt 27 t25_1) (fun t26 => k_4 t26 w_11) w_11) (fun t26_1 w_12 => 
   gd t20 true (fun k_5 w_13 => k_5 v_data w_13) (fun t27_1 w_14 => 
   gd t20 true (fun k_6 w_15 => k_6 v_j w_15) (fun t28_1 w_16 => 
   gd t20 true (fun k_7 w_17 => pur Try.prog (binS .sub 3 false true t28_1 (.int .i64 1)) fun t29 => k_7 t29 w_17) (fun t29_1 w_18 => 
   gd t20 true (fun k_8 w_19 => pur Try.prog (Instr.indexAt 22 t27_1 t29_1) fun t30 => k_8 t30 w_19) (fun t30_1 w_20 => 
   gd t20 true (fun k_9 w_21 => rd Try.prog (Instr.loadAt 27 t30_1) (fun t31 => k_9 t31 w_21) w_21) (fun t31_1 w_22 => 
   gd t20 true (fun k_10 w_23 => callF Try.prog t22_1 #[t26_1, t31_1] (fun t32 w_24 => k_10 t32 w_24) w_23) (fun t32_1 w_25 => 
   gd t20 true (fun k_11 w_26 => pur Try.prog (binS .lss 3 false true t32_1 (.int .i64 0)) fun t33 => k_11 t33 w_26) (fun t33_1 w_27 => 
   pur Try.prog (pickS t20 t33_1 (.bool false)) fun t34 => 
   condS t34
    (pur Try.prog (binS .sub 3 false true v_j (.int .i64 1)) fun t41 => 
   pur Try.prog (binS .sub 3 false true v_j (.int .i64 1)) fun t44 => 
   pur Try.prog (Instr.indexAt 22 v_data t44) fun t45 => 
   rd Try.prog (Instr.loadAt 27 t45) (fun t46 => 
   pur Try.prog (Instr.indexAt 22 v_data v_j) fun t49 => 
   rd Try.prog (Instr.loadAt 27 t49) (fun t50 => 
   pur Try.prog (Instr.indexAt 22 v_data v_j) fun t51 => 
   act Try.prog (thenU (Instr.storeAt 27 t51 t46)) (fun _ w_28 => 
   pur Try.prog (Instr.indexAt 22 v_data t41) fun t52 => 
   act Try.prog (thenU (Instr.storeAt 27 t52 t50)) (fun _ w_29 => 
   pur Try.prog (binS .sub 3 false true v_j (.int .i64 1)) fun t36 => 
   J_1 t36 w_29) w_28) (World.drew w_27)) (World.drew w_27)) (World.drew w_27))
    (pur Try.prog (binS .add 3 false true v_i (.int .i64 1)) fun t16 => 
  J t16 w_27)) w_25) w_22) w_20) w_18) w_16) w_14) w_12) w_10) w_8) w_6) w_4) (World.drew w_2)) [v_i] w_1)
   (Q (.tuple #[]) w_1)) [t11] w
theorem eq34 (v_data v_a v_b v_cmp : Value) (Q : Value → World → Prop) (w : World) : semF Try.prog 34 [v_data, v_a, v_b, v_cmp] Q w = S34 v_data v_a v_b v_cmp Q w := by kernel_rfl
theorem ref34 {v_data v_a v_b v_cmp : Value} {Q : Value → World → Prop} {w : World} (h : S34 v_data v_a v_b v_cmp Q w) : callS Try.prog 34 #[v_data, v_a, v_b, v_cmp] Q w :=
  callS_of mix (fun a w => Try.call34 a w) (by kernel_rfl) (by rw [eq34]; exact h)
-- slices.heapSortCmpFunc[commons/api.Span]
def S35 (v_data v_a v_b v_cmp : Value) (Q : Value → World → Prop) (w : World) : Prop :=
 pur Try.prog (binS .sub 3 false false v_b v_a) fun t16 => 
 pur Try.prog (binS .sub 3 false true t16 (.int .i64 1)) fun t18 => 
 pur Try.prog (binS .quo 3 false true t18 (.int .i64 2)) fun t19 => 
 lp 1 (fun J => fun v_i w_1 => ∀ _j : Fr, 
  pur Try.prog (binS .geq 3 false true v_i (.int .i64 0)) fun t21 => 
  condS t21
   (callS Try.prog 44 #[v_data, v_i, t16, v_a, v_cmp] (fun _ w_2 => 
  pur Try.prog (binS .sub 3 false true v_i (.int .i64 1)) fun t23 => 
  J t23 w_2) w_1)
   (pur Try.prog (binS .sub 3 false true t16 (.int .i64 1)) fun t31 => 
 lp 1 (fun J_1 => fun v_i_1 w_3 => ∀ _j : Fr, 
  pur Try.prog (binS .geq 3 false true v_i_1 (.int .i64 0)) fun t33 => 
  condS t33
   (pur Try.prog (binS .add 3 false false v_a v_i_1) fun t41 => 
  pur Try.prog (binS .add 3 false false v_a v_i_1) fun t45 => 
  pur Try.prog (Instr.indexAt 22 v_data t45) fun t46 => 
  rd Try.prog (Instr.loadAt 27 t46) (fun t47 => 
  pur Try.prog (Instr.indexAt 22 v_data v_a) fun t50 => 
  rd Try.prog (Instr.loadAt 27 t50) (fun t51 => 
  pur Try.prog (Instr.indexAt 22 v_data v_a) fun t52 => 
  act Try.prog (thenU (Instr.storeAt 27 t52 t47)) (fun _ w_4 => 
  pur Try.prog (Instr.indexAt 22 v_data t41) fun t53 => 
  act Try.prog (thenU (Instr.storeAt 27 t53 t51)) (fun _ w_5 => 
  callS Try.prog 44 #[v_data, (.int .i64 0), v_i_1, v_a, v_cmp] (fun _ w_6 => 
  pur Try.prog (binS .sub 3 false true v_i_1 (.int .i64 1)) fun t35 => 
  J_1 t35 w_6) w_5) w_4) (World.drew w_3)) (World.drew w_3)) (World.drew w_3))
   (Q (.tuple #[]) w_3)) [t31] w_1)) [t19] w
theorem eq35 (v_data v_a v_b v_cmp : Value) (Q : Value → World → Prop) (w : World) : semF Try.prog 35 [v_data, v_a, v_b, v_cmp] Q w = S35 v_data v_a v_b v_cmp Q w := by kernel_rfl
theorem ref35 {v_data v_a v_b v_cmp : Value} {Q : Value → World → Prop} {w : World} (h : S35 v_data v_a v_b v_cmp Q w) : callS Try.prog 35 #[v_data, v_a, v_b, v_cmp] Q w :=
  callS_of mix (fun a w => Try.call35 a w) (by kernel_rfl) (by rw [eq35]; exact h)
-- slices.breakPatternsCmpFunc[commons/api.Span]
def S36 (v_data v_a v_b _ : Value) (Q : Value → World → Prop) (w : World) : Prop :=
 pur Try.prog (binS .sub 3 false false v_b v_a) fun t15 => 
 pur Try.prog (binS .geq 3 false true t15 (.int .i64 8)) fun t17 => 
 condS t17
  (pur Try.prog (convert 3 67 t15) fun t19 => 
  act Try.prog (Instr.alloc 67 true (.tuple #[])) (fun t9 w_1 => 
  act Try.prog (thenU (Instr.storeAt 67 t9 t19)) (fun _ w_2 => 
  callS Try.prog 45 #[t15] (fun t21 w_3 => 
  pur Try.prog (binS .quo 3 false true t15 (.int .i64 4)) fun t24 => 
  pur Try.prog (binS .mul 3 false true t24 (.int .i64 2)) fun t25 => 
  pur Try.prog (binS .add 3 false false v_a t25) fun t26 => 
  pur Try.prog (binS .sub 3 false true t26 (.int .i64 1)) fun t27 => 
  lp 1 (fun J => fun v_idx w_4 => ∀ _j : Fr, 
   pur Try.prog (binS .quo 3 false true t15 (.int .i64 4)) fun t31 => 
   pur Try.prog (binS .mul 3 false true t31 (.int .i64 2)) fun t32 => 
   pur Try.prog (binS .add 3 false false v_a t32) fun t33 => 
   pur Try.prog (binS .add 3 false true t33 (.int .i64 1)) fun t34 => 
   pur Try.prog (binS .leq 3 false false v_idx t34) fun t35 => 
   condS t35
    (callS Try.prog 46 #[t9] (fun t38 w_5 => 
   pur Try.prog (binS .sub 51 false true t21 (.int .u64 1)) fun t40 => 
   pur Try.prog (binS .and 51 false false t38 t40) fun t41 => 
   pur Try.prog (convert 51 3 t41) fun t42 => 
   jn 1 (fun J_1 => 
    pur Try.prog (binS .geq 3 false false t42 t15) fun t45 => 
    condS t45
     (pur Try.prog (binS .sub 3 false false t42 t15) fun t48 => 
     J_1 t48 w_5)
     (J_1 t42 w_5))
   (fun v_other w_6 => ∀ _j : Fr, 
    pur Try.prog (binS .add 3 false false v_a v_other) fun t54 => 
    pur Try.prog (binS .add 3 false false v_a v_other) fun t58 => 
    pur Try.prog (Instr.indexAt 22 v_data t58) fun t59 => 
    rd Try.prog (Instr.loadAt 27 t59) (fun t60 => 
    pur Try.prog (Instr.indexAt 22 v_data v_idx) fun t63 => 
    rd Try.prog (Instr.loadAt 27 t63) (fun t64 => 
    pur Try.prog (Instr.indexAt 22 v_data v_idx) fun t65 => 
    act Try.prog (thenU (Instr.storeAt 27 t65 t60)) (fun _ w_7 => 
    pur Try.prog (Instr.indexAt 22 v_data t54) fun t66 => 
    act Try.prog (thenU (Instr.storeAt 27 t66 t64)) (fun _ w_8 => 
    pur Try.prog (binS .add 3 false true v_idx (.int .i64 1)) fun t37 => 
   J t37 w_8) w_7) (World.drew w_6)) (World.drew w_6)) (World.drew w_6))) w_4)
    (Q (.tuple #[]) w_4)) [t27] w_3) w_2) w_1) w)
  (Q (.tuple #[]) w)
theorem eq36 (v_data v_a v_b v_cmp : Value) (Q : Value → World → Prop) (w : World) : semF Try.prog 36 [v_data, v_a, v_b, v_cmp] Q w = S36 v_data v_a v_b v_cmp Q w := by kernel_rfl
theorem ref36 {v_data v_a v_b v_cmp : Value} {Q : Value → World → Prop} {w : World} (h : S36 v_data v_a v_b v_cmp Q w) : callS Try.prog 36 #[v_data, v_a, v_b, v_cmp] Q w :=
  callS_of mix (fun a w => Try.call36 a w) (by kernel_rfl) (by rw [eq36]; exact h)
-- slices.choosePivotCmpFunc[commons/api.Span]
def S37 (v_data v_a v_b v_cmp : Value) (Q : Value → World → Prop) (w : World) : Prop :=
 pur Try.prog (binS .sub 3 false false v_b v_a) fun t17 => 
 act Try.prog (Instr.alloc 3 true (.tuple #[])) (fun t11 w_1 => 
 pur Try.prog (binS .quo 3 false true t17 (.int .i64 4)) fun t20 => 
 pur Try.prog (binS .mul 3 false true t20 (.int .i64 1)) fun t21 => 
 pur Try.prog (binS .add 3 false false v_a t21) fun t22 => 
 pur Try.prog (binS .quo 3 false true t17 (.int .i64 4)) fun t25 => 
 pur Try.prog (binS .mul 3 false true t25 (.int .i64 2)) fun t26 => 
 pur Try.prog (binS .add 3 false false v_a t26) fun t27 => 
 pur Try.prog (binS .quo 3 false true t17 (.int .i64 4)) fun t30 => 
 pur Try.prog (binS .mul 3 false true t30 (.int .i64 3)) fun t31 => 
 pur Try.prog (binS .add 3 false false v_a t31) fun t32 => 
 jn 1 (fun J => 
  pur Try.prog (binS .geq 3 false true t17 (.int .i64 8)) fun t34 => 
  condS t34
   (jn 3 (fun J_1 => 
    pur Try.prog (binS .geq 3 false true t17 (.int .i64 50)) fun t36 => 
    condS t36
     (callS Try.prog 47 #[v_data, t22, t11, v_cmp] (fun t40 w_2 => 
     callS Try.prog 47 #[v_data, t27, t11, v_cmp] (fun t44 w_3 => 
     callS Try.prog 47 #[v_data, t32, t11, v_cmp] (fun t48 w_4 => 
     J_1 t40 t44 t48 w_4) w_3) w_2) w_1)
     (J_1 t22 t27 t32 w_1))
   (fun v_i v_j v_k w_5 => ∀ _j : Fr, 
    callS Try.prog 48 #[v_data, v_i, v_j, v_k, t11, v_cmp] (fun t54 w_6 => 
    J t54 w_6) w_5))
   (J t27 w_1))
 (fun v_j_1 w_7 => ∀ _j : Fr, 
  rd Try.prog (Instr.loadAt 3 t11) (fun t55 => 
  pur Try.prog (binS .eql 3 false true t55 (.int .i64 0)) fun t58 => 
  condS t58
   (Q (.tuple #[v_j_1, (.int .i64 1)]) w_7)
   (pur Try.prog (binS .eql 3 false true t55 (.int .i64 12)) fun t61 => 
   condS t61
    (Q (.tuple #[v_j_1, (.int .i64 2)]) w_7)
    (Q (.tuple #[v_j_1, (.int .i64 0)]) w_7))) w_7)) w
theorem eq37 (v_data v_a v_b v_cmp : Value) (Q : Value → World → Prop) (w : World) : semF Try.prog 37 [v_data, v_a, v_b, v_cmp] Q w = S37 v_data v_a v_b v_cmp Q w := by kernel_rfl
theorem ref37 {v_data v_a v_b v_cmp : Value} {Q : Value → World → Prop} {w : World} (h : S37 v_data v_a v_b v_cmp Q w) : callS Try.prog 37 #[v_data, v_a, v_b, v_cmp] Q w :=
  callS_of mix (fun a w => Try.call37 a w) (by kernel_rfl) (by rw [eq37]; exact h)
-- slices.reverseRangeCmpFunc[commons/api.Span]
def S38 (v_data v_a v_b _ : Value) (Q : Value → World → Prop) (w : World) : Prop :=
 pur Try.prog (binS .sub 3 false true v_b (.int .i64 1)) fun t12 => 
 lp 2 (fun J => fun v_i v_j w_1 => ∀ _j : Fr, 
  pur Try.prog (binS .lss 3 false false v_i v_j) fun t15 => 
  condS t15
   (pur Try.prog (Instr.indexAt 22 v_data v_j) fun t22 => 
  rd Try.prog (Instr.loadAt 27 t22) (fun t23 => 
  pur Try.prog (Instr.indexAt 22 v_data v_i) fun t26 => 
  rd Try.prog (Instr.loadAt 27 t26) (fun t27 => 
  pur Try.prog (Instr.indexAt 22 v_data v_i) fun t28 => 
  act Try.prog (thenU (Instr.storeAt 27 t28 t23)) (fun _ w_2 => 
  pur Try.prog (Instr.indexAt 22 v_data v_j) fun t29 => 
  act Try.prog (thenU (Instr.storeAt 27 t29 t27)) (fun _ w_3 => 
  pur Try.prog (binS .add 3 false true v_i (.int .i64 1)) fun t31 => 
  pur Try.prog (binS .sub 3 false true v_j (.int .i64 1)) fun t33 => 
  J t31 t33 w_3) w_2) (World.drew w_1)) (World.drew w_1)) (World.drew w_1))
   (Q (.tuple #[]) w_1)) [v_a, t12] w
theorem eq38 (v_data v_a v_b v_cmp : Value) (Q : Value → World → Prop) (w : World) : semF Try.prog 38 [v_data, v_a, v_b, v_cmp] Q w = S38 v_data v_a v_b v_cmp Q w := by kernel_rfl
theorem ref38 {v_data v_a v_b v_cmp : Value} {Q : Value → World → Prop} {w : World} (h : S38 v_data v_a v_b v_cmp Q w) : callS Try.prog 38 #[v_data, v_a, v_b, v_cmp] Q w :=
  callS_of mix (fun a w => Try.call38 a w) (by kernel_rfl) (by rw [eq38]; exact h)
-- slices.partialInsertionSortCmpFunc[commons/api.Span]
def S39 (v_data v_a v_b v_cmp : Value) (Q : Value → World → Prop) (w : World) : Prop :=
 pur Try.prog (binS .add 3 false true v_a (.int .i64 1)) fun t14 => 
 lp 2 (fun J => fun v_i v_j w_1 => ∀ _j : Fr, 
  pur Try.prog (binS .lss 3 false true v_j (.int .i64 5)) fun t16 => 
  condS t16
   (jn 1 (fun J_1 => 
   lp 1 (fun J_2 => fun v_i_1 w_2 => ∀ _j : Fr, 
    pur Try.prog (binS .lss 3 false false v_i_1 v_b) fun t21 => 
    gd t21 true (fun k w_3 => k v_cmp w_3) (fun t23_1 w_4 => 
    gd t21 true (fun k_1 w_5 => k_1 v_data w_5) (fun t24_1 w_6 => 
    gd t21 true (fun k_2 w_7 => k_2 v_i_1 w_7) (fun t25_1 w_8 => 
    gd t21 true (fun k_3 w_9 => pur Try.prog (Instr.indexAt 22 t24_1 t25_1) fun t26 => k_3 t26 w_9) (fun t26_1 w_10 => 
    gd t21 true (fun k_4 w_11 => rd Try.prog (Instr.loadAt 27 t26_1) (fun t27 => k_4 t27 w_11) w_11) (fun t27_1 w_12 => 
    gd t21 true (fun k_5 w_13 => k_5 v_data w_13) (fun t28_1 w_14 => 
    gd t21 true (fun k_6 w_15 => k_6 v_i_1 w_15) (fun t29_1 w_16 => 
    gd t21 true (fun k_7 w_17 => pur Try.prog (binS .sub 3 false true t29_1 (.int .i64 1)) fun t30 => k_7 t30 w_17) (fun t30_1 w_18 => 
    gd t21 true (fun k_8 w_19 => pur Try.prog (Instr.indexAt 22 t28_1 t30_1) fun t31 => k_8 t31 w_19) (fun t31_1 w_20 => 
    gd t21 true (fun k_9 w_21 => rd Try.prog (Instr.loadAt 27 t31_1) (fun t32 => k_9 t32 w_21) w_21) (fun t32_1 w_22 => 
    gd t21 true (fun k_10 w_23 => callF Try.prog t23_1 #[t27_1, t32_1] (fun t33 w_24 => k_10 t33 w_24) w_23) (fun t33_1 w_25 => 
    gd t21 true (fun k_11 w_26 => pur Try.prog (binS .lss 3 false true t33_1 (.int .i64 0)) fun t34 => k_11 t34 w_26) (fun t34_1 w_27 => 
    gd t21 true (fun k_12 w_28 => pur Try.prog (Op.unary .not t34_1) fun t35 => k_12 t35 w_28) (fun t35_1 w_29 => 
    pur Try.prog (pickS t21 t35_1 (.bool false)) fun t36 => 
    condS t36
     (pur Try.prog (binS .add 3 false true v_i_1 (.int .i64 1)) fun t38 => 
    J_2 t38 w_29)
     (pur Try.prog (binS .eql 3 false false v_i_1 v_b) fun t41 => 
   condS t41
    (Q (.bool true) w_29)
    (pur Try.prog (binS .sub 3 false false v_b v_a) fun t44 => 
   pur Try.prog (binS .lss 3 false true t44 (.int .i64 50)) fun t45 => 
   condS t45
    (Q (.bool false) w_29)
    (pur Try.prog (binS .sub 3 false true v_i_1 (.int .i64 1)) fun t50 => 
   pur Try.prog (binS .sub 3 false true v_i_1 (.int .i64 1)) fun t53 => 
   pur Try.prog (Instr.indexAt 22 v_data t53) fun t54 => 
   rd Try.prog (Instr.loadAt 27 t54) (fun t55 => 
   pur Try.prog (Instr.indexAt 22 v_data v_i_1) fun t58 => 
   rd Try.prog (Instr.loadAt 27 t58) (fun t59 => 
   pur Try.prog (Instr.indexAt 22 v_data v_i_1) fun t60 => 
   act Try.prog (thenU (Instr.storeAt 27 t60 t55)) (fun _ w_30 => 
   pur Try.prog (Instr.indexAt 22 v_data t50) fun t61 => 
   act Try.prog (thenU (Instr.storeAt 27 t61 t59)) (fun _ w_31 => 
   jn 0 (fun J_3 => 
    pur Try.prog (binS .sub 3 false false v_i_1 v_a) fun t64 => 
    pur Try.prog (binS .geq 3 false true t64 (.int .i64 2)) fun t65 => 
    condS t65
     (pur Try.prog (binS .sub 3 false true v_i_1 (.int .i64 1)) fun t67 => 
     lp 1 (fun J_4 => fun v_j_1 w_32 => ∀ _j : Fr, 
      pur Try.prog (binS .geq 3 false true v_j_1 (.int .i64 1)) fun t69 => 
      condS t69
       (pur Try.prog (Instr.indexAt 22 v_data v_j_1) fun t75 => 
      rd Try.prog (Instr.loadAt 27 t75) (fun t76 => 
      pur Try.prog (binS .sub 3 false true v_j_1 (.int .i64 1)) fun t79 => 
      pur Try.prog (Instr.indexAt 22 v_data t79) fun t80 => 
      rd Try.prog (Instr.loadAt 27 t80) (fun t81 => 
      callF Try.prog v_cmp #[t76, t81] (fun t82 w_33 => 
      pur Try.prog (binS .lss 3 false true t82 (.int .i64 0)) fun t83 => 
      pur Try.prog (Op.unary .not t83) fun t84 => 
      condS t84
       (J_3  w_33)
       (pur Try.prog (binS .sub 3 false true v_j_1 (.int .i64 1)) fun t89 => 
      pur Try.prog (binS .sub 3 false true v_j_1 (.int .i64 1)) fun t92 => 
      pur Try.prog (Instr.indexAt 22 v_data t92) fun t93 => 
      rd Try.prog (Instr.loadAt 27 t93) (fun t94 => 
      pur Try.prog (Instr.indexAt 22 v_data v_j_1) fun t97 => 
      rd Try.prog (Instr.loadAt 27 t97) (fun t98 => 
      pur Try.prog (Instr.indexAt 22 v_data v_j_1) fun t99 => 
      act Try.prog (thenU (Instr.storeAt 27 t99 t94)) (fun _ w_34 => 
      pur Try.prog (Instr.indexAt 22 v_data t89) fun t100 => 
      act Try.prog (thenU (Instr.storeAt 27 t100 t98)) (fun _ w_35 => 
      pur Try.prog (binS .sub 3 false true v_j_1 (.int .i64 1)) fun t71 => 
      J_4 t71 w_35) w_34) (World.drew w_33)) (World.drew w_33)) (World.drew w_33))) (World.drew w_32)) (World.drew w_32)) (World.drew w_32))
       (J_3  w_32)) [t67] w_31)
     (J_3  w_31))
   (fun  w_36 => ∀ _j : Fr, 
    pur Try.prog (binS .sub 3 false false v_b v_i_1) fun t103 => 
    pur Try.prog (binS .geq 3 false true t103 (.int .i64 2)) fun t104 => 
    condS t104
     (pur Try.prog (binS .add 3 false true v_i_1 (.int .i64 1)) fun t106 => 
     lp 1 (fun J_5 => fun v_j_2 w_37 => ∀ _j : Fr, 
      pur Try.prog (binS .lss 3 false false v_j_2 v_b) fun t109 => 
      condS t109
       (pur Try.prog (Instr.indexAt 22 v_data v_j_2) fun t115 => 
      rd Try.prog (Instr.loadAt 27 t115) (fun t116 => 
      pur Try.prog (binS .sub 3 false true v_j_2 (.int .i64 1)) fun t119 => 
      pur Try.prog (Instr.indexAt 22 v_data t119) fun t120 => 
      rd Try.prog (Instr.loadAt 27 t120) (fun t121 => 
      callF Try.prog v_cmp #[t116, t121] (fun t122 w_38 => 
      pur Try.prog (binS .lss 3 false true t122 (.int .i64 0)) fun t123 => 
      pur Try.prog (Op.unary .not t123) fun t124 => 
      condS t124
       (J_1 v_i_1 w_38)
       (pur Try.prog (binS .sub 3 false true v_j_2 (.int .i64 1)) fun t129 => 
      pur Try.prog (binS .sub 3 false true v_j_2 (.int .i64 1)) fun t132 => 
      pur Try.prog (Instr.indexAt 22 v_data t132) fun t133 => 
      rd Try.prog (Instr.loadAt 27 t133) (fun t134 => 
      pur Try.prog (Instr.indexAt 22 v_data v_j_2) fun t137 => 
      rd Try.prog (Instr.loadAt 27 t137) (fun t138 => 
      pur Try.prog (Instr.indexAt 22 v_data v_j_2) fun t139 => 
      act Try.prog (thenU (Instr.storeAt 27 t139 t134)) (fun _ w_39 => 
      pur Try.prog (Instr.indexAt 22 v_data t129) fun t140 => 
      act Try.prog (thenU (Instr.storeAt 27 t140 t138)) (fun _ w_40 => 
      pur Try.prog (binS .add 3 false true v_j_2 (.int .i64 1)) fun t111 => 
      J_5 t111 w_40) w_39) (World.drew w_38)) (World.drew w_38)) (World.drew w_38))) (World.drew w_37)) (World.drew w_37)) (World.drew w_37))
       (J_1 v_i_1 w_37)) [t106] w_36)
     (J_1 v_i_1 w_36))) w_30) (World.drew w_29)) (World.drew w_29)) (World.drew w_29))))) w_27) w_25) w_22) w_20) w_18) w_16) w_14) w_12) w_10) w_8) w_6) w_4) (World.drew w_2)) [v_i] w_1)
  (fun v_i_2 w_41 => ∀ _j : Fr, 
   pur Try.prog (binS .add 3 false true v_j (.int .i64 1)) fun t18 => 
   J v_i_2 t18 w_41))
   (Q (.bool false) w_1)) [t14, (.int .i64 0)] w
theorem eq39 (v_data v_a v_b v_cmp : Value) (Q : Value → World → Prop) (w : World) : semF Try.prog 39 [v_data, v_a, v_b, v_cmp] Q w = S39 v_data v_a v_b v_cmp Q w := by kernel_rfl
theorem ref39 {v_data v_a v_b v_cmp : Value} {Q : Value → World → Prop} {w : World} (h : S39 v_data v_a v_b v_cmp Q w) : callS Try.prog 39 #[v_data, v_a, v_b, v_cmp] Q w :=
  callS_of mix (fun a w => Try.call39 a w) (by kernel_rfl) (by rw [eq39]; exact h)
-- slices.partitionEqualCmpFunc[commons/api.Span]
def S40 (v_data v_a v_b v_pivot v_cmp : Value) (Q : Value → World → Prop) (w : World) : Prop :=
 pur Try.prog (Instr.indexAt 22 v_data v_pivot) fun t19 => 
 rd Try.prog (Instr.loadAt 27 t19) (fun t20 => 
 pur Try.prog (Instr.indexAt 22 v_data v_a) fun t23 => 
 rd Try.prog (Instr.loadAt 27 t23) (fun t24 => 
 pur Try.prog (Instr.indexAt 22 v_data v_a) fun t25 => 
 act Try.prog (thenU (Instr.storeAt 27 t25 t20)) (fun _ w_1 => 
 pur Try.prog (Instr.indexAt 22 v_data v_pivot) fun t26 => 
 act Try.prog (thenU (Instr.storeAt 27 t26 t24)) (fun _ w_2 => 
 pur Try.prog (binS .add 3 false true v_a (.int .i64 1)) fun t28 => 
 pur Try.prog (binS .sub 3 false true v_b (.int .i64 1)) fun t30 => 
 lp 2 (fun J => fun v_i v_j w_3 => ∀ _j : Fr, 
  lp 1 (fun J_1 => fun v_i_1 w_4 => ∀ _j : Fr, 
   pur Try.prog (binS .leq 3 false false v_i_1 v_j) fun t33 => 
   gd t33 true (fun k w_5 => k v_cmp w_5) (fun t35_1 w_6 => 
   gd t33 true (fun k_1 w_7 => k_1 v_data w_7) (fun t36_1 w_8 => 
   gd t33 true (fun k_2 w_9 => k_2 v_a w_9) (fun t37_1 w_10 => 
   gd t33 true (fun k_3 w_11 => pur Try.prog (Instr.indexAt 22 t36_1 t37_1) fun t38 => k_3 t38 w_11) (fun t38_1 w_12 => 
   gd t33 true (fun k_4 w_13 => rd Try.prog (Instr.loadAt 27 t38_1) (fun t39 => k_4 t39 w_13) w_13) (fun t39_1 w_14 => 
   gd t33 true (fun k_5 w_15 => k_5 v_data w_15) (fun t40_1 w_16 => 
   gd t33 true (fun k_6 w_17 => k_6 v_i_1 w_17) (fun t41_1 w_18 => 
   gd t33 true (fun k_7 w_19 => pur Try.prog (Instr.indexAt 22 t40_1 t41_1) fun t42 => k_7 t42 w_19) (fun t42_1 w_20 => 
   gd t33 true (fun k_8 w_21 => rd Try.prog (Instr.loadAt 27 t42_1) (fun t43 => k_8 t43 w_21) w_21) (fun t43_1 w_22 => 
   gd t33 true (fun k_9 w_23 => callF Try.prog t35_1 #[t39_1, t43_1] (fun t44 w_24 => k_9 t44 w_24) w_23) (fun t44_1 w_25 => 
   gd t33 true (fun k_10 w_26 => pur Try.prog (binS .lss 3 false true t44_1 (.int .i64 0)) fun t45 => k_10 t45 w_26) (fun t45_1 w_27 => 
   gd t33 true (fun k_11 w_28 => pur Try.prog (Op.unary .not t45_1) fun t46 => k_11 t46 w_28) (fun t46_1 w_29 => 
   pur Try.prog (pickS t33 t46_1 (.bool false)) fun t47 => 
   condS t47
    (pur Try.prog (binS .add 3 false true v_i_1 (.int .i64 1)) fun t49 => 
   J_1 t49 w_29)
    (lp 1 (fun J_2 => fun v_j_1 w_30 => ∀ _j : Fr, 
   pur Try.prog (binS .leq 3 false false v_i_1 v_j_1) fun t52 => 
   gd t52 true (fun k_12 w_31 => k_12 v_cmp w_31) (fun t54_1 w_32 => 
   gd t52 true (fun k_13 w_33 => k_13 v_data w_33) (fun t55_1 w_34 => 
   gd t52 true (fun k_14 w_35 => k_14 v_a w_35) (fun t56_1 w_36 => 
   gd t52 true (fun k_15 w_37 => pur Try.prog (Instr.indexAt 22 t55_1 t56_1) fun t57 => k_15 t57 w_37) (fun t57_1 w_38 => 
   gd t52 true (fun k_16 w_39 => rd Try.prog (Instr.loadAt 27 t57_1) (fun t58 => k_16 t58 w_39) w_39) (fun t58_1 w_40 => 
   gd t52 true (fun k_17 w_41 => k_17 v_data w_41) (fun t59_1 w_42 => 
   gd t52 true (fun k_18 w_43 => k_18 v_j_1 w_43) (fun t60_1 w_44 => 
   gd t52 true (fun k_19 w_45 => pur Try.prog (Instr.indexAt 22 t59_1 t60_1) fun t61 => k_19 t61 w_45) (fun t61_1 w_46 => 
   gd t52 true (fun k_20 w_47 => rd Try.prog (Instr.loadAt 27 t61_1) (fun t62 => k_20 t62 w_47) w_47) (fun t62_1 w_48 => 
   gd t52 true (fun k_21 w_49 => callF Try.prog t54_1 #[t58_1, t62_1] (fun t63 w_50 => k_21 t63 w_50) w_49) (fun t63_1 w_51 => 
   gd t52 true (fun k_22 w_52 => pur Try.prog (binS .lss 3 false true t63_1 (.int .i64 0)) fun t64 => k_22 t64 w_52) (fun t64_1 w_53 => 
   pur Try.prog (pickS t52 t64_1 (.bool false)) fun t65 => 
   condS t65
    (pur Try.prog (binS .sub 3 false true v_j_1 (.int .i64 1)) fun t67 => 
   J_2 t67 w_53)
    (pur Try.prog (binS .gtr 3 false false v_i_1 v_j_1) fun t70 => 
  condS t70
   (Q v_i_1 w_53)
   (pur Try.prog (Instr.indexAt 22 v_data v_j_1) fun t77 => 
  rd Try.prog (Instr.loadAt 27 t77) (fun t78 => 
  pur Try.prog (Instr.indexAt 22 v_data v_i_1) fun t81 => 
  rd Try.prog (Instr.loadAt 27 t81) (fun t82 => 
  pur Try.prog (Instr.indexAt 22 v_data v_i_1) fun t83 => 
  act Try.prog (thenU (Instr.storeAt 27 t83 t78)) (fun _ w_54 => 
  pur Try.prog (Instr.indexAt 22 v_data v_j_1) fun t84 => 
  act Try.prog (thenU (Instr.storeAt 27 t84 t82)) (fun _ w_55 => 
  pur Try.prog (binS .add 3 false true v_i_1 (.int .i64 1)) fun t86 => 
  pur Try.prog (binS .sub 3 false true v_j_1 (.int .i64 1)) fun t88 => 
  J t86 t88 w_55) w_54) (World.drew w_53)) (World.drew w_53)) (World.drew w_53)))) w_51) w_48) w_46) w_44) w_42) w_40) w_38) w_36) w_34) w_32) (World.drew w_30)) [v_j] w_29)) w_27) w_25) w_22) w_20) w_18) w_16) w_14) w_12) w_10) w_8) w_6) (World.drew w_4)) [v_i] w_3) [t28, t30] w_2) w_1) (World.drew w)) (World.drew w)) (World.drew w)
theorem eq40 (v_data v_a v_b v_pivot v_cmp : Value) (Q : Value → World → Prop) (w : World) : semF Try.prog 40 [v_data, v_a, v_b, v_pivot, v_cmp] Q w = S40 v_data v_a v_b v_pivot v_cmp Q w := by kernel_rfl
theorem ref40 {v_data v_a v_b v_pivot v_cmp : Value} {Q : Value → World → Prop} {w : World} (h : S40 v_data v_a v_b v_pivot v_cmp Q w) : callS Try.prog 40 #[v_data, v_a, v_b, v_pivot, v_cmp] Q w :=
  callS_of mix (fun a w => Try.call40 a w) (by kernel_rfl) (by rw [eq40]; exact h)
-- slices.partitionCmpFunc[commons/api.Span]
def S41 (v_data v_a v_b v_pivot v_cmp : Value) (Q : Value → World → Prop) (w : World) : Prop :=
 pur Try.prog (Instr.indexAt 22 v_data v_pivot) fun t20 => 
 rd Try.prog (Instr.loadAt 27 t20) (fun t21 => 
 pur Try.prog (Instr.indexAt 22 v_data v_a) fun t24 => 
 rd Try.prog (Instr.loadAt 27 t24) (fun t25 => 
 pur Try.prog (Instr.indexAt 22 v_data v_a) fun t26 => 
 act Try.prog (thenU (Instr.storeAt 27 t26 t21)) (fun _ w_1 => 
 pur Try.prog (Instr.indexAt 22 v_data v_pivot) fun t27 => 
 act Try.prog (thenU (Instr.storeAt 27 t27 t25)) (fun _ w_2 => 
 pur Try.prog (binS .add 3 false true v_a (.int .i64 1)) fun t29 => 
 pur Try.prog (binS .sub 3 false true v_b (.int .i64 1)) fun t31 => 
 lp 1 (fun J => fun v_i w_3 => ∀ _j : Fr, 
  pur Try.prog (binS .leq 3 false false v_i t31) fun t34 => 
  gd t34 true (fun k w_4 => k v_cmp w_4) (fun t36_1 w_5 => 
  gd t34 true (fun k_1 w_6 => k_1 v_data w_6) (fun t37_1 w_7 => 
  gd t34 true (fun k_2 w_8 => k_2 v_i w_8) (fun t38_1 w_9 => 
  gd t34 true (fun k_3 w_10 => pur Try.prog (Instr.indexAt 22 t37_1 t38_1) fun t39 => k_3 t39 w_10) (fun t39_1 w_11 => 
  gd t34 true (fun k_4 w_12 => rd Try.prog (Instr.loadAt 27 t39_1) (fun t40 => k_4 t40 w_12) w_12) (fun t40_1 w_13 => 
  gd t34 true (fun k_5 w_14 => k_5 v_data w_14) (fun t41_1 w_15 => 
  gd t34 true (fun k_6 w_16 => k_6 v_a w_16) (fun t42_1 w_17 => 
  gd t34 true (fun k_7 w_18 => pur Try.prog (Instr.indexAt 22 t41_1 t42_1) fun t43 => k_7 t43 w_18) (fun t43_1 w_19 => 
  gd t34 true (fun k_8 w_20 => rd Try.prog (Instr.loadAt 27 t43_1) (fun t44 => k_8 t44 w_20) w_20) (fun t44_1 w_21 => 
  gd t34 true (fun k_9 w_22 => callF Try.prog t36_1 #[t40_1, t44_1] (fun t45 w_23 => k_9 t45 w_23) w_22) (fun t45_1 w_24 => 
  gd t34 true (fun k_10 w_25 => pur Try.prog (binS .lss 3 false true t45_1 (.int .i64 0)) fun t46 => k_10 t46 w_25) (fun t46_1 w_26 => 
  pur Try.prog (pickS t34 t46_1 (.bool false)) fun t47 => 
  condS t47
   (pur Try.prog (binS .add 3 false true v_i (.int .i64 1)) fun t49 => 
  J t49 w_26)
   (lp 1 (fun J_1 => fun v_j w_27 => ∀ _j : Fr, 
  pur Try.prog (binS .leq 3 false false v_i v_j) fun t52 => 
  gd t52 true (fun k_11 w_28 => k_11 v_cmp w_28) (fun t54_1 w_29 => 
  gd t52 true (fun k_12 w_30 => k_12 v_data w_30) (fun t55_1 w_31 => 
  gd t52 true (fun k_13 w_32 => k_13 v_j w_32) (fun t56_1 w_33 => 
  gd t52 true (fun k_14 w_34 => pur Try.prog (Instr.indexAt 22 t55_1 t56_1) fun t57 => k_14 t57 w_34) (fun t57_1 w_35 => 
  gd t52 true (fun k_15 w_36 => rd Try.prog (Instr.loadAt 27 t57_1) (fun t58 => k_15 t58 w_36) w_36) (fun t58_1 w_37 => 
  gd t52 true (fun k_16 w_38 => k_16 v_data w_38) (fun t59_1 w_39 => 
  gd t52 true (fun k_17 w_40 => k_17 v_a w_40) (fun t60_1 w_41 => 
  gd t52 true (fun k_18 w_42 => pur Try.prog (Instr.indexAt 22 t59_1 t60_1) fun t61 => k_18 t61 w_42) (fun t61_1 w_43 => 
  gd t52 true (fun k_19 w_44 => rd Try.prog (Instr.loadAt 27 t61_1) (fun t62 => k_19 t62 w_44) w_44) (fun t62_1 w_45 => 
  gd t52 true (fun k_20 w_46 => callF Try.prog t54_1 #[t58_1, t62_1] (fun t63 w_47 => k_20 t63 w_47) w_46) (fun t63_1 w_48 => 
  gd t52 true (fun k_21 w_49 => pur Try.prog (binS .lss 3 false true t63_1 (.int .i64 0)) fun t64 => k_21 t64 w_49) (fun t64_1 w_50 => 
  gd t52 true (fun k_22 w_51 => pur Try.prog (Op.unary .not t64_1) fun t65 => k_22 t65 w_51) (fun t65_1 w_52 => 
  pur Try.prog (pickS t52 t65_1 (.bool false)) fun t66 => 
  condS t66
   (pur Try.prog (binS .sub 3 false true v_j (.int .i64 1)) fun t68 => 
  J_1 t68 w_52)
   (pur Try.prog (binS .gtr 3 false false v_i v_j) fun t71 => 
 condS t71
  (pur Try.prog (Instr.indexAt 22 v_data v_a) fun t78 => 
  rd Try.prog (Instr.loadAt 27 t78) (fun t79 => 
  pur Try.prog (Instr.indexAt 22 v_data v_j) fun t82 => 
  rd Try.prog (Instr.loadAt 27 t82) (fun t83 => 
  pur Try.prog (Instr.indexAt 22 v_data v_j) fun t84 => 
  act Try.prog (thenU (Instr.storeAt 27 t84 t79)) (fun _ w_53 => 
  pur Try.prog (Instr.indexAt 22 v_data v_a) fun t85 => 
  act Try.prog (thenU (Instr.storeAt 27 t85 t83)) (fun _ w_54 => 
  Q (.tuple #[v_j, (.bool true)]) w_54) w_53) (World.drew w_52)) (World.drew w_52)) (World.drew w_52))
  (pur Try.prog (Instr.indexAt 22 v_data v_j) fun t93 => 
 rd Try.prog (Instr.loadAt 27 t93) (fun t94 => 
 pur Try.prog (Instr.indexAt 22 v_data v_i) fun t97 => 
 rd Try.prog (Instr.loadAt 27 t97) (fun t98 => 
 pur Try.prog (Instr.indexAt 22 v_data v_i) fun t99 => 
 act Try.prog (thenU (Instr.storeAt 27 t99 t94)) (fun _ w_55 => 
 pur Try.prog (Instr.indexAt 22 v_data v_j) fun t100 => 
 act Try.prog (thenU (Instr.storeAt 27 t100 t98)) (fun _ w_56 => 
 pur Try.prog (binS .add 3 false true v_i (.int .i64 1)) fun t102 => 
 pur Try.prog (binS .sub 3 false true v_j (.int .i64 1)) fun t104 => 
 lp 2 (fun J_2 => fun v_i_1 v_j_1 w_57 => ∀ _j : Fr, 
  lp 1 (fun J_3 => fun v_i_2 w_58 => ∀ _j : Fr, 
   pur Try.prog (binS .leq 3 false false v_i_2 v_j_1) fun t107 => 
   gd t107 true (fun k_23 w_59 => k_23 v_cmp w_59) (fun t109_1 w_60 => 
   gd t107 true (fun k_24 w_61 => k_24 v_data w_61) (fun t110_1 w_62 => 
   gd t107 true (fun k_25 w_63 => k_25 v_i_2 w_63) (fun t111_1 w_64 => 
   gd t107 true (fun k_26 w_65 => pur Try.prog (Instr.indexAt 22 t110_1 t111_1) fun t112 => k_26 t112 w_65) (fun t112_1 w_66 => 
   gd t107 true (fun k_27 w_67 => rd Try.prog (Instr.loadAt 27 t112_1) (fun t113 => k_27 t113 w_67) w_67) (fun t113_1 w_68 => 
   gd t107 true (fun k_28 w_69 => k_28 v_data w_69) (fun t114_1 w_70 => 
   gd t107 true (fun k_29 w_71 => k_29 v_a w_71) (fun t115_1 w_72 => 
   gd t107 true (fun k_30 w_73 => pur Try.prog (Instr.indexAt 22 t114_1 t115_1) fun t116 => k_30 t116 w_73) (fun t116_1 w_74 => 
   gd t107 true (fun k_31 w_75 => rd Try.prog (Instr.loadAt 27 t116_1) (fun t117 => k_31 t117 w_75) w_75) (fun t117_1 w_76 => 
   gd t107 true (fun k_32 w_77 => callF Try.prog t109_1 #[t113_1, t117_1] (fun t118 w_78 => k_32 t118 w_78) w_77) (fun t118_1 w_79 => 
   gd t107 true (fun k_33 w_80 => pur Try.prog (binS .lss 3 false true t118_1 (.int .i64 0)) fun t119 => k_33 t119 w_80) (fun t119_1 w_81 => 
   pur Try.prog (pickS t107 t119_1 (.bool false)) fun t120 => 
   condS t120
    (pur Try.prog (binS .add 3 false true v_i_2 (.int .i64 1)) fun t122 => 
   J_3 t122 w_81)
    (lp 1 (fun J_4 => fun v_j_2 w_82 => ∀ _j : Fr, 
   pur Try.prog (binS .leq 3 false false v_i_2 v_j_2) fun t125 => 
   gd t125 true (fun k_34 w_83 => k_34 v_cmp w_83) (fun t127_1 w_84 => 
   gd t125 true (fun k_35 w_85 => k_35 v_data w_85) (fun t128_1 w_86 => 
   gd t125 true (fun k_36 w_87 => k_36 v_j_2 w_87) (fun t129_1 w_88 => 
   gd t125 true (fun k_37 w_89 => pur Try.prog (Instr.indexAt 22 t128_1 t129_1) fun t130 => k_37 t130 w_89) (fun t130_1 w_90 => 
   gd t125 true (fun k_38 w_91 => rd Try.prog (Instr.loadAt 27 t130_1) (fun t131 => k_38 t131 w_91) w_91) (fun t131_1 w_92 => 
   gd t125 true (fun k_39 w_93 => k_39 v_data w_93) (fun t132_1 w_94 => 
   gd t125 true (fun k_40 w_95 => k_40 v_a w_95) (fun t133_1 w_96 => 
   gd t125 true (fun k_41 w_97 => pur Try.prog (Instr.indexAt 22 t132_1 t133_1) fun t134 => k_41 t134 w_97) (fun t134_1 w_98 => 
   gd t125 true (fun k_42 w_99 => rd Try.prog (Instr.loadAt 27 t134_1) (fun t135 => k_42 t135 w_99) w_99) (fun t135_1 w_100 => 
   gd t125 true (fun k_43 w_101 => callF Try.prog t127_1 #[t131_1, t135_1] (fun t136 w_102 => k_43 t136 w_102) w_101) (fun t136_1 w_103 => 
   gd t125 true (fun k_44 w_104 => pur Try.prog (binS .lss 3 false true t136_1 (.int .i64 0)) fun t137 => k_44 t137 w_104) (fun t137_1 w_105 => 
   gd t125 true (fun k_45 w_106 => pur Try.prog (Op.unary .not t137_1) fun t138 => k_45 t138 w_106) (fun t138_1 w_107 => 
   pur Try.prog (pickS t125 t138_1 (.bool false)) fun t139 => 
   condS t139
    (pur Try.prog (binS .sub 3 false true v_j_2 (.int .i64 1)) fun t141 => 
   J_4 t141 w_107)
    (pur Try.prog (binS .gtr 3 false false v_i_2 v_j_2) fun t144 => 
  condS t144
   (pur Try.prog (Instr.indexAt 22 v_data v_a) fun t169 => 
 rd Try.prog (Instr.loadAt 27 t169) (fun t170 => 
 pur Try.prog (Instr.indexAt 22 v_data v_j_2) fun t173 => 
 rd Try.prog (Instr.loadAt 27 t173) (fun t174 => 
 pur Try.prog (Instr.indexAt 22 v_data v_j_2) fun t175 => 
 act Try.prog (thenU (Instr.storeAt 27 t175 t170)) (fun _ w_108 => 
 pur Try.prog (Instr.indexAt 22 v_data v_a) fun t176 => 
 act Try.prog (thenU (Instr.storeAt 27 t176 t174)) (fun _ w_109 => 
 Q (.tuple #[v_j_2, (.bool false)]) w_109) w_108) (World.drew w_107)) (World.drew w_107)) (World.drew w_107))
   (pur Try.prog (Instr.indexAt 22 v_data v_j_2) fun t151 => 
  rd Try.prog (Instr.loadAt 27 t151) (fun t152 => 
  pur Try.prog (Instr.indexAt 22 v_data v_i_2) fun t155 => 
  rd Try.prog (Instr.loadAt 27 t155) (fun t156 => 
  pur Try.prog (Instr.indexAt 22 v_data v_i_2) fun t157 => 
  act Try.prog (thenU (Instr.storeAt 27 t157 t152)) (fun _ w_110 => 
  pur Try.prog (Instr.indexAt 22 v_data v_j_2) fun t158 => 
  act Try.prog (thenU (Instr.storeAt 27 t158 t156)) (fun _ w_111 => 
  pur Try.prog (binS .add 3 false true v_i_2 (.int .i64 1)) fun t160 => 
  pur Try.prog (binS .sub 3 false true v_j_2 (.int .i64 1)) fun t162 => 
  J_2 t160 t162 w_111) w_110) (World.drew w_107)) (World.drew w_107)) (World.drew w_107)))) w_105) w_103) w_100) w_98) w_96) w_94) w_92) w_90) w_88) w_86) w_84) (World.drew w_82)) [v_j_1] w_81)) w_79) w_76) w_74) w_72) w_70) w_68) w_66) w_64) w_62) w_60) (World.drew w_58)) [v_i_1] w_57) [t102, t104] w_56) w_55) (World.drew w_52)) (World.drew w_52)) (World.drew w_52)))) w_50) w_48) w_45) w_43) w_41) w_39) w_37) w_35) w_33) w_31) w_29) (World.drew w_27)) [t31] w_26)) w_24) w_21) w_19) w_17) w_15) w_13) w_11) w_9) w_7) w_5) (World.drew w_3)) [t29] w_2) w_1) (World.drew w)) (World.drew w)) (World.drew w)
theorem eq41 (v_data v_a v_b v_pivot v_cmp : Value) (Q : Value → World → Prop) (w : World) : semF Try.prog 41 [v_data, v_a, v_b, v_pivot, v_cmp] Q w = S41 v_data v_a v_b v_pivot v_cmp Q w := by kernel_rfl
theorem ref41 {v_data v_a v_b v_pivot v_cmp : Value} {Q : Value → World → Prop} {w : World} (h : S41 v_data v_a v_b v_pivot v_cmp Q w) : callS Try.prog 41 #[v_data, v_a, v_b, v_pivot, v_cmp] Q w :=
  callS_of mix (fun a w => Try.call41 a w) (by kernel_rfl) (by rw [eq41]; exact h)
-- math/bits.Len32
def S42 (v_x : Value) (Q : Value → World → Prop) (w : World) : Prop :=
 jn 2 (fun J => 
  pur Try.prog (binS .geq 64 false true v_x (.int .u32 65536)) fun t4 => 
  condS t4
   (pur Try.prog (binS .shr 64 false true v_x (.int .u64 16)) fun t6 => 
   J t6 (.int .i64 16) w)
   (J v_x (.int .i64 0) w))
 (fun v_x_1 v_n w_1 => ∀ _j : Fr, 
  jn 2 (fun J_1 => 
   pur Try.prog (binS .geq 64 false true v_x_1 (.int .u32 256)) fun t8 => 
   condS t8
    (pur Try.prog (binS .shr 64 false true v_x_1 (.int .u64 8)) fun t10 => 
    pur Try.prog (binS .add 3 false true v_n (.int .i64 8)) fun t12 => 
    J_1 t10 t12 w_1)
    (J_1 v_x_1 v_n w_1))
  (fun v_x_2 v_n_1 w_2 => ∀ _j : Fr, 
   pur Try.prog (convert 64 5 v_x_2) fun t15 => 
   pur Try.prog (Instr.index 9 (.string ⟨#[0, 1, 2, 2, 3, 3, 3, 3, 4, 4, 4, 4, 4, 4, 4, 4, 5, 5, 5, 5, 5, 5, 5, 5, 5, 5, 5, 5, 5, 5, 5, 5, 6, 6, 6, 6, 6, 6, 6, 6, 6, 6, 6, 6, 6, 6, 6, 6, 6, 6, 6, 6, 6, 6, 6, 6, 6, 6, 6, 6, 6, 6, 6, 6, 7, 7, 7, 7, 7, 7, 7, 7, 7, 7, 7, 7, 7, 7, 7, 7, 7, 7, 7, 7, 7, 7, 7, 7, 7, 7, 7, 7, 7, 7, 7, 7, 7, 7, 7, 7, 7, 7, 7, 7, 7, 7, 7, 7, 7, 7, 7, 7, 7, 7, 7, 7, 7, 7, 7, 7, 7, 7, 7, 7, 7, 7, 7, 7, 8, 8, 8, 8, 8, 8, 8, 8, 8, 8, 8, 8, 8, 8, 8, 8, 8, 8, 8, 8, 8, 8, 8, 8, 8, 8, 8, 8, 8, 8, 8, 8, 8, 8, 8, 8, 8, 8, 8, 8, 8, 8, 8, 8, 8, 8, 8, 8, 8, 8, 8, 8, 8, 8, 8, 8, 8, 8, 8, 8, 8, 8, 8, 8, 8, 8, 8, 8, 8, 8, 8, 8, 8, 8, 8, 8, 8, 8, 8, 8, 8, 8, 8, 8, 8, 8, 8, 8, 8, 8, 8, 8, 8, 8, 8, 8, 8, 8, 8, 8, 8, 8, 8, 8, 8, 8, 8, 8, 8, 8, 8, 8, 8, 8, 8, 8, 8, 8, 8, 8, 8, 8, 8, 8, 8, 8, 8, 8]⟩) t15) fun t16 => 
   pur Try.prog (convert 5 3 t16) fun t17 => 
   pur Try.prog (binS .add 3 false false v_n_1 t17) fun t18 => 
   Q t18 w_2))
theorem eq42 (v_x : Value) (Q : Value → World → Prop) (w : World) : semF Try.prog 42 [v_x] Q w = S42 v_x Q w := by kernel_rfl
theorem ref42 {v_x : Value} {Q : Value → World → Prop} {w : World} (h : S42 v_x Q w) : callS Try.prog 42 #[v_x] Q w :=
  callS_of mix (fun a w => Try.call42 a w) (by kernel_rfl) (by rw [eq42]; exact h)
-- math/bits.Len64
def S43 (v_x : Value) (Q : Value → World → Prop) (w : World) : Prop :=
 jn 2 (fun J => 
  pur Try.prog (binS .geq 66 false true v_x (.int .u64 4294967296)) fun t4 => 
  condS t4
   (pur Try.prog (binS .shr 66 false true v_x (.int .u64 32)) fun t6 => 
   J t6 (.int .i64 32) w)
   (J v_x (.int .i64 0) w))
 (fun v_x_1 v_n w_1 => ∀ _j : Fr, 
  jn 2 (fun J_1 => 
   pur Try.prog (binS .geq 66 false true v_x_1 (.int .u64 65536)) fun t8 => 
   condS t8
    (pur Try.prog (binS .shr 66 false true v_x_1 (.int .u64 16)) fun t10 => 
    pur Try.prog (binS .add 3 false true v_n (.int .i64 16)) fun t12 => 
    J_1 t10 t12 w_1)
    (J_1 v_x_1 v_n w_1))
  (fun v_x_2 v_n_1 w_2 => ∀ _j : Fr, 
   jn 2 (fun J_2 => 
    pur Try.prog (binS .geq 66 false true v_x_2 (.int .u64 256)) fun t14 => 
    condS t14
     (pur Try.prog (binS .shr 66 false true v_x_2 (.int .u64 8)) fun t16 => 
     pur Try.prog (binS .add 3 false true v_n_1 (.int .i64 8)) fun t18 => 
     J_2 t16 t18 w_2)
     (J_2 v_x_2 v_n_1 w_2))
   (fun v_x_3 v_n_2 w_3 => ∀ _j : Fr, 
    pur Try.prog (convert 66 5 v_x_3) fun t21 => 
    pur Try.prog (Instr.index 9 (.string ⟨#[0, 1, 2, 2, 3, 3, 3, 3, 4, 4, 4, 4, 4, 4, 4, 4, 5, 5, 5, 5, 5, 5, 5, 5, 5, 5, 5, 5, 5, 5, 5, 5, 6, 6, 6, 6, 6, 6, 6, 6, 6, 6, 6, 6, 6, 6, 6, 6, 6, 6, 6, 6, 6, 6, 6, 6, 6, 6, 6, 6, 6, 6, 6, 6, 7, 7, 7, 7, 7, 7, 7, 7, 7, 7, 7, 7, 7, 7, 7, 7, 7, 7, 7, 7, 7, 7, 7, 7, 7, 7, 7, 7, 7, 7, 7, 7, 7, 7, 7, 7, 7, 7, 7, 7, 7, 7, 7, 7, 7, 7, 7, 7, 7, 7, 7, 7, 7, 7, 7, 7, 7, 7, 7, 7, 7, 7, 7, 7, 8, 8, 8, 8, 8, 8, 8, 8, 8, 8, 8, 8, 8, 8, 8, 8, 8, 8, 8, 8, 8, 8, 8, 8, 8, 8, 8, 8, 8, 8, 8, 8, 8, 8, 8, 8, 8, 8, 8, 8, 8, 8, 8, 8, 8, 8, 8, 8, 8, 8, 8, 8, 8, 8, 8, 8, 8, 8, 8, 8, 8, 8, 8, 8, 8, 8, 8, 8, 8, 8, 8, 8, 8, 8, 8, 8, 8, 8, 8, 8, 8, 8, 8, 8, 8, 8, 8, 8, 8, 8, 8, 8, 8, 8, 8, 8, 8, 8, 8, 8, 8, 8, 8, 8, 8, 8, 8, 8, 8, 8, 8, 8, 8, 8, 8, 8, 8, 8, 8, 8, 8, 8, 8, 8, 8, 8, 8, 8]⟩) t21) fun t22 => 
    pur Try.prog (convert 5 3 t22) fun t23 => 
    pur Try.prog (binS .add 3 false false v_n_2 t23) fun t24 => 
    Q t24 w_3)))
theorem eq43 (v_x : Value) (Q : Value → World → Prop) (w : World) : semF Try.prog 43 [v_x] Q w = S43 v_x Q w := by kernel_rfl
theorem ref43 {v_x : Value} {Q : Value → World → Prop} {w : World} (h : S43 v_x Q w) : callS Try.prog 43 #[v_x] Q w :=
  callS_of mix (fun a w => Try.call43 a w) (by kernel_rfl) (by rw [eq43]; exact h)
-- slices.siftDownCmpFunc[commons/api.Span]
def S44 (v_data v_lo v_hi v_first v_cmp : Value) (Q : Value → World → Prop) (w : World) : Prop :=
 lp 1 (fun J => fun v_root w_1 => ∀ _j : Fr, 
  pur Try.prog (binS .mul 3 true false (.int .i64 2) v_root) fun t14 => 
  pur Try.prog (binS .add 3 false true t14 (.int .i64 1)) fun t15 => 
  pur Try.prog (binS .geq 3 false false t15 v_hi) fun t18 => 
  condS t18
   (Q (.tuple #[]) w_1)
   (jn 1 (fun J_1 => 
   pur Try.prog (binS .add 3 false true t15 (.int .i64 1)) fun t20 => 
   pur Try.prog (binS .lss 3 false false t20 v_hi) fun t22 => 
   gd t22 true (fun k w_2 => k v_cmp w_2) (fun t24_1 w_3 => 
   gd t22 true (fun k_1 w_4 => k_1 v_data w_4) (fun t25_1 w_5 => 
   gd t22 true (fun k_2 w_6 => k_2 v_first w_6) (fun t26_1 w_7 => 
   gd t22 true (fun k_3 w_8 => k_3 t15 w_8) (fun t27_1 w_9 => 
   gd t22 true (fun k_4 w_10 => pur Try.prog (binS .add 3 false false t26_1 t27_1) fun t28 => k_4 t28 w_10) (fun t28_1 w_11 => 
   gd t22 true (fun k_5 w_12 => pur Try.prog (Instr.indexAt 22 t25_1 t28_1) fun t29 => k_5 t29 w_12) (fun t29_1 w_13 => 
   gd t22 true (fun k_6 w_14 => rd Try.prog (Instr.loadAt 27 t29_1) (fun t30 => k_6 t30 w_14) w_14) (fun t30_1 w_15 => 
   gd t22 true (fun k_7 w_16 => k_7 v_data w_16) (fun t31_1 w_17 => 
   gd t22 true (fun k_8 w_18 => k_8 v_first w_18) (fun t32_1 w_19 => 
   gd t22 true (fun k_9 w_20 => k_9 t15 w_20) (fun t33_1 w_21 => 
   gd t22 true (fun k_10 w_22 => pur Try.prog (binS .add 3 false false t32_1 t33_1) fun t34 => k_10 t34 w_22) (fun t34_1 w_23 => 
   gd t22 true (fun k_11 w_24 => pur Try.prog (binS .add 3 false true t34_1 (.int .i64 1)) fun t35 => k_11 t35 w_24) (fun t35_1 w_25 => 
   gd t22 true (fun k_12 w_26 => pur Try.prog (Instr.indexAt 22 t31_1 t35_1) fun t36 => k_12 t36 w_26) (fun t36_1 w_27 => 
   gd t22 true (fun k_13 w_28 => rd Try.prog (Instr.loadAt 27 t36_1) (fun t37 => k_13 t37 w_28) w_28) (fun t37_1 w_29 => 
   gd t22 true (fun k_14 w_30 => callF Try.prog t24_1 #[t30_1, t37_1] (fun t38 w_31 => k_14 t38 w_31) w_30) (fun t38_1 w_32 => 
   gd t22 true (fun k_15 w_33 => pur Try.prog (binS .lss 3 false true t38_1 (.int .i64 0)) fun t39 => k_15 t39 w_33) (fun t39_1 w_34 => 
   pur Try.prog (pickS t22 t39_1 (.bool false)) fun t40 => 
   condS t40
    (pur Try.prog (binS .add 3 false true t15 (.int .i64 1)) fun t42 => 
    J_1 t42 w_34)
    (J_1 t15 w_34)) w_32) w_29) w_27) w_25) w_23) w_21) w_19) w_17) w_15) w_13) w_11) w_9) w_7) w_5) w_3) (World.drew w_1))
  (fun v_child w_35 => ∀ _j : Fr, 
   pur Try.prog (binS .add 3 false false v_first v_root) fun t47 => 
   pur Try.prog (Instr.indexAt 22 v_data t47) fun t48 => 
   rd Try.prog (Instr.loadAt 27 t48) (fun t49 => 
   pur Try.prog (binS .add 3 false false v_first v_child) fun t53 => 
   pur Try.prog (Instr.indexAt 22 v_data t53) fun t54 => 
   rd Try.prog (Instr.loadAt 27 t54) (fun t55 => 
   callF Try.prog v_cmp #[t49, t55] (fun t56 w_36 => 
   pur Try.prog (binS .lss 3 false true t56 (.int .i64 0)) fun t57 => 
   pur Try.prog (Op.unary .not t57) fun t58 => 
   condS t58
    (Q (.tuple #[]) w_36)
    (pur Try.prog (binS .add 3 false false v_first v_root) fun t62 => 
   pur Try.prog (binS .add 3 false false v_first v_child) fun t66 => 
   pur Try.prog (binS .add 3 false false v_first v_child) fun t70 => 
   pur Try.prog (Instr.indexAt 22 v_data t70) fun t71 => 
   rd Try.prog (Instr.loadAt 27 t71) (fun t72 => 
   pur Try.prog (binS .add 3 false false v_first v_root) fun t76 => 
   pur Try.prog (Instr.indexAt 22 v_data t76) fun t77 => 
   rd Try.prog (Instr.loadAt 27 t77) (fun t78 => 
   pur Try.prog (Instr.indexAt 22 v_data t62) fun t79 => 
   act Try.prog (thenU (Instr.storeAt 27 t79 t72)) (fun _ w_37 => 
   pur Try.prog (Instr.indexAt 22 v_data t66) fun t80 => 
   act Try.prog (thenU (Instr.storeAt 27 t80 t78)) (fun _ w_38 => 
   J v_child w_38) w_37) (World.drew w_36)) (World.drew w_36)) (World.drew w_36))) (World.drew w_35)) (World.drew w_35)) (World.drew w_35)))) [v_lo] w
theorem eq44 (v_data v_lo v_hi v_first v_cmp : Value) (Q : Value → World → Prop) (w : World) : semF Try.prog 44 [v_data, v_lo, v_hi, v_first, v_cmp] Q w = S44 v_data v_lo v_hi v_first v_cmp Q w := by kernel_rfl
theorem ref44 {v_data v_lo v_hi v_first v_cmp : Value} {Q : Value → World → Prop} {w : World} (h : S44 v_data v_lo v_hi v_first v_cmp Q w) : callS Try.prog 44 #[v_data, v_lo, v_hi, v_first, v_cmp] Q w :=
  callS_of mix (fun a w => Try.call44 a w) (by kernel_rfl) (by rw [eq44]; exact h)
-- slices.nextPowerOfTwo
def S45 (v_length : Value) (Q : Value → World → Prop) (w : World) : Prop :=
 pur Try.prog (convert 3 51 v_length) fun t4 => 
 callS Try.prog 31 #[t4] (fun t5 w_1 => 
 pur Try.prog (binS .shl 51 true false (.int .u64 1) t5) fun t6 => 
 Q t6 w_1) w
theorem eq45 (v_length : Value) (Q : Value → World → Prop) (w : World) : semF Try.prog 45 [v_length] Q w = S45 v_length Q w := by kernel_rfl
theorem ref45 {v_length : Value} {Q : Value → World → Prop} {w : World} (h : S45 v_length Q w) : callS Try.prog 45 #[v_length] Q w :=
  callS_of mix (fun a w => Try.call45 a w) (by kernel_rfl) (by rw [eq45]; exact h)
-- (*slices.xorshift).Next
def S46 (v_r : Value) (Q : Value → World → Prop) (w : World) : Prop :=
 pur Try.prog (nilV v_r) fun t4 => 
 rd Try.prog (Instr.loadAt 67 t4) (fun t5 => 
 pur Try.prog (nilV v_r) fun t7 => 
 rd Try.prog (Instr.loadAt 67 t7) (fun t8 => 
 pur Try.prog (binS .shl 67 false true t8 (.int .u64 13)) fun t9 => 
 pur Try.prog (binS .xor 67 false false t5 t9) fun t10 => 
 pur Try.prog (nilV v_r) fun t11 => 
 act Try.prog (thenU (Instr.storeAt 67 t11 t10)) (fun _ w_1 => 
 pur Try.prog (nilV v_r) fun t13 => 
 rd Try.prog (Instr.loadAt 67 t13) (fun t14 => 
 pur Try.prog (nilV v_r) fun t16 => 
 rd Try.prog (Instr.loadAt 67 t16) (fun t17 => 
 pur Try.prog (binS .shr 67 false true t17 (.int .u64 7)) fun t18 => 
 pur Try.prog (binS .xor 67 false false t14 t18) fun t19 => 
 pur Try.prog (nilV v_r) fun t20 => 
 act Try.prog (thenU (Instr.storeAt 67 t20 t19)) (fun _ w_2 => 
 pur Try.prog (nilV v_r) fun t22 => 
 rd Try.prog (Instr.loadAt 67 t22) (fun t23 => 
 pur Try.prog (nilV v_r) fun t25 => 
 rd Try.prog (Instr.loadAt 67 t25) (fun t26 => 
 pur Try.prog (binS .shl 67 false true t26 (.int .u64 17)) fun t27 => 
 pur Try.prog (binS .xor 67 false false t23 t27) fun t28 => 
 pur Try.prog (nilV v_r) fun t29 => 
 act Try.prog (thenU (Instr.storeAt 67 t29 t28)) (fun _ w_3 => 
 pur Try.prog (nilV v_r) fun t31 => 
 rd Try.prog (Instr.loadAt 67 t31) (fun t32 => 
 Q t32 w_3) w_3) (World.drew w_2)) (World.drew w_2)) (World.drew w_2)) (World.drew w_1)) (World.drew w_1)) (World.drew w_1)) (World.drew w)) (World.drew w)) (World.drew w)
theorem eq46 (v_r : Value) (Q : Value → World → Prop) (w : World) : semF Try.prog 46 [v_r] Q w = S46 v_r Q w := by kernel_rfl
theorem ref46 {v_r : Value} {Q : Value → World → Prop} {w : World} (h : S46 v_r Q w) : callS Try.prog 46 #[v_r] Q w :=
  callS_of mix (fun a w => Try.call46 a w) (by kernel_rfl) (by rw [eq46]; exact h)
-- slices.medianAdjacentCmpFunc[commons/api.Span]
def S47 (v_data v_a v_swaps v_cmp : Value) (Q : Value → World → Prop) (w : World) : Prop :=
 pur Try.prog (binS .sub 3 false true v_a (.int .i64 1)) fun t11 => 
 pur Try.prog (binS .add 3 false true v_a (.int .i64 1)) fun t14 => 
 callS Try.prog 48 #[v_data, t11, v_a, t14, v_swaps, v_cmp] (fun t17 w_1 => 
 Q t17 w_1) w
theorem eq47 (v_data v_a v_swaps v_cmp : Value) (Q : Value → World → Prop) (w : World) : semF Try.prog 47 [v_data, v_a, v_swaps, v_cmp] Q w = S47 v_data v_a v_swaps v_cmp Q w := by kernel_rfl
theorem ref47 {v_data v_a v_swaps v_cmp : Value} {Q : Value → World → Prop} {w : World} (h : S47 v_data v_a v_swaps v_cmp Q w) : callS Try.prog 47 #[v_data, v_a, v_swaps, v_cmp] Q w :=
  callS_of mix (fun a w => Try.call47 a w) (by kernel_rfl) (by rw [eq47]; exact h)
-- slices.medianCmpFunc[commons/api.Span]
def S48 (v_data v_a v_b v_c v_swaps v_cmp : Value) (Q : Value → World → Prop) (w : World) : Prop :=
 callS Try.prog 49 #[v_data, v_a, v_b, v_swaps, v_cmp] (fun t19 w_1 => 
 pur Try.prog (Instr.extract t19 0) fun t20 => 
 pur Try.prog (Instr.extract t19 1) fun t21 => 
 callS Try.prog 49 #[v_data, t21, v_c, v_swaps, v_cmp] (fun t28 w_2 => 
 pur Try.prog (Instr.extract t28 0) fun t29 => 
 pur Try.prog (Instr.extract t28 1) fun _ => 
 callS Try.prog 49 #[v_data, t20, t29, v_swaps, v_cmp] (fun t37 w_3 => 
 pur Try.prog (Instr.extract t37 0) fun _ => 
 pur Try.prog (Instr.extract t37 1) fun t39 => 
 Q t39 w_3) w_2) w_1) w
theorem eq48 (v_data v_a v_b v_c v_swaps v_cmp : Value) (Q : Value → World → Prop) (w : World) : semF Try.prog 48 [v_data, v_a, v_b, v_c, v_swaps, v_cmp] Q w = S48 v_data v_a v_b v_c v_swaps v_cmp Q w := by kernel_rfl
theorem ref48 {v_data v_a v_b v_c v_swaps v_cmp : Value} {Q : Value → World → Prop} {w : World} (h : S48 v_data v_a v_b v_c v_swaps v_cmp Q w) : callS Try.prog 48 #[v_data, v_a, v_b, v_c, v_swaps, v_cmp] Q w :=
  callS_of mix (fun a w => Try.call48 a w) (by kernel_rfl) (by rw [eq48]; exact h)
-- slices.order2CmpFunc[commons/api.Span]
def S49 (v_data v_a v_b v_swaps v_cmp : Value) (Q : Value → World → Prop) (w : World) : Prop :=
 pur Try.prog (Instr.indexAt 22 v_data v_b) fun t15 => 
 rd Try.prog (Instr.loadAt 27 t15) (fun t16 => 
 pur Try.prog (Instr.indexAt 22 v_data v_a) fun t19 => 
 rd Try.prog (Instr.loadAt 27 t19) (fun t20 => 
 callF Try.prog v_cmp #[t16, t20] (fun t21 w_1 => 
 pur Try.prog (binS .lss 3 false true t21 (.int .i64 0)) fun t22 => 
 condS t22
  (pur Try.prog (nilV v_swaps) fun t24 => 
  rd Try.prog (Instr.loadAt 3 t24) (fun t25 => 
  pur Try.prog (binS .add 3 false true t25 (.int .i64 1)) fun t26 => 
  pur Try.prog (nilV v_swaps) fun t27 => 
  act Try.prog (thenU (Instr.storeAt 3 t27 t26)) (fun _ w_2 => 
  Q (.tuple #[v_b, v_a]) w_2) w_1) w_1)
  (Q (.tuple #[v_a, v_b]) w_1)) (World.drew w)) (World.drew w)) (World.drew w)
theorem eq49 (v_data v_a v_b v_swaps v_cmp : Value) (Q : Value → World → Prop) (w : World) : semF Try.prog 49 [v_data, v_a, v_b, v_swaps, v_cmp] Q w = S49 v_data v_a v_b v_swaps v_cmp Q w := by kernel_rfl
theorem ref49 {v_data v_a v_b v_swaps v_cmp : Value} {Q : Value → World → Prop} {w : World} (h : S49 v_data v_a v_b v_swaps v_cmp Q w) : callS Try.prog 49 #[v_data, v_a, v_b, v_swaps, v_cmp] Q w :=
  callS_of mix (fun a w => Try.call49 a w) (by kernel_rfl) (by rw [eq49]; exact h)
end Go.Proofs.Ytalkoelpibiboaa
