/- The readings of the functions' code, printed by a program, each held equal to the one that is computed: for all arguments, all worlds.
   Conditions: none. -/
import Derived.Test.YtfepcgjkjofgoaaShC
import Derived.Test.YtfepcgjkjofgoaaProg
import Derived.KernelRfl
set_option linter.unusedSimpArgs false
set_option linter.unusedVariables false
namespace Go.Proofs.Ytfepcgjkjofgoaa
open Go.Sh
set_option maxRecDepth 100000
theorem mix : Try.prog.follows .mixedOrders = true := by kernel_rfl

-- gosem.cut.init
def S2 (Q : Value → World → Prop) (w : World) : Prop :=
 callS Try.prog 1 #[] (fun _ w_1 => 
 Q (.tuple #[]) w_1) w
theorem eq2 (Q : Value → World → Prop) (w : World) : semF Try.prog 2 [] Q w = S2 Q w := by kernel_rfl
theorem ref2 {Q : Value → World → Prop} {w : World} (h : S2 Q w) : callS Try.prog 2 #[] Q w :=
  callS_of mix (fun a w => Try.call2 a w) (by kernel_rfl) (by rw [eq2]; exact h)
-- commons/commonslaw4.HeapSorts
def S3 (v_l : Value) (Q : Value → World → Prop) (w : World) : Prop :=
 pur Try.prog (Builtin.len_ #[22] 3 #[v_l]) fun t10 => 
 pur Try.prog (binS .gtr 3 false true t10 (.int .i64 100)) fun t11 => 
 condS t11
  (callS Try.prog 7 #[] (fun t12 w_1 => 
  Q t12 w_1) w)
  (callS Try.prog 8 #[] (fun t13 w_2 => 
 rd Try.prog (binS .eql 24 false true t13 (.pointer none)) (fun t15 => 
 condS t15
  (Q (.bool false) w_2)
  (lp 1 (fun J => fun v_i w_3 => ∀ _j : Fr, 
  pur Try.prog (Builtin.len_ #[22] 3 #[v_l]) fun t18 => 
  pur Try.prog (binS .lss 3 false false v_i t18) fun t19 => 
  condS t19
   (pur Try.prog (Instr.indexAt 22 v_l v_i) fun t25 => 
  rd Try.prog (Instr.loadAt 3 t25) (fun t26 => 
  callS Try.prog 9 #[t13, t26, v_i] (fun t28 w_4 => 
  pur Try.prog (binS .add 3 false true v_i (.int .i64 1)) fun t30 => 
  pur Try.prog (binS .neq 3 false false t28 t30) fun t31 => 
  condS t31
   (Q (.bool false) w_4)
   (pur Try.prog (binS .add 3 false true v_i (.int .i64 1)) fun t21 => 
  J t21 w_4)) w_3) w_3)
   (lp 2 (fun J_1 => fun v_last v_i_1 w_5 => ∀ _j : Fr, 
  pur Try.prog (Builtin.len_ #[22] 3 #[v_l]) fun t34 => 
  pur Try.prog (binS .lss 3 false false v_i_1 t34) fun t35 => 
  condS t35
   (callS Try.prog 10 #[t13, (.int .i64 9223372036854775807)] (fun t40 w_6 => 
  pur Try.prog (Instr.extract t40 0) fun t41 => 
  pur Try.prog (Instr.extract t40 1) fun t42 => 
  pur Try.prog (Op.unary .not t42) fun t44 => 
  gd t44 false (fun k w_7 => k t41 w_7) (fun t46_1 w_8 => 
  gd t44 false (fun k_1 w_9 => pur Try.prog (binS .lss 3 false true t46_1 (.int .i64 0)) fun t47 => k_1 t47 w_9) (fun t47_1 w_10 => 
  pur Try.prog (pickS t44 (.bool true) t47_1) fun t48 => 
  gd t48 false (fun k_2 w_11 => k_2 t41 w_11) (fun t50_1 w_12 => 
  gd t48 false (fun k_3 w_13 => k_3 v_l w_13) (fun t51_1 w_14 => 
  gd t48 false (fun k_4 w_15 => pur Try.prog (Builtin.len_ #[22] 3 #[t51_1]) fun t52 => k_4 t52 w_15) (fun t52_1 w_16 => 
  gd t48 false (fun k_5 w_17 => pur Try.prog (binS .geq 3 false false t50_1 t52_1) fun t53 => k_5 t53 w_17) (fun t53_1 w_18 => 
  pur Try.prog (pickS t48 (.bool true) t53_1) fun t54 => 
  gd t54 false (fun k_6 w_19 => k_6 v_last w_19) (fun t56_1 w_20 => 
  gd t54 false (fun k_7 w_21 => pur Try.prog (binS .geq 3 false true t56_1 (.int .i64 0)) fun t57 => k_7 t57 w_21) (fun t57_1 w_22 => 
  gd t54 false (fun k_8 w_23 => k_8 t57_1 w_23) (fun t58_1 w_24 => 
  gd t58_1 true (fun k_9 w_25 => k_9 v_l w_25) (fun t59_1 w_26 => 
  gd t58_1 true (fun k_10 w_27 => k_10 t41 w_27) (fun t60_1 w_28 => 
  gd t58_1 true (fun k_11 w_29 => pur Try.prog (Instr.indexAt 22 t59_1 t60_1) fun t61 => k_11 t61 w_29) (fun t61_1 w_30 => 
  gd t58_1 true (fun k_12 w_31 => rd Try.prog (Instr.loadAt 3 t61_1) (fun t62 => k_12 t62 w_31) w_31) (fun t62_1 w_32 => 
  gd t58_1 true (fun k_13 w_33 => k_13 v_l w_33) (fun t63_1 w_34 => 
  gd t58_1 true (fun k_14 w_35 => k_14 v_last w_35) (fun t64_1 w_36 => 
  gd t58_1 true (fun k_15 w_37 => pur Try.prog (Instr.indexAt 22 t63_1 t64_1) fun t65 => k_15 t65 w_37) (fun t65_1 w_38 => 
  gd t58_1 true (fun k_16 w_39 => rd Try.prog (Instr.loadAt 3 t65_1) (fun t66 => k_16 t66 w_39) w_39) (fun t66_1 w_40 => 
  gd t58_1 true (fun k_17 w_41 => pur Try.prog (binS .lss 3 false false t62_1 t66_1) fun t67 => k_17 t67 w_41) (fun t67_1 w_42 => 
  gd t58_1 true (fun k_18 w_43 => k_18 t67_1 w_43) (fun t68_1 w_44 => 
  gd t68_1 false (fun k_19 w_45 => k_19 v_l w_45) (fun t69_1 w_46 => 
  gd t68_1 false (fun k_20 w_47 => k_20 t41 w_47) (fun t70_1 w_48 => 
  gd t68_1 false (fun k_21 w_49 => pur Try.prog (Instr.indexAt 22 t69_1 t70_1) fun t71 => k_21 t71 w_49) (fun t71_1 w_50 => 
  gd t68_1 false (fun k_22 w_51 => rd Try.prog (Instr.loadAt 3 t71_1) (fun t72 => k_22 t72 w_51) w_51) (fun t72_1 w_52 => 
  gd t68_1 false (fun k_23 w_53 => k_23 v_l w_53) (fun t73_1 w_54 => 
  gd t68_1 false (fun k_24 w_55 => k_24 v_last w_55) (fun t74_1 w_56 => 
  gd t68_1 false (fun k_25 w_57 => pur Try.prog (Instr.indexAt 22 t73_1 t74_1) fun t75 => k_25 t75 w_57) (fun t75_1 w_58 => 
  gd t68_1 false (fun k_26 w_59 => rd Try.prog (Instr.loadAt 3 t75_1) (fun t76 => k_26 t76 w_59) w_59) (fun t76_1 w_60 => 
  gd t68_1 false (fun k_27 w_61 => pur Try.prog (binS .eql 3 false false t72_1 t76_1) fun t77 => k_27 t77 w_61) (fun t77_1 w_62 => 
  gd t68_1 false (fun k_28 w_63 => k_28 t77_1 w_63) (fun t78_1 w_64 => 
  gd t78_1 true (fun k_29 w_65 => k_29 t41 w_65) (fun t79_1 w_66 => 
  gd t78_1 true (fun k_30 w_67 => k_30 v_last w_67) (fun t80_1 w_68 => 
  gd t78_1 true (fun k_31 w_69 => pur Try.prog (binS .leq 3 false false t79_1 t80_1) fun t81 => k_31 t81 w_69) (fun t81_1 w_70 => 
  gd t68_1 false (fun k_32 w_71 => pur Try.prog (pickS t78_1 t81_1 (.bool false)) fun t82 => k_32 t82 w_71) (fun t82_1 w_72 => 
  gd t58_1 true (fun k_33 w_73 => pur Try.prog (pickS t68_1 (.bool true) t82_1) fun t83 => k_33 t83 w_73) (fun t83_1 w_74 => 
  gd t54 false (fun k_34 w_75 => pur Try.prog (pickS t58_1 t83_1 (.bool false)) fun t84 => k_34 t84 w_75) (fun t84_1 w_76 => 
  pur Try.prog (pickS t54 (.bool true) t84_1) fun t85 => 
  condS t85
   (Q (.bool false) w_76)
   (pur Try.prog (binS .add 3 false true v_i_1 (.int .i64 1)) fun t37 => 
  J_1 t41 t37 w_76)) w_74) w_72) w_70) w_68) w_66) w_64) w_62) w_60) w_58) w_56) w_54) w_52) w_50) w_48) w_46) w_44) w_42) w_40) w_38) w_36) w_34) w_32) w_30) w_28) w_26) w_24) w_22) w_20) w_18) w_16) w_14) w_12) w_10) w_8) (World.drew w_6)) w_5)
   (callS Try.prog 7 #[] (fun t87 w_77 => 
 gd t87 true (fun k_35 w_78 => k_35 t13 w_78) (fun t89_1 w_79 => 
 gd t87 true (fun k_36 w_80 => callS Try.prog 11 #[t89_1] (fun t90 w_81 => k_36 t90 w_81) w_80) (fun t90_1 w_82 => 
 gd t87 true (fun k_37 w_83 => pur Try.prog (binS .eql 3 false true t90_1 (.int .i64 0)) fun t91 => k_37 t91 w_83) (fun t91_1 w_84 => 
 pur Try.prog (pickS t87 t91_1 (.bool false)) fun t92 => 
 Q t92 w_84) w_82) w_79) w_77) w_5)) [(.int .i64 (-1)), (.int .i64 0)] w_3)) [(.int .i64 0)] w_2)) w_2) w)
theorem eq3 (v_l : Value) (Q : Value → World → Prop) (w : World) : semF Try.prog 3 [v_l] Q w = S3 v_l Q w := by kernel_rfl
theorem ref3 {v_l : Value} {Q : Value → World → Prop} {w : World} (h : S3 v_l Q w) : callS Try.prog 3 #[v_l] Q w :=
  callS_of mix (fun a w => Try.call3 a w) (by kernel_rfl) (by rw [eq3]; exact h)
-- commons/commonslaw4.HeapCancels
def S4 (v_l v_cancel : Value) (Q : Value → World → Prop) (w : World) : Prop :=
 pur Try.prog (Builtin.len_ #[22] 3 #[v_l]) fun t15 => 
 pur Try.prog (binS .gtr 3 false true t15 (.int .i64 60)) fun t16 => 
 gd t16 false (fun k w_1 => k v_cancel w_1) (fun t18_1 w_2 => 
 gd t16 false (fun k_1 w_3 => pur Try.prog (Builtin.len_ #[22] 3 #[t18_1]) fun t19 => k_1 t19 w_3) (fun t19_1 w_4 => 
 gd t16 false (fun k_2 w_5 => pur Try.prog (binS .gtr 3 false true t19_1 (.int .i64 60)) fun t20 => k_2 t20 w_5) (fun t20_1 w_6 => 
 pur Try.prog (pickS t16 (.bool true) t20_1) fun t21 => 
 condS t21
  (callS Try.prog 7 #[] (fun t22 w_7 => 
  Q t22 w_7) w_6)
  (callS Try.prog 8 #[] (fun t23 w_8 => 
 rd Try.prog (binS .eql 24 false true t23 (.pointer none)) (fun t25 => 
 condS t25
  (Q (.bool false) w_8)
  (pur Try.prog (Builtin.len_ #[22] 3 #[v_l]) fun t27 => 
 act Try.prog (Instr.makeSlice 31 t27 t27) (fun t28 w_9 => 
 lp 1 (fun J => fun v_i w_10 => ∀ _j : Fr, 
  pur Try.prog (Builtin.len_ #[22] 3 #[v_l]) fun t31 => 
  pur Try.prog (binS .lss 3 false false v_i t31) fun t32 => 
  condS t32
   (pur Try.prog (Instr.indexAt 22 v_l v_i) fun t38 => 
  rd Try.prog (Instr.loadAt 3 t38) (fun t39 => 
  callS Try.prog 9 #[t23, t39, v_i] (fun _ w_11 => 
  pur Try.prog (binS .add 3 false true v_i (.int .i64 1)) fun t34 => 
  J t34 w_11) w_10) w_10)
   (lp 1 (fun J_1 => fun v_i_1 w_12 => ∀ _j : Fr, 
  pur Try.prog (Builtin.len_ #[22] 3 #[v_cancel]) fun t44 => 
  pur Try.prog (binS .lss 3 false false v_i_1 t44) fun t45 => 
  condS t45
   (jn 0 (fun J_2 => 
   pur Try.prog (Instr.indexAt 22 v_cancel v_i_1) fun t50 => 
   rd Try.prog (Instr.loadAt 3 t50) (fun t51 => 
   pur Try.prog (binS .geq 3 false true t51 (.int .i64 1)) fun t53 => 
   gd t53 true (fun k_3 w_13 => k_3 t51 w_13) (fun t55_1 w_14 => 
   gd t53 true (fun k_4 w_15 => k_4 v_l w_15) (fun t56_1 w_16 => 
   gd t53 true (fun k_5 w_17 => pur Try.prog (Builtin.len_ #[22] 3 #[t56_1]) fun t57 => k_5 t57 w_17) (fun t57_1 w_18 => 
   gd t53 true (fun k_6 w_19 => pur Try.prog (binS .leq 3 false false t55_1 t57_1) fun t58 => k_6 t58 w_19) (fun t58_1 w_20 => 
   pur Try.prog (pickS t53 t58_1 (.bool false)) fun t59 => 
   gd t59 true (fun k_7 w_21 => k_7 t28 w_21) (fun t61_1 w_22 => 
   gd t59 true (fun k_8 w_23 => k_8 t51 w_23) (fun t62_1 w_24 => 
   gd t59 true (fun k_9 w_25 => pur Try.prog (binS .sub 3 false true t62_1 (.int .i64 1)) fun t63 => k_9 t63 w_25) (fun t63_1 w_26 => 
   gd t59 true (fun k_10 w_27 => pur Try.prog (Instr.indexAt 31 t61_1 t63_1) fun t64 => k_10 t64 w_27) (fun t64_1 w_28 => 
   gd t59 true (fun k_11 w_29 => rd Try.prog (Instr.loadAt 4 t64_1) (fun t65 => k_11 t65 w_29) w_29) (fun t65_1 w_30 => 
   gd t59 true (fun k_12 w_31 => pur Try.prog (Op.unary .not t65_1) fun t66 => k_12 t66 w_31) (fun t66_1 w_32 => 
   pur Try.prog (pickS t59 t66_1 (.bool false)) fun t67 => 
   callS Try.prog 12 #[t23, t51] (fun t70 w_33 => 
   pur Try.prog (binS .neq 4 false false t70 t67) fun t72 => 
   condS t72
    (Q (.bool false) w_33)
    (condS t67
    (pur Try.prog (binS .sub 3 false true t51 (.int .i64 1)) fun t76 => 
    pur Try.prog (Instr.indexAt 31 t28 t76) fun t77 => 
    act Try.prog (thenU (Instr.storeAt 4 t77 (.bool true))) (fun _ w_34 => 
    J_2  w_34) w_33)
    (J_2  w_33))) w_32) w_30) w_28) w_26) w_24) w_22) w_20) w_18) w_16) w_14) w_12) w_12)
  (fun  w_35 => ∀ _j : Fr, 
   pur Try.prog (binS .add 3 false true v_i_1 (.int .i64 1)) fun t47 => 
   J_1 t47 w_35))
   (lp 0 (fun J_3 => fun  w_36 => ∀ _j : Fr, 
  callS Try.prog 10 #[t23, (.int .i64 9223372036854775807)] (fun t80 w_37 => 
  pur Try.prog (Instr.extract t80 0) fun t81 => 
  pur Try.prog (Instr.extract t80 1) fun t82 => 
  pur Try.prog (Op.unary .not t82) fun t84 => 
  condS t84
   (lp 1 (fun J_4 => fun v_i_2 w_38 => ∀ _j : Fr, 
  pur Try.prog (Builtin.len_ #[22] 3 #[v_l]) fun t104 => 
  pur Try.prog (binS .lss 3 false false v_i_2 t104) fun t105 => 
  condS t105
   (pur Try.prog (Instr.indexAt 31 t28 v_i_2) fun t110 => 
  rd Try.prog (Instr.loadAt 4 t110) (fun t111 => 
  pur Try.prog (Op.unary .not t111) fun t112 => 
  condS t112
   (Q (.bool false) w_38)
   (pur Try.prog (binS .add 3 false true v_i_2 (.int .i64 1)) fun t107 => 
  J_4 t107 w_38)) w_38)
   (callS Try.prog 7 #[] (fun t113 w_39 => 
 gd t113 true (fun k_13 w_40 => k_13 t23 w_40) (fun t115_1 w_41 => 
 gd t113 true (fun k_14 w_42 => callS Try.prog 11 #[t115_1] (fun t116 w_43 => k_14 t116 w_43) w_42) (fun t116_1 w_44 => 
 gd t113 true (fun k_15 w_45 => pur Try.prog (binS .eql 3 false true t116_1 (.int .i64 0)) fun t117 => k_15 t117 w_45) (fun t117_1 w_46 => 
 pur Try.prog (pickS t113 t117_1 (.bool false)) fun t118 => 
 Q t118 w_46) w_44) w_41) w_39) w_38)) [(.int .i64 0)] w_37)
   (pur Try.prog (binS .lss 3 false true t81 (.int .i64 0)) fun t86 => 
  gd t86 false (fun k_16 w_47 => k_16 t81 w_47) (fun t88_1 w_48 => 
  gd t86 false (fun k_17 w_49 => k_17 v_l w_49) (fun t89_1 w_50 => 
  gd t86 false (fun k_18 w_51 => pur Try.prog (Builtin.len_ #[22] 3 #[t89_1]) fun t90 => k_18 t90 w_51) (fun t90_1 w_52 => 
  gd t86 false (fun k_19 w_53 => pur Try.prog (binS .geq 3 false false t88_1 t90_1) fun t91 => k_19 t91 w_53) (fun t91_1 w_54 => 
  pur Try.prog (pickS t86 (.bool true) t91_1) fun t92 => 
  gd t92 false (fun k_20 w_55 => k_20 t28 w_55) (fun t94_1 w_56 => 
  gd t92 false (fun k_21 w_57 => k_21 t81 w_57) (fun t95_1 w_58 => 
  gd t92 false (fun k_22 w_59 => pur Try.prog (Instr.indexAt 31 t94_1 t95_1) fun t96 => k_22 t96 w_59) (fun t96_1 w_60 => 
  gd t92 false (fun k_23 w_61 => rd Try.prog (Instr.loadAt 4 t96_1) (fun t97 => k_23 t97 w_61) w_61) (fun t97_1 w_62 => 
  pur Try.prog (pickS t92 (.bool true) t97_1) fun t98 => 
  condS t98
   (Q (.bool false) w_62)
   (pur Try.prog (Instr.indexAt 31 t28 t81) fun t101 => 
  act Try.prog (thenU (Instr.storeAt 4 t101 (.bool true))) (fun _ w_63 => 
  J_3  w_63) w_62)) w_60) w_58) w_56) w_54) w_52) w_50) w_48) w_37)) w_36) [] w_12)) [(.int .i64 0)] w_10)) [(.int .i64 0)] w_9) w_8)) w_8) w_6)) w_4) w_2) w
theorem eq4 (v_l v_cancel : Value) (Q : Value → World → Prop) (w : World) : semF Try.prog 4 [v_l, v_cancel] Q w = S4 v_l v_cancel Q w := by kernel_rfl
theorem ref4 {v_l v_cancel : Value} {Q : Value → World → Prop} {w : World} (h : S4 v_l v_cancel Q w) : callS Try.prog 4 #[v_l, v_cancel] Q w :=
  callS_of mix (fun a w => Try.call4 a w) (by kernel_rfl) (by rw [eq4]; exact h)
-- commons/commonslaw4.HeapFirst
def S5 (v_l v_now : Value) (Q : Value → World → Prop) (w : World) : Prop :=
 pur Try.prog (Builtin.len_ #[22] 3 #[v_l]) fun t19 => 
 pur Try.prog (binS .gtr 3 false true t19 (.int .i64 60)) fun t20 => 
 condS t20
  (callS Try.prog 7 #[] (fun t21 w_1 => 
  Q t21 w_1) w)
  (callS Try.prog 13 #[] (fun t22 w_2 => 
 rd Try.prog (binS .eql 34 false true t22 (.pointer none)) (fun t24 => 
 condS t24
  (Q (.bool false) w_2)
  (lp 1 (fun J => fun v_i w_3 => ∀ _j : Fr, 
  pur Try.prog (Builtin.len_ #[22] 3 #[v_l]) fun t27 => 
  pur Try.prog (binS .lss 3 false false v_i t27) fun t28 => 
  condS t28
   (∃ S : World → Prop, S (World.drew w_3) ∧ 
  pur Try.prog (Instr.indexAt 22 v_l v_i) fun t34 => 
  hld Try.prog S (Instr.loadAt 3 t34) fun t35 => 
  pur Try.prog (binS .rem 3 false true v_i (.int .i64 26)) fun t37 => 
  pur Try.prog (binS .add 3 true false (.int .i64 97) t37) fun t38 => 
  pur Try.prog (convert 3 5 t38) fun t39 => 
  pur Try.prog (binS .quo 3 false true v_i (.int .i64 26)) fun t41 => 
  pur Try.prog (binS .add 3 true false (.int .i64 97) t41) fun t42 => 
  pur Try.prog (convert 3 5 t42) fun t43 => 
  act Try.prog (Instr.buildSlice 37 2 #[(0, t39), (1, t43)]) (fun t44 w_4 => S w_4 ∧ 
  act Try.prog (convert 37 9 t44) (fun t45 w_5 => S w_5 ∧ 
  callS Try.prog 14 #[t22, t35, t45] (fun _ w_6 => S w_6 ∧ 
  pur Try.prog (binS .add 3 false true v_i (.int .i64 1)) fun t30 => 
  J t30 w_6) w_5) w_4) (World.drew w_3))
   (jn 0 (fun J_1 => 
  lp 1 (fun J_2 => fun v_k w_7 => ∀ _j : Fr, 
   pur Try.prog (Builtin.len_ #[22] 3 #[v_l]) fun t49 => 
   pur Try.prog (binS .leq 3 false false v_k t49) fun t50 => 
   condS t50
    (callS Try.prog 15 #[t22] (fun t55 w_8 => 
   pur Try.prog (Instr.extract t55 0) fun t56 => 
   pur Try.prog (Instr.extract t55 1) fun t57 => 
   pur Try.prog (Instr.extract t55 2) fun t58 => 
   callS Try.prog 16 #[t22] (fun t60 w_9 => 
   callS Try.prog 17 #[t22, v_now] (fun t64 w_10 => 
   pur Try.prog (Instr.extract t64 0) fun t65 => 
   pur Try.prog (Instr.extract t64 1) fun t66 => 
   gd t58 true (fun k w_11 => k t56 w_11) (fun t70_1 w_12 => 
   gd t58 true (fun k_1 w_13 => k_1 v_now w_13) (fun t71_1 w_14 => 
   gd t58 true (fun k_2 w_15 => pur Try.prog (binS .leq 3 false false t70_1 t71_1) fun t72 => k_2 t72 w_15) (fun t72_1 w_16 => 
   pur Try.prog (pickS t58 t72_1 (.bool false)) fun t73 => 
   pur Try.prog (binS .neq 4 false false t66 t73) fun t74 => 
   gd t74 false (fun k_3 w_17 => k_3 t66 w_17) (fun t76_1 w_18 => 
   gd t74 false (fun k_4 w_19 => k_4 t76_1 w_19) (fun t77_1 w_20 => 
   gd t77_1 true (fun k_5 w_21 => k_5 t65 w_21) (fun t78_1 w_22 => 
   gd t77_1 true (fun k_6 w_23 => k_6 t57 w_23) (fun t79_1 w_24 => 
   gd t77_1 true (fun k_7 w_25 => pur Try.prog (binS .neq 9 false false t78_1 t79_1) fun t80 => k_7 t80 w_25) (fun t80_1 w_26 => 
   gd t74 false (fun k_8 w_27 => pur Try.prog (pickS t77_1 t80_1 (.bool false)) fun t81 => k_8 t81 w_27) (fun t81_1 w_28 => 
   pur Try.prog (pickS t74 (.bool true) t81_1) fun t82 => 
   gd t82 false (fun k_9 w_29 => k_9 t66 w_29) (fun t84_1 w_30 => 
   gd t82 false (fun k_10 w_31 => pur Try.prog (Op.unary .not t84_1) fun t85 => k_10 t85 w_31) (fun t85_1 w_32 => 
   gd t82 false (fun k_11 w_33 => k_11 t85_1 w_33) (fun t86_1 w_34 => 
   gd t86_1 true (fun k_12 w_35 => k_12 t22 w_35) (fun t87_1 w_36 => 
   gd t86_1 true (fun k_13 w_37 => callS Try.prog 16 #[t87_1] (fun t88 w_38 => k_13 t88 w_38) w_37) (fun t88_1 w_39 => 
   gd t86_1 true (fun k_14 w_40 => k_14 t60 w_40) (fun t89_1 w_41 => 
   gd t86_1 true (fun k_15 w_42 => pur Try.prog (binS .neq 3 false false t88_1 t89_1) fun t90 => k_15 t90 w_42) (fun t90_1 w_43 => 
   gd t82 false (fun k_16 w_44 => pur Try.prog (pickS t86_1 t90_1 (.bool false)) fun t91 => k_16 t91 w_44) (fun t91_1 w_45 => 
   pur Try.prog (pickS t82 (.bool true) t91_1) fun t92 => 
   gd t92 false (fun k_17 w_46 => k_17 t66 w_46) (fun t94_1 w_47 => 
   gd t92 false (fun k_18 w_48 => k_18 t94_1 w_48) (fun t95_1 w_49 => 
   gd t95_1 true (fun k_19 w_50 => k_19 t22 w_50) (fun t96_1 w_51 => 
   gd t95_1 true (fun k_20 w_52 => callS Try.prog 16 #[t96_1] (fun t97 w_53 => k_20 t97 w_53) w_52) (fun t97_1 w_54 => 
   gd t95_1 true (fun k_21 w_55 => k_21 t60 w_55) (fun t98_1 w_56 => 
   gd t95_1 true (fun k_22 w_57 => pur Try.prog (binS .sub 3 false true t98_1 (.int .i64 1)) fun t99 => k_22 t99 w_57) (fun t99_1 w_58 => 
   gd t95_1 true (fun k_23 w_59 => pur Try.prog (binS .neq 3 false false t97_1 t99_1) fun t100 => k_23 t100 w_59) (fun t100_1 w_60 => 
   gd t92 false (fun k_24 w_61 => pur Try.prog (pickS t95_1 t100_1 (.bool false)) fun t101 => k_24 t101 w_61) (fun t101_1 w_62 => 
   pur Try.prog (pickS t92 (.bool true) t101_1) fun t102 => 
   condS t102
    (Q (.bool false) w_62)
    (pur Try.prog (Op.unary .not t66) fun t104 => 
   condS t104
    (J_1  w_62)
    (pur Try.prog (binS .add 3 false true v_k (.int .i64 1)) fun t52 => 
   J_2 t52 w_62))) w_60) w_58) w_56) w_54) w_51) w_49) w_47) w_45) w_43) w_41) w_39) w_36) w_34) w_32) w_30) w_28) w_26) w_24) w_22) w_20) w_18) w_16) w_14) w_12) w_10) w_9) w_8) w_7)
    (J_1  w_7)) [(.int .i64 0)] w_3)
 (fun  w_63 => ∀ _j : Fr, 
  lp 1 (fun J_3 => fun v_i_1 w_64 => ∀ _j : Fr, 
   callS Try.prog 18 #[t22] (fun t107 w_65 => 
   pur Try.prog (Builtin.len_ #[42] 3 #[t107]) fun t108 => 
   pur Try.prog (binS .lss 3 false false v_i_1 t108) fun t109 => 
   condS t109
    (callS Try.prog 15 #[t22] (fun t114 w_66 => 
   pur Try.prog (Instr.extract t114 0) fun t115 => 
   pur Try.prog (Instr.extract t114 1) fun _ => 
   pur Try.prog (Instr.extract t114 2) fun _ => 
   pur Try.prog (binS .leq 3 false false t115 v_now) fun t120 => 
   condS t120
    (Q (.bool false) w_66)
    (pur Try.prog (binS .add 3 false true v_i_1 (.int .i64 1)) fun t111 => 
   J_3 t111 w_66)) w_65)
    (callS Try.prog 7 #[] (fun t121 w_67 => 
  Q t121 w_67) w_65)) w_64) [(.int .i64 0)] w_63))) [(.int .i64 0)] w_2)) w_2) w)
theorem eq5 (v_l v_now : Value) (Q : Value → World → Prop) (w : World) : semF Try.prog 5 [v_l, v_now] Q w = S5 v_l v_now Q w := by kernel_rfl
theorem ref5 {v_l v_now : Value} {Q : Value → World → Prop} {w : World} (h : S5 v_l v_now Q w) : callS Try.prog 5 #[v_l, v_now] Q w :=
  callS_of mix (fun a w => Try.call5 a w) (by kernel_rfl) (by rw [eq5]; exact h)
-- commons/commonslaw4.HeapNone
def S6 (v_n v_v : Value) (Q : Value → World → Prop) (w : World) : Prop :=
 callS Try.prog 19 #[(.pointer none)] (fun t15 w_1 => 
 pur Try.prog (Instr.extract t15 0) fun _ => 
 pur Try.prog (Instr.extract t15 1) fun _ => 
 pur Try.prog (Instr.extract t15 2) fun t18 => 
 callS Try.prog 10 #[(.pointer none), v_n] (fun t22 w_2 => 
 pur Try.prog (Instr.extract t22 0) fun _ => 
 pur Try.prog (Instr.extract t22 1) fun t24 => 
 callS Try.prog 20 #[(.pointer none), v_n] (fun t28 w_3 => 
 pur Try.prog (Instr.extract t28 0) fun _ => 
 pur Try.prog (Instr.extract t28 1) fun t30 => 
 callS Try.prog 7 #[] (fun t31 w_4 => 
 gd t31 true (fun k w_5 => k (.pointer none) w_5) (fun t33_1 w_6 => 
 gd t31 true (fun k_1 w_7 => k_1 v_n w_7) (fun t34_1 w_8 => 
 gd t31 true (fun k_2 w_9 => k_2 v_v w_9) (fun t35_1 w_10 => 
 gd t31 true (fun k_3 w_11 => callS Try.prog 9 #[t33_1, t34_1, t35_1] (fun t36 w_12 => k_3 t36 w_12) w_11) (fun t36_1 w_13 => 
 gd t31 true (fun k_4 w_14 => k_4 (.pointer none) w_14) (fun t37_1 w_15 => 
 gd t31 true (fun k_5 w_16 => callS Try.prog 11 #[t37_1] (fun t38 w_17 => k_5 t38 w_17) w_16) (fun t38_1 w_18 => 
 gd t31 true (fun k_6 w_19 => pur Try.prog (binS .add 3 false false t36_1 t38_1) fun t39 => k_6 t39 w_19) (fun t39_1 w_20 => 
 gd t31 true (fun k_7 w_21 => k_7 (.pointer none) w_21) (fun t40_1 w_22 => 
 gd t31 true (fun k_8 w_23 => callS Try.prog 21 #[t40_1] (fun t41 w_24 => k_8 t41 w_24) w_23) (fun t41_1 w_25 => 
 gd t31 true (fun k_9 w_26 => pur Try.prog (Builtin.len_ #[22] 3 #[t41_1]) fun t42 => k_9 t42 w_26) (fun t42_1 w_27 => 
 gd t31 true (fun k_10 w_28 => pur Try.prog (binS .add 3 false false t39_1 t42_1) fun t43 => k_10 t43 w_28) (fun t43_1 w_29 => 
 gd t31 true (fun k_11 w_30 => pur Try.prog (binS .eql 3 false true t43_1 (.int .i64 0)) fun t44 => k_11 t44 w_30) (fun t44_1 w_31 => 
 pur Try.prog (pickS t31 t44_1 (.bool false)) fun t45 => 
 gd t45 true (fun k_12 w_32 => k_12 t18 w_32) (fun t47_1 w_33 => 
 gd t45 true (fun k_13 w_34 => pur Try.prog (Op.unary .not t47_1) fun t48 => k_13 t48 w_34) (fun t48_1 w_35 => 
 pur Try.prog (pickS t45 t48_1 (.bool false)) fun t49 => 
 gd t49 true (fun k_14 w_36 => k_14 t24 w_36) (fun t51_1 w_37 => 
 gd t49 true (fun k_15 w_38 => pur Try.prog (Op.unary .not t51_1) fun t52 => k_15 t52 w_38) (fun t52_1 w_39 => 
 pur Try.prog (pickS t49 t52_1 (.bool false)) fun t53 => 
 gd t53 true (fun k_16 w_40 => k_16 t30 w_40) (fun t55_1 w_41 => 
 gd t53 true (fun k_17 w_42 => pur Try.prog (Op.unary .not t55_1) fun t56 => k_17 t56 w_42) (fun t56_1 w_43 => 
 pur Try.prog (pickS t53 t56_1 (.bool false)) fun t57 => 
 gd t57 true (fun k_18 w_44 => k_18 (.pointer none) w_44) (fun t59_1 w_45 => 
 gd t57 true (fun k_19 w_46 => k_19 v_n w_46) (fun t60_1 w_47 => 
 gd t57 true (fun k_20 w_48 => callS Try.prog 12 #[t59_1, t60_1] (fun t61 w_49 => k_20 t61 w_49) w_48) (fun t61_1 w_50 => 
 gd t57 true (fun k_21 w_51 => pur Try.prog (Op.unary .not t61_1) fun t62 => k_21 t62 w_51) (fun t62_1 w_52 => 
 pur Try.prog (pickS t57 t62_1 (.bool false)) fun t63 => 
 Q t63 w_52) w_50) w_47) w_45) w_43) w_41) w_39) w_37) w_35) w_33) w_31) w_29) w_27) w_25) w_22) w_20) w_18) w_15) w_13) w_10) w_8) w_6) w_4) w_3) w_2) w_1) w
theorem eq6 (v_n v_v : Value) (Q : Value → World → Prop) (w : World) : semF Try.prog 6 [v_n, v_v] Q w = S6 v_n v_v Q w := by kernel_rfl
theorem ref6 {v_n v_v : Value} {Q : Value → World → Prop} {w : World} (h : S6 v_n v_v Q w) : callS Try.prog 6 #[v_n, v_v] Q w :=
  callS_of mix (fun a w => Try.call6 a w) (by kernel_rfl) (by rw [eq6]; exact h)
-- commons/commonslaw4.alive
def S7 (Q : Value → World → Prop) (w : World) : Prop :=
 callS Try.prog 8 #[] (fun t6 w_1 => 
 rd Try.prog (binS .eql 24 false true t6 (.pointer none)) (fun t8 => 
 gd t8 false (fun k w_2 => k t6 w_2) (fun t10_1 w_3 => 
 gd t8 false (fun k_1 w_4 => callS Try.prog 9 #[t10_1, (.int .i64 5), (.int .i64 50)] (fun t11 w_5 => k_1 t11 w_5) w_4) (fun t11_1 w_6 => 
 gd t8 false (fun k_2 w_7 => pur Try.prog (binS .neq 3 false true t11_1 (.int .i64 1)) fun t12 => k_2 t12 w_7) (fun t12_1 w_8 => 
 pur Try.prog (pickS t8 (.bool true) t12_1) fun t13 => 
 gd t13 false (fun k_3 w_9 => k_3 t6 w_9) (fun t15_1 w_10 => 
 gd t13 false (fun k_4 w_11 => callS Try.prog 9 #[t15_1, (.int .i64 3), (.int .i64 30)] (fun t16 w_12 => k_4 t16 w_12) w_11) (fun t16_1 w_13 => 
 gd t13 false (fun k_5 w_14 => pur Try.prog (binS .neq 3 false true t16_1 (.int .i64 2)) fun t17 => k_5 t17 w_14) (fun t17_1 w_15 => 
 pur Try.prog (pickS t13 (.bool true) t17_1) fun t18 => 
 condS t18
  (Q (.bool false) w_15)
  (callS Try.prog 10 #[t6, (.int .i64 4)] (fun t21 w_16 => 
 pur Try.prog (Instr.extract t21 0) fun t22 => 
 pur Try.prog (Instr.extract t21 1) fun t23 => 
 callS Try.prog 10 #[t6, (.int .i64 4)] (fun t26 w_17 => 
 pur Try.prog (Instr.extract t26 0) fun _ => 
 pur Try.prog (Instr.extract t26 1) fun t28 => 
 gd t23 true (fun k_6 w_18 => k_6 t22 w_18) (fun t31_1 w_19 => 
 gd t23 true (fun k_7 w_20 => pur Try.prog (binS .eql 3 false true t31_1 (.int .i64 30)) fun t32 => k_7 t32 w_20) (fun t32_1 w_21 => 
 pur Try.prog (pickS t23 t32_1 (.bool false)) fun t33 => 
 gd t33 true (fun k_8 w_22 => k_8 t28 w_22) (fun t35_1 w_23 => 
 gd t33 true (fun k_9 w_24 => pur Try.prog (Op.unary .not t35_1) fun t36 => k_9 t36 w_24) (fun t36_1 w_25 => 
 pur Try.prog (pickS t33 t36_1 (.bool false)) fun t37 => 
 gd t37 true (fun k_10 w_26 => k_10 t6 w_26) (fun t39_1 w_27 => 
 gd t37 true (fun k_11 w_28 => callS Try.prog 11 #[t39_1] (fun t40 w_29 => k_11 t40 w_29) w_28) (fun t40_1 w_30 => 
 gd t37 true (fun k_12 w_31 => pur Try.prog (binS .eql 3 false true t40_1 (.int .i64 1)) fun t41 => k_12 t41 w_31) (fun t41_1 w_32 => 
 pur Try.prog (pickS t37 t41_1 (.bool false)) fun t42 => 
 Q t42 w_32) w_30) w_27) w_25) w_23) w_21) w_19) w_17) w_16) w_15)) w_13) w_10) w_8) w_6) w_3) w_1) w_1) w
theorem eq7 (Q : Value → World → Prop) (w : World) : semF Try.prog 7 [] Q w = S7 Q w := by kernel_rfl
theorem ref7 {Q : Value → World → Prop} {w : World} (h : S7 Q w) : callS Try.prog 7 #[] Q w :=
  callS_of mix (fun a w => Try.call7 a w) (by kernel_rfl) (by rw [eq7]; exact h)
-- commons/heap.New[int]
def S8 (Q : Value → World → Prop) (w : World) : Prop :=
 pur Try.prog (Instr.build 52 #[]) fun t1 => 
 act Try.prog (Instr.box 52 t1) (fun t2 w_1 => 
 Q t2 w_1) w
theorem eq8 (Q : Value → World → Prop) (w : World) : semF Try.prog 8 [] Q w = S8 Q w := by kernel_rfl
theorem ref8 {Q : Value → World → Prop} {w : World} (h : S8 Q w) : callS Try.prog 8 #[] Q w :=
  callS_of mix (fun a w => Try.call8 a w) (by kernel_rfl) (by rw [eq8]; exact h)
-- (*commons/heap.Heap[int]).Put
def S9 (v_h v_at v_v : Value) (Q : Value → World → Prop) (w : World) : Prop :=
 rd Try.prog (binS .eql 24 false true v_h (.pointer none)) (fun t9 => 
 condS t9
  (Q (.int .i64 0) w)
  (jn 0 (fun J => 
  pur Try.prog (nilV v_h) fun t11 => 
  pur Try.prog (Instr.fieldAt 52 t11 1) fun t12 => 
  rd Try.prog (Instr.loadAt 50 t12) (fun t13 => 
  rd Try.prog (binS .eql 50 false true t13 (.map none)) (fun t14 => 
  condS t14
   (act Try.prog (Instr.makeMap 50 none) (fun t16 w_1 => 
   pur Try.prog (nilV v_h) fun t17 => 
   pur Try.prog (Instr.fieldAt 52 t17 1) fun t18 => 
   act Try.prog (thenU (Instr.storeAt 50 t18 t16)) (fun _ w_2 => 
   J  w_2) w_1) w)
   (J  w)) w) w)
 (fun  w_3 => ∀ _j : Fr, 
  pur Try.prog (nilV v_h) fun t20 => 
  pur Try.prog (Instr.fieldAt 52 t20 2) fun t21 => 
  rd Try.prog (Instr.loadAt 3 t21) (fun t22 => 
  pur Try.prog (binS .add 3 false true t22 (.int .i64 1)) fun t23 => 
  pur Try.prog (nilV v_h) fun t24 => 
  pur Try.prog (Instr.fieldAt 52 t24 2) fun t25 => 
  act Try.prog (thenU (Instr.storeAt 3 t25 t23)) (fun _ w_4 => 
  pur Try.prog (nilV v_h) fun t28 => 
  pur Try.prog (Instr.fieldAt 52 t28 2) fun t29 => 
  rd Try.prog (Instr.loadAt 3 t29) (fun t30 => 
  pur Try.prog (nilV v_h) fun t33 => 
  pur Try.prog (Instr.fieldAt 52 t33 0) fun t34 => 
  rd Try.prog (Instr.loadAt 49 t34) (fun t35 => 
  pur Try.prog (Builtin.len_ #[49] 3 #[t35]) fun t36 => 
  pur Try.prog (Instr.build 55 #[(0, v_at), (1, t30), (2, v_v), (3, t36)]) fun t37 => 
  act Try.prog (Instr.box 55 t37) (fun t38 w_5 => 
  pur Try.prog (nilV v_h) fun t41 => 
  pur Try.prog (Instr.fieldAt 52 t41 0) fun t42 => 
  rd Try.prog (Instr.loadAt 49 t42) (fun t43 => 
  act Try.prog (Instr.buildSlice 49 1 #[(0, t38)]) (fun t45 w_6 => 
  act Try.prog (Builtin.append_ #[49, 49] 49 #[t43, t45]) (fun t46 w_7 => 
  pur Try.prog (nilV v_h) fun t47 => 
  pur Try.prog (Instr.fieldAt 52 t47 0) fun t48 => 
  act Try.prog (thenU (Instr.storeAt 49 t48 t46)) (fun _ w_8 => 
  pur Try.prog (nilV v_h) fun t50 => 
  pur Try.prog (Instr.fieldAt 52 t50 1) fun t51 => 
  rd Try.prog (Instr.loadAt 50 t51) (fun t52 => 
  pur Try.prog (nilV t38) fun t54 => 
  pur Try.prog (Instr.fieldAt 55 t54 1) fun t55 => 
  rd Try.prog (Instr.loadAt 3 t55) (fun t56 => 
  act Try.prog (thenU (Instr.mapUpdate 50 t52 t56 t38)) (fun _ w_9 => 
  pur Try.prog (nilV t38) fun t60 => 
  pur Try.prog (Instr.fieldAt 55 t60 3) fun t61 => 
  rd Try.prog (Instr.loadAt 3 t61) (fun t62 => 
  callS Try.prog 22 #[v_h, t62] (fun _ w_10 => 
  pur Try.prog (nilV t38) fun t65 => 
  pur Try.prog (Instr.fieldAt 55 t65 1) fun t66 => 
  rd Try.prog (Instr.loadAt 3 t66) (fun t67 => 
  Q t67 w_10) w_10) w_9) w_9) (World.drew w_8)) (World.drew w_8)) (World.drew w_8)) w_7) w_6) w_5) w_5) (World.drew w_4)) (World.drew w_4)) (World.drew w_4)) w_3) w_3))) w
theorem eq9 (v_h v_at v_v : Value) (Q : Value → World → Prop) (w : World) : semF Try.prog 9 [v_h, v_at, v_v] Q w = S9 v_h v_at v_v Q w := by kernel_rfl
theorem ref9 {v_h v_at v_v : Value} {Q : Value → World → Prop} {w : World} (h : S9 v_h v_at v_v Q w) : callS Try.prog 9 #[v_h, v_at, v_v] Q w :=
  callS_of mix (fun a w => Try.call9 a w) (by kernel_rfl) (by rw [eq9]; exact h)
-- (*commons/heap.Heap[int]).Take
def S10 (v_h v_now : Value) (Q : Value → World → Prop) (w : World) : Prop :=
 callS Try.prog 19 #[v_h] (fun t12 w_1 => 
 pur Try.prog (Instr.extract t12 0) fun t13 => 
 pur Try.prog (Instr.extract t12 1) fun t14 => 
 pur Try.prog (Instr.extract t12 2) fun t15 => 
 pur Try.prog (Op.unary .not t15) fun t17 => 
 gd t17 false (fun k w_2 => k t13 w_2) (fun t19_1 w_3 => 
 gd t17 false (fun k_1 w_4 => k_1 v_now w_4) (fun t20_1 w_5 => 
 gd t17 false (fun k_2 w_6 => pur Try.prog (binS .gtr 3 false false t19_1 t20_1) fun t21 => k_2 t21 w_6) (fun t21_1 w_7 => 
 pur Try.prog (pickS t17 (.bool true) t21_1) fun t22 => 
 condS t22
  (Q (.tuple #[(.int .i64 0), (.bool false)]) w_7)
  (pur Try.prog (nilV v_h) fun t26 => 
 pur Try.prog (Instr.fieldAt 52 t26 0) fun t27 => 
 rd Try.prog (Instr.loadAt 49 t27) (fun t28 => 
 pur Try.prog (Instr.indexAt 49 t28 (.int .i64 0)) fun t29 => 
 rd Try.prog (Instr.loadAt 53 t29) (fun t30 => 
 pur Try.prog (nilV t30) fun t31 => 
 pur Try.prog (Instr.fieldAt 55 t31 1) fun t32 => 
 rd Try.prog (Instr.loadAt 3 t32) (fun t33 => 
 callS Try.prog 12 #[v_h, t33] (fun _ w_8 => 
 Q (.tuple #[t14, (.bool true)]) w_8) w_7) w_7) w_7) w_7)) w_5) w_3) w_1) w
theorem eq10 (v_h v_now : Value) (Q : Value → World → Prop) (w : World) : semF Try.prog 10 [v_h, v_now] Q w = S10 v_h v_now Q w := by kernel_rfl
theorem ref10 {v_h v_now : Value} {Q : Value → World → Prop} {w : World} (h : S10 v_h v_now Q w) : callS Try.prog 10 #[v_h, v_now] Q w :=
  callS_of mix (fun a w => Try.call10 a w) (by kernel_rfl) (by rw [eq10]; exact h)
-- (*commons/heap.Heap[int]).Len
def S11 (v_h : Value) (Q : Value → World → Prop) (w : World) : Prop :=
 rd Try.prog (binS .eql 24 false true v_h (.pointer none)) (fun t4 => 
 condS t4
  (Q (.int .i64 0) w)
  (pur Try.prog (nilV v_h) fun t6 => 
 pur Try.prog (Instr.fieldAt 52 t6 0) fun t7 => 
 rd Try.prog (Instr.loadAt 49 t7) (fun t8 => 
 pur Try.prog (Builtin.len_ #[49] 3 #[t8]) fun t9 => 
 Q t9 w) w)) w
theorem eq11 (v_h : Value) (Q : Value → World → Prop) (w : World) : semF Try.prog 11 [v_h] Q w = S11 v_h Q w := by kernel_rfl
theorem ref11 {v_h : Value} {Q : Value → World → Prop} {w : World} (h : S11 v_h Q w) : callS Try.prog 11 #[v_h] Q w :=
  callS_of mix (fun a w => Try.call11 a w) (by kernel_rfl) (by rw [eq11]; exact h)
-- (*commons/heap.Heap[int]).Cancel
def S12 (v_h v_id : Value) (Q : Value → World → Prop) (w : World) : Prop :=
 rd Try.prog (binS .eql 24 false true v_h (.pointer none)) (fun t8 => 
 gd t8 false (fun k w_1 => k v_h w_1) (fun t10_1 w_2 => 
 gd t8 false (fun k_1 w_3 => pur Try.prog (nilV t10_1) fun t11 => k_1 t11 w_3) (fun t11_1 w_4 => 
 gd t8 false (fun k_2 w_5 => pur Try.prog (Instr.fieldAt 52 t11_1 1) fun t12 => k_2 t12 w_5) (fun t12_1 w_6 => 
 gd t8 false (fun k_3 w_7 => rd Try.prog (Instr.loadAt 50 t12_1) (fun t13 => k_3 t13 w_7) w_7) (fun t13_1 w_8 => 
 gd t8 false (fun k_4 w_9 => k_4 v_id w_9) (fun t14_1 w_10 => 
 gd t8 false (fun k_5 w_11 => rd Try.prog (Instr.lookup 50 t13_1 t14_1 false) (fun t15 => k_5 t15 w_11) w_11) (fun t15_1 w_12 => 
 gd t8 false (fun k_6 w_13 => rd Try.prog (binS .eql 53 false true t15_1 (.pointer none)) (fun t16 => k_6 t16 w_13) w_13) (fun t16_1 w_14 => 
 pur Try.prog (pickS t8 (.bool true) t16_1) fun t17 => 
 condS t17
  (Q (.bool false) w_14)
  (pur Try.prog (nilV v_h) fun t19 => 
 pur Try.prog (Instr.fieldAt 52 t19 1) fun t20 => 
 rd Try.prog (Instr.loadAt 50 t20) (fun t21 => 
 rd Try.prog (Instr.lookup 50 t21 v_id false) (fun t23 => 
 pur Try.prog (nilV t23) fun t24 => 
 pur Try.prog (Instr.fieldAt 55 t24 3) fun t25 => 
 rd Try.prog (Instr.loadAt 3 t25) (fun t26 => 
 pur Try.prog (nilV v_h) fun t28 => 
 pur Try.prog (Instr.fieldAt 52 t28 0) fun t29 => 
 rd Try.prog (Instr.loadAt 49 t29) (fun t30 => 
 pur Try.prog (Builtin.len_ #[49] 3 #[t30]) fun t31 => 
 pur Try.prog (binS .sub 3 false true t31 (.int .i64 1)) fun t32 => 
 callS Try.prog 23 #[v_h, t26, t32] (fun _ w_15 => 
 pur Try.prog (nilV v_h) fun t38 => 
 pur Try.prog (Instr.fieldAt 52 t38 0) fun t39 => 
 rd Try.prog (Instr.loadAt 49 t39) (fun t40 => 
 pur Try.prog (Instr.indexAt 49 t40 t32) fun t42 => 
 act Try.prog (thenU (Instr.storeAt 53 t42 (.pointer none))) (fun _ w_16 => 
 pur Try.prog (nilV v_h) fun t45 => 
 pur Try.prog (Instr.fieldAt 52 t45 0) fun t46 => 
 rd Try.prog (Instr.loadAt 49 t46) (fun t47 => 
 pur Try.prog (Instr.sliceAt 49 t47 none (some t32) none) fun t49 => 
 pur Try.prog (nilV v_h) fun t50 => 
 pur Try.prog (Instr.fieldAt 52 t50 0) fun t51 => 
 act Try.prog (thenU (Instr.storeAt 49 t51 t49)) (fun _ w_17 => 
 pur Try.prog (nilV v_h) fun t53 => 
 pur Try.prog (Instr.fieldAt 52 t53 1) fun t54 => 
 rd Try.prog (Instr.loadAt 50 t54) (fun t55 => 
 act Try.prog (Builtin.delete_ #[50, 3] 0 #[t55, v_id]) (fun _ w_18 => 
 jn 0 (fun J => 
  pur Try.prog (binS .lss 3 false false t26 t32) fun t59 => 
  condS t59
   (callS Try.prog 22 #[v_h, t26] (fun _ w_19 => 
   callS Try.prog 24 #[v_h, t26] (fun _ w_20 => 
   J  w_20) w_19) w_18)
   (J  w_18))
 (fun  w_21 => ∀ _j : Fr, 
  Q (.bool true) w_21)) w_17) w_17) w_16) w_16) w_15) w_15) (World.drew w_14)) (World.drew w_14)) (World.drew w_14)) (World.drew w_14)) (World.drew w_14))) w_12) w_10) w_8) w_6) w_4) w_2) w) w
theorem eq12 (v_h v_id : Value) (Q : Value → World → Prop) (w : World) : semF Try.prog 12 [v_h, v_id] Q w = S12 v_h v_id Q w := by kernel_rfl
theorem ref12 {v_h v_id : Value} {Q : Value → World → Prop} {w : World} (h : S12 v_h v_id Q w) : callS Try.prog 12 #[v_h, v_id] Q w :=
  callS_of mix (fun a w => Try.call12 a w) (by kernel_rfl) (by rw [eq12]; exact h)
-- commons/heap.New[string]
def S13 (Q : Value → World → Prop) (w : World) : Prop :=
 pur Try.prog (Instr.build 61 #[]) fun t1 => 
 act Try.prog (Instr.box 61 t1) (fun t2 w_1 => 
 Q t2 w_1) w
theorem eq13 (Q : Value → World → Prop) (w : World) : semF Try.prog 13 [] Q w = S13 Q w := by kernel_rfl
theorem ref13 {Q : Value → World → Prop} {w : World} (h : S13 Q w) : callS Try.prog 13 #[] Q w :=
  callS_of mix (fun a w => Try.call13 a w) (by kernel_rfl) (by rw [eq13]; exact h)
-- (*commons/heap.Heap[string]).Put
def S14 (v_h v_at v_v : Value) (Q : Value → World → Prop) (w : World) : Prop :=
 rd Try.prog (binS .eql 34 false true v_h (.pointer none)) (fun t9 => 
 condS t9
  (Q (.int .i64 0) w)
  (jn 0 (fun J => 
  pur Try.prog (nilV v_h) fun t11 => 
  pur Try.prog (Instr.fieldAt 61 t11 1) fun t12 => 
  rd Try.prog (Instr.loadAt 59 t12) (fun t13 => 
  rd Try.prog (binS .eql 59 false true t13 (.map none)) (fun t14 => 
  condS t14
   (act Try.prog (Instr.makeMap 59 none) (fun t16 w_1 => 
   pur Try.prog (nilV v_h) fun t17 => 
   pur Try.prog (Instr.fieldAt 61 t17 1) fun t18 => 
   act Try.prog (thenU (Instr.storeAt 59 t18 t16)) (fun _ w_2 => 
   J  w_2) w_1) w)
   (J  w)) w) w)
 (fun  w_3 => ∀ _j : Fr, 
  pur Try.prog (nilV v_h) fun t20 => 
  pur Try.prog (Instr.fieldAt 61 t20 2) fun t21 => 
  rd Try.prog (Instr.loadAt 3 t21) (fun t22 => 
  pur Try.prog (binS .add 3 false true t22 (.int .i64 1)) fun t23 => 
  pur Try.prog (nilV v_h) fun t24 => 
  pur Try.prog (Instr.fieldAt 61 t24 2) fun t25 => 
  act Try.prog (thenU (Instr.storeAt 3 t25 t23)) (fun _ w_4 => 
  pur Try.prog (nilV v_h) fun t28 => 
  pur Try.prog (Instr.fieldAt 61 t28 2) fun t29 => 
  rd Try.prog (Instr.loadAt 3 t29) (fun t30 => 
  pur Try.prog (nilV v_h) fun t33 => 
  pur Try.prog (Instr.fieldAt 61 t33 0) fun t34 => 
  rd Try.prog (Instr.loadAt 58 t34) (fun t35 => 
  pur Try.prog (Builtin.len_ #[58] 3 #[t35]) fun t36 => 
  pur Try.prog (Instr.build 64 #[(0, v_at), (1, t30), (2, v_v), (3, t36)]) fun t37 => 
  act Try.prog (Instr.box 64 t37) (fun t38 w_5 => 
  pur Try.prog (nilV v_h) fun t41 => 
  pur Try.prog (Instr.fieldAt 61 t41 0) fun t42 => 
  rd Try.prog (Instr.loadAt 58 t42) (fun t43 => 
  act Try.prog (Instr.buildSlice 58 1 #[(0, t38)]) (fun t45 w_6 => 
  act Try.prog (Builtin.append_ #[58, 58] 58 #[t43, t45]) (fun t46 w_7 => 
  pur Try.prog (nilV v_h) fun t47 => 
  pur Try.prog (Instr.fieldAt 61 t47 0) fun t48 => 
  act Try.prog (thenU (Instr.storeAt 58 t48 t46)) (fun _ w_8 => 
  pur Try.prog (nilV v_h) fun t50 => 
  pur Try.prog (Instr.fieldAt 61 t50 1) fun t51 => 
  rd Try.prog (Instr.loadAt 59 t51) (fun t52 => 
  pur Try.prog (nilV t38) fun t54 => 
  pur Try.prog (Instr.fieldAt 64 t54 1) fun t55 => 
  rd Try.prog (Instr.loadAt 3 t55) (fun t56 => 
  act Try.prog (thenU (Instr.mapUpdate 59 t52 t56 t38)) (fun _ w_9 => 
  pur Try.prog (nilV t38) fun t60 => 
  pur Try.prog (Instr.fieldAt 64 t60 3) fun t61 => 
  rd Try.prog (Instr.loadAt 3 t61) (fun t62 => 
  callS Try.prog 25 #[v_h, t62] (fun _ w_10 => 
  pur Try.prog (nilV t38) fun t65 => 
  pur Try.prog (Instr.fieldAt 64 t65 1) fun t66 => 
  rd Try.prog (Instr.loadAt 3 t66) (fun t67 => 
  Q t67 w_10) w_10) w_9) w_9) (World.drew w_8)) (World.drew w_8)) (World.drew w_8)) w_7) w_6) w_5) w_5) (World.drew w_4)) (World.drew w_4)) (World.drew w_4)) w_3) w_3))) w
theorem eq14 (v_h v_at v_v : Value) (Q : Value → World → Prop) (w : World) : semF Try.prog 14 [v_h, v_at, v_v] Q w = S14 v_h v_at v_v Q w := by kernel_rfl
theorem ref14 {v_h v_at v_v : Value} {Q : Value → World → Prop} {w : World} (h : S14 v_h v_at v_v Q w) : callS Try.prog 14 #[v_h, v_at, v_v] Q w :=
  callS_of mix (fun a w => Try.call14 a w) (by kernel_rfl) (by rw [eq14]; exact h)
-- (*commons/heap.Heap[string]).First
def S15 (v_h : Value) (Q : Value → World → Prop) (w : World) : Prop :=
 callS Try.prog 16 #[v_h] (fun t7 w_1 => 
 pur Try.prog (binS .eql 3 false true t7 (.int .i64 0)) fun t8 => 
 condS t8
  (Q (.tuple #[(.int .i64 0), (.string ⟨#[]⟩), (.bool false)]) w_1)
  (pur Try.prog (nilV v_h) fun t11 => 
 pur Try.prog (Instr.fieldAt 61 t11 0) fun t12 => 
 rd Try.prog (Instr.loadAt 58 t12) (fun t13 => 
 pur Try.prog (Instr.indexAt 58 t13 (.int .i64 0)) fun t14 => 
 rd Try.prog (Instr.loadAt 62 t14) (fun t15 => 
 pur Try.prog (nilV t15) fun t16 => 
 pur Try.prog (Instr.fieldAt 64 t16 0) fun t17 => 
 rd Try.prog (Instr.loadAt 3 t17) (fun t18 => 
 pur Try.prog (nilV v_h) fun t20 => 
 pur Try.prog (Instr.fieldAt 61 t20 0) fun t21 => 
 rd Try.prog (Instr.loadAt 58 t21) (fun t22 => 
 pur Try.prog (Instr.indexAt 58 t22 (.int .i64 0)) fun t23 => 
 rd Try.prog (Instr.loadAt 62 t23) (fun t24 => 
 pur Try.prog (nilV t24) fun t25 => 
 pur Try.prog (Instr.fieldAt 64 t25 2) fun t26 => 
 rd Try.prog (Instr.loadAt 9 t26) (fun t27 => 
 Q (.tuple #[t18, t27, (.bool true)]) (World.drew w_1)) (World.drew w_1)) (World.drew w_1)) (World.drew w_1)) (World.drew w_1)) (World.drew w_1)) (World.drew w_1))) w
theorem eq15 (v_h : Value) (Q : Value → World → Prop) (w : World) : semF Try.prog 15 [v_h] Q w = S15 v_h Q w := by kernel_rfl
theorem ref15 {v_h : Value} {Q : Value → World → Prop} {w : World} (h : S15 v_h Q w) : callS Try.prog 15 #[v_h] Q w :=
  callS_of mix (fun a w => Try.call15 a w) (by kernel_rfl) (by rw [eq15]; exact h)
-- (*commons/heap.Heap[string]).Len
def S16 (v_h : Value) (Q : Value → World → Prop) (w : World) : Prop :=
 rd Try.prog (binS .eql 34 false true v_h (.pointer none)) (fun t4 => 
 condS t4
  (Q (.int .i64 0) w)
  (pur Try.prog (nilV v_h) fun t6 => 
 pur Try.prog (Instr.fieldAt 61 t6 0) fun t7 => 
 rd Try.prog (Instr.loadAt 58 t7) (fun t8 => 
 pur Try.prog (Builtin.len_ #[58] 3 #[t8]) fun t9 => 
 Q t9 w) w)) w
theorem eq16 (v_h : Value) (Q : Value → World → Prop) (w : World) : semF Try.prog 16 [v_h] Q w = S16 v_h Q w := by kernel_rfl
theorem ref16 {v_h : Value} {Q : Value → World → Prop} {w : World} (h : S16 v_h Q w) : callS Try.prog 16 #[v_h] Q w :=
  callS_of mix (fun a w => Try.call16 a w) (by kernel_rfl) (by rw [eq16]; exact h)
-- (*commons/heap.Heap[string]).Take
def S17 (v_h v_now : Value) (Q : Value → World → Prop) (w : World) : Prop :=
 callS Try.prog 15 #[v_h] (fun t12 w_1 => 
 pur Try.prog (Instr.extract t12 0) fun t13 => 
 pur Try.prog (Instr.extract t12 1) fun t14 => 
 pur Try.prog (Instr.extract t12 2) fun t15 => 
 pur Try.prog (Op.unary .not t15) fun t17 => 
 gd t17 false (fun k w_2 => k t13 w_2) (fun t19_1 w_3 => 
 gd t17 false (fun k_1 w_4 => k_1 v_now w_4) (fun t20_1 w_5 => 
 gd t17 false (fun k_2 w_6 => pur Try.prog (binS .gtr 3 false false t19_1 t20_1) fun t21 => k_2 t21 w_6) (fun t21_1 w_7 => 
 pur Try.prog (pickS t17 (.bool true) t21_1) fun t22 => 
 condS t22
  (Q (.tuple #[(.string ⟨#[]⟩), (.bool false)]) w_7)
  (pur Try.prog (nilV v_h) fun t26 => 
 pur Try.prog (Instr.fieldAt 61 t26 0) fun t27 => 
 rd Try.prog (Instr.loadAt 58 t27) (fun t28 => 
 pur Try.prog (Instr.indexAt 58 t28 (.int .i64 0)) fun t29 => 
 rd Try.prog (Instr.loadAt 62 t29) (fun t30 => 
 pur Try.prog (nilV t30) fun t31 => 
 pur Try.prog (Instr.fieldAt 64 t31 1) fun t32 => 
 rd Try.prog (Instr.loadAt 3 t32) (fun t33 => 
 callS Try.prog 26 #[v_h, t33] (fun _ w_8 => 
 Q (.tuple #[t14, (.bool true)]) w_8) w_7) w_7) w_7) w_7)) w_5) w_3) w_1) w
theorem eq17 (v_h v_now : Value) (Q : Value → World → Prop) (w : World) : semF Try.prog 17 [v_h, v_now] Q w = S17 v_h v_now Q w := by kernel_rfl
theorem ref17 {v_h v_now : Value} {Q : Value → World → Prop} {w : World} (h : S17 v_h v_now Q w) : callS Try.prog 17 #[v_h, v_now] Q w :=
  callS_of mix (fun a w => Try.call17 a w) (by kernel_rfl) (by rw [eq17]; exact h)
-- (*commons/heap.Heap[string]).List
def S18 (v_h : Value) (Q : Value → World → Prop) (w : World) : Prop :=
 rd Try.prog (binS .eql 34 false true v_h (.pointer none)) (fun t7 => 
 condS t7
  (Q (.slice none 0 0) w)
  (pur Try.prog (nilV v_h) fun t9 => 
 pur Try.prog (Instr.fieldAt 61 t9 0) fun t10 => 
 rd Try.prog (Instr.loadAt 58 t10) (fun t11 => 
 callS Try.prog 28 #[t11] (fun t12 w_1 => 
 callS Try.prog 27 #[t12, (.func (.func 29) #[] #[])] (fun t13 w_2 => 
 pur Try.prog (Builtin.len_ #[58] 3 #[t13]) fun t14 => 
 lp 2 (fun J => fun v_out t15 w_3 => ∀ _j : Fr, 
  pur Try.prog (binS .lss 3 false false t15 t14) fun t16 => 
  condS t16
   (pur Try.prog (Instr.indexAt 58 t13 t15) fun t17 => 
  rd Try.prog (Instr.loadAt 62 t17) (fun t18 => 
  pur Try.prog (nilV t18) fun t21 => 
  pur Try.prog (Instr.fieldAt 64 t21 2) fun t22 => 
  rd Try.prog (Instr.loadAt 9 t22) (fun t23 => 
  act Try.prog (Instr.buildSlice 42 1 #[(0, t23)]) (fun t24 w_4 => 
  act Try.prog (Builtin.append_ #[42, 42] 42 #[v_out, t24]) (fun t25 w_5 => 
  pur Try.prog (binS .add 3 false true t15 (.int .i64 1)) fun t26 => 
  J t25 t26 w_5) w_4) w_3) w_3) w_3)
   (Q v_out w_3)) [(.slice none 0 0), (.int .i64 0)] w_2) w_1) w) w)) w
theorem eq18 (v_h : Value) (Q : Value → World → Prop) (w : World) : semF Try.prog 18 [v_h] Q w = S18 v_h Q w := by kernel_rfl
theorem ref18 {v_h : Value} {Q : Value → World → Prop} {w : World} (h : S18 v_h Q w) : callS Try.prog 18 #[v_h] Q w :=
  callS_of mix (fun a w => Try.call18 a w) (by kernel_rfl) (by rw [eq18]; exact h)
-- (*commons/heap.Heap[int]).First
def S19 (v_h : Value) (Q : Value → World → Prop) (w : World) : Prop :=
 callS Try.prog 11 #[v_h] (fun t7 w_1 => 
 pur Try.prog (binS .eql 3 false true t7 (.int .i64 0)) fun t8 => 
 condS t8
  (Q (.tuple #[(.int .i64 0), (.int .i64 0), (.bool false)]) w_1)
  (pur Try.prog (nilV v_h) fun t11 => 
 pur Try.prog (Instr.fieldAt 52 t11 0) fun t12 => 
 rd Try.prog (Instr.loadAt 49 t12) (fun t13 => 
 pur Try.prog (Instr.indexAt 49 t13 (.int .i64 0)) fun t14 => 
 rd Try.prog (Instr.loadAt 53 t14) (fun t15 => 
 pur Try.prog (nilV t15) fun t16 => 
 pur Try.prog (Instr.fieldAt 55 t16 0) fun t17 => 
 rd Try.prog (Instr.loadAt 3 t17) (fun t18 => 
 pur Try.prog (nilV v_h) fun t20 => 
 pur Try.prog (Instr.fieldAt 52 t20 0) fun t21 => 
 rd Try.prog (Instr.loadAt 49 t21) (fun t22 => 
 pur Try.prog (Instr.indexAt 49 t22 (.int .i64 0)) fun t23 => 
 rd Try.prog (Instr.loadAt 53 t23) (fun t24 => 
 pur Try.prog (nilV t24) fun t25 => 
 pur Try.prog (Instr.fieldAt 55 t25 2) fun t26 => 
 rd Try.prog (Instr.loadAt 3 t26) (fun t27 => 
 Q (.tuple #[t18, t27, (.bool true)]) (World.drew w_1)) (World.drew w_1)) (World.drew w_1)) (World.drew w_1)) (World.drew w_1)) (World.drew w_1)) (World.drew w_1))) w
theorem eq19 (v_h : Value) (Q : Value → World → Prop) (w : World) : semF Try.prog 19 [v_h] Q w = S19 v_h Q w := by kernel_rfl
theorem ref19 {v_h : Value} {Q : Value → World → Prop} {w : World} (h : S19 v_h Q w) : callS Try.prog 19 #[v_h] Q w :=
  callS_of mix (fun a w => Try.call19 a w) (by kernel_rfl) (by rw [eq19]; exact h)
-- (*commons/heap.Heap[int]).At
def S20 (v_h v_id : Value) (Q : Value → World → Prop) (w : World) : Prop :=
 rd Try.prog (binS .eql 24 false true v_h (.pointer none)) (fun t7 => 
 gd t7 false (fun k w_1 => k v_h w_1) (fun t9_1 w_2 => 
 gd t7 false (fun k_1 w_3 => pur Try.prog (nilV t9_1) fun t10 => k_1 t10 w_3) (fun t10_1 w_4 => 
 gd t7 false (fun k_2 w_5 => pur Try.prog (Instr.fieldAt 52 t10_1 1) fun t11 => k_2 t11 w_5) (fun t11_1 w_6 => 
 gd t7 false (fun k_3 w_7 => rd Try.prog (Instr.loadAt 50 t11_1) (fun t12 => k_3 t12 w_7) w_7) (fun t12_1 w_8 => 
 gd t7 false (fun k_4 w_9 => k_4 v_id w_9) (fun t13_1 w_10 => 
 gd t7 false (fun k_5 w_11 => rd Try.prog (Instr.lookup 50 t12_1 t13_1 false) (fun t14 => k_5 t14 w_11) w_11) (fun t14_1 w_12 => 
 gd t7 false (fun k_6 w_13 => rd Try.prog (binS .eql 53 false true t14_1 (.pointer none)) (fun t15 => k_6 t15 w_13) w_13) (fun t15_1 w_14 => 
 pur Try.prog (pickS t7 (.bool true) t15_1) fun t16 => 
 condS t16
  (Q (.tuple #[(.int .i64 0), (.bool false)]) w_14)
  (pur Try.prog (nilV v_h) fun t18 => 
 pur Try.prog (Instr.fieldAt 52 t18 1) fun t19 => 
 rd Try.prog (Instr.loadAt 50 t19) (fun t20 => 
 rd Try.prog (Instr.lookup 50 t20 v_id false) (fun t22 => 
 pur Try.prog (nilV t22) fun t23 => 
 pur Try.prog (Instr.fieldAt 55 t23 0) fun t24 => 
 rd Try.prog (Instr.loadAt 3 t24) (fun t25 => 
 Q (.tuple #[t25, (.bool true)]) w_14) w_14) w_14) w_14)) w_12) w_10) w_8) w_6) w_4) w_2) w) w
theorem eq20 (v_h v_id : Value) (Q : Value → World → Prop) (w : World) : semF Try.prog 20 [v_h, v_id] Q w = S20 v_h v_id Q w := by kernel_rfl
theorem ref20 {v_h v_id : Value} {Q : Value → World → Prop} {w : World} (h : S20 v_h v_id Q w) : callS Try.prog 20 #[v_h, v_id] Q w :=
  callS_of mix (fun a w => Try.call20 a w) (by kernel_rfl) (by rw [eq20]; exact h)
-- (*commons/heap.Heap[int]).List
def S21 (v_h : Value) (Q : Value → World → Prop) (w : World) : Prop :=
 rd Try.prog (binS .eql 24 false true v_h (.pointer none)) (fun t7 => 
 condS t7
  (Q (.slice none 0 0) w)
  (pur Try.prog (nilV v_h) fun t9 => 
 pur Try.prog (Instr.fieldAt 52 t9 0) fun t10 => 
 rd Try.prog (Instr.loadAt 49 t10) (fun t11 => 
 callS Try.prog 31 #[t11] (fun t12 w_1 => 
 callS Try.prog 30 #[t12, (.func (.func 32) #[] #[])] (fun t13 w_2 => 
 pur Try.prog (Builtin.len_ #[49] 3 #[t13]) fun t14 => 
 lp 2 (fun J => fun v_out t15 w_3 => ∀ _j : Fr, 
  pur Try.prog (binS .lss 3 false false t15 t14) fun t16 => 
  condS t16
   (pur Try.prog (Instr.indexAt 49 t13 t15) fun t17 => 
  rd Try.prog (Instr.loadAt 53 t17) (fun t18 => 
  pur Try.prog (nilV t18) fun t21 => 
  pur Try.prog (Instr.fieldAt 55 t21 2) fun t22 => 
  rd Try.prog (Instr.loadAt 3 t22) (fun t23 => 
  act Try.prog (Instr.buildSlice 22 1 #[(0, t23)]) (fun t24 w_4 => 
  act Try.prog (Builtin.append_ #[22, 22] 22 #[v_out, t24]) (fun t25 w_5 => 
  pur Try.prog (binS .add 3 false true t15 (.int .i64 1)) fun t26 => 
  J t25 t26 w_5) w_4) w_3) w_3) w_3)
   (Q v_out w_3)) [(.slice none 0 0), (.int .i64 0)] w_2) w_1) w) w)) w
theorem eq21 (v_h : Value) (Q : Value → World → Prop) (w : World) : semF Try.prog 21 [v_h] Q w = S21 v_h Q w := by kernel_rfl
theorem ref21 {v_h : Value} {Q : Value → World → Prop} {w : World} (h : S21 v_h Q w) : callS Try.prog 21 #[v_h] Q w :=
  callS_of mix (fun a w => Try.call21 a w) (by kernel_rfl) (by rw [eq21]; exact h)
-- (*commons/heap.Heap[int]).up
def S22 (v_h v_i : Value) (Q : Value → World → Prop) (w : World) : Prop :=
 lp 1 (fun J => fun v_i_1 w_1 => ∀ _j : Fr, 
  pur Try.prog (binS .gtr 3 false true v_i_1 (.int .i64 0)) fun t5 => 
  gd t5 true (fun k w_2 => k v_h w_2) (fun t7_1 w_3 => 
  gd t5 true (fun k_1 w_4 => pur Try.prog (nilV t7_1) fun t8 => k_1 t8 w_4) (fun t8_1 w_5 => 
  gd t5 true (fun k_2 w_6 => pur Try.prog (Instr.fieldAt 52 t8_1 0) fun t9 => k_2 t9 w_6) (fun t9_1 w_7 => 
  gd t5 true (fun k_3 w_8 => rd Try.prog (Instr.loadAt 49 t9_1) (fun t10 => k_3 t10 w_8) w_8) (fun t10_1 w_9 => 
  gd t5 true (fun k_4 w_10 => k_4 v_i_1 w_10) (fun t11_1 w_11 => 
  gd t5 true (fun k_5 w_12 => pur Try.prog (Instr.indexAt 49 t10_1 t11_1) fun t12 => k_5 t12 w_12) (fun t12_1 w_13 => 
  gd t5 true (fun k_6 w_14 => rd Try.prog (Instr.loadAt 53 t12_1) (fun t13 => k_6 t13 w_14) w_14) (fun t13_1 w_15 => 
  gd t5 true (fun k_7 w_16 => k_7 v_h w_16) (fun t14_1 w_17 => 
  gd t5 true (fun k_8 w_18 => pur Try.prog (nilV t14_1) fun t15 => k_8 t15 w_18) (fun t15_1 w_19 => 
  gd t5 true (fun k_9 w_20 => pur Try.prog (Instr.fieldAt 52 t15_1 0) fun t16 => k_9 t16 w_20) (fun t16_1 w_21 => 
  gd t5 true (fun k_10 w_22 => rd Try.prog (Instr.loadAt 49 t16_1) (fun t17 => k_10 t17 w_22) w_22) (fun t17_1 w_23 => 
  gd t5 true (fun k_11 w_24 => k_11 v_i_1 w_24) (fun t18_1 w_25 => 
  gd t5 true (fun k_12 w_26 => pur Try.prog (binS .sub 3 false true t18_1 (.int .i64 1)) fun t19 => k_12 t19 w_26) (fun t19_1 w_27 => 
  gd t5 true (fun k_13 w_28 => pur Try.prog (binS .quo 3 false true t19_1 (.int .i64 2)) fun t20 => k_13 t20 w_28) (fun t20_1 w_29 => 
  gd t5 true (fun k_14 w_30 => pur Try.prog (Instr.indexAt 49 t17_1 t20_1) fun t21 => k_14 t21 w_30) (fun t21_1 w_31 => 
  gd t5 true (fun k_15 w_32 => rd Try.prog (Instr.loadAt 53 t21_1) (fun t22 => k_15 t22 w_32) w_32) (fun t22_1 w_33 => 
  gd t5 true (fun k_16 w_34 => callS Try.prog 32 #[t13_1, t22_1] (fun t23 w_35 => k_16 t23 w_35) w_34) (fun t23_1 w_36 => 
  gd t5 true (fun k_17 w_37 => pur Try.prog (binS .lss 3 false true t23_1 (.int .i64 0)) fun t24 => k_17 t24 w_37) (fun t24_1 w_38 => 
  pur Try.prog (pickS t5 t24_1 (.bool false)) fun t25 => 
  condS t25
   (pur Try.prog (binS .sub 3 false true v_i_1 (.int .i64 1)) fun t29 => 
  pur Try.prog (binS .quo 3 false true t29 (.int .i64 2)) fun t30 => 
  callS Try.prog 23 #[v_h, v_i_1, t30] (fun _ w_39 => 
  pur Try.prog (binS .sub 3 false true v_i_1 (.int .i64 1)) fun t33 => 
  pur Try.prog (binS .quo 3 false true t33 (.int .i64 2)) fun t34 => 
  J t34 w_39) w_38)
   (Q (.tuple #[]) w_38)) w_36) w_33) w_31) w_29) w_27) w_25) w_23) w_21) w_19) w_17) w_15) w_13) w_11) w_9) w_7) w_5) w_3) (World.drew w_1)) [v_i] w
theorem eq22 (v_h v_i : Value) (Q : Value → World → Prop) (w : World) : semF Try.prog 22 [v_h, v_i] Q w = S22 v_h v_i Q w := by kernel_rfl
theorem ref22 {v_h v_i : Value} {Q : Value → World → Prop} {w : World} (h : S22 v_h v_i Q w) : callS Try.prog 22 #[v_h, v_i] Q w :=
  callS_of mix (fun a w => Try.call22 a w) (by kernel_rfl) (by rw [eq22]; exact h)
-- (*commons/heap.Heap[int]).swap
def S23 (v_h v_i v_j : Value) (Q : Value → World → Prop) (w : World) : Prop :=
 pur Try.prog (nilV v_h) fun t7 => 
 pur Try.prog (Instr.fieldAt 52 t7 0) fun t8 => 
 rd Try.prog (Instr.loadAt 49 t8) (fun t9 => 
 pur Try.prog (nilV v_h) fun t12 => 
 pur Try.prog (Instr.fieldAt 52 t12 0) fun t13 => 
 rd Try.prog (Instr.loadAt 49 t13) (fun t14 => 
 pur Try.prog (nilV v_h) fun t17 => 
 pur Try.prog (Instr.fieldAt 52 t17 0) fun t18 => 
 rd Try.prog (Instr.loadAt 49 t18) (fun t19 => 
 pur Try.prog (Instr.indexAt 49 t19 v_j) fun t21 => 
 rd Try.prog (Instr.loadAt 53 t21) (fun t22 => 
 pur Try.prog (nilV v_h) fun t24 => 
 pur Try.prog (Instr.fieldAt 52 t24 0) fun t25 => 
 rd Try.prog (Instr.loadAt 49 t25) (fun t26 => 
 pur Try.prog (Instr.indexAt 49 t26 v_i) fun t28 => 
 rd Try.prog (Instr.loadAt 53 t28) (fun t29 => 
 pur Try.prog (Instr.indexAt 49 t9 v_i) fun t30 => 
 act Try.prog (thenU (Instr.storeAt 53 t30 t22)) (fun _ w_1 => 
 pur Try.prog (Instr.indexAt 49 t14 v_j) fun t31 => 
 act Try.prog (thenU (Instr.storeAt 53 t31 t29)) (fun _ w_2 => 
 pur Try.prog (nilV v_h) fun t33 => 
 pur Try.prog (Instr.fieldAt 52 t33 0) fun t34 => 
 rd Try.prog (Instr.loadAt 49 t34) (fun t35 => 
 pur Try.prog (Instr.indexAt 49 t35 v_i) fun t37 => 
 rd Try.prog (Instr.loadAt 53 t37) (fun t38 => 
 pur Try.prog (nilV v_h) fun t40 => 
 pur Try.prog (Instr.fieldAt 52 t40 0) fun t41 => 
 rd Try.prog (Instr.loadAt 49 t41) (fun t42 => 
 pur Try.prog (Instr.indexAt 49 t42 v_j) fun t44 => 
 rd Try.prog (Instr.loadAt 53 t44) (fun t45 => 
 pur Try.prog (nilV t38) fun t48 => 
 pur Try.prog (Instr.fieldAt 55 t48 3) fun t49 => 
 act Try.prog (thenU (Instr.storeAt 3 t49 v_i)) (fun _ w_3 => 
 pur Try.prog (nilV t45) fun t50 => 
 pur Try.prog (Instr.fieldAt 55 t50 3) fun t51 => 
 act Try.prog (thenU (Instr.storeAt 3 t51 v_j)) (fun _ w_4 => 
 Q (.tuple #[]) w_4) w_3) (World.drew w_2)) (World.drew w_2)) (World.drew w_2)) (World.drew w_2)) (World.drew w_2)) w_1) (World.drew w)) (World.drew w)) (World.drew w)) (World.drew w)) (World.drew w)) (World.drew w)) (World.drew w)
theorem eq23 (v_h v_i v_j : Value) (Q : Value → World → Prop) (w : World) : semF Try.prog 23 [v_h, v_i, v_j] Q w = S23 v_h v_i v_j Q w := by kernel_rfl
theorem ref23 {v_h v_i v_j : Value} {Q : Value → World → Prop} {w : World} (h : S23 v_h v_i v_j Q w) : callS Try.prog 23 #[v_h, v_i, v_j] Q w :=
  callS_of mix (fun a w => Try.call23 a w) (by kernel_rfl) (by rw [eq23]; exact h)
-- (*commons/heap.Heap[int]).down
def S24 (v_h v_i : Value) (Q : Value → World → Prop) (w : World) : Prop :=
 lp 1 (fun J => fun v_i_1 w_1 => ∀ _j : Fr, 
  pur Try.prog (binS .mul 3 true false (.int .i64 2) v_i_1) fun t9 => 
  pur Try.prog (binS .add 3 false true t9 (.int .i64 1)) fun t10 => 
  pur Try.prog (binS .mul 3 true false (.int .i64 2) v_i_1) fun t12 => 
  pur Try.prog (binS .add 3 false true t12 (.int .i64 2)) fun t13 => 
  act Try.prog (Instr.buildSlice 22 2 #[(0, t10), (1, t13)]) (fun t14 w_2 => 
  pur Try.prog (Builtin.len_ #[22] 3 #[t14]) fun t15 => 
  lp 2 (fun J_1 => fun v_least t16 w_3 => ∀ _j : Fr, 
   pur Try.prog (binS .lss 3 false false t16 t15) fun t17 => 
   condS t17
    (jn 1 (fun J_2 => 
    pur Try.prog (Instr.indexAt 22 t14 t16) fun t18 => 
    rd Try.prog (Instr.loadAt 3 t18) (fun t19 => 
    pur Try.prog (nilV v_h) fun t22 => 
    pur Try.prog (Instr.fieldAt 52 t22 0) fun t23 => 
    rd Try.prog (Instr.loadAt 49 t23) (fun t24 => 
    pur Try.prog (Builtin.len_ #[49] 3 #[t24]) fun t25 => 
    pur Try.prog (binS .lss 3 false false t19 t25) fun t26 => 
    gd t26 true (fun k w_4 => k v_h w_4) (fun t28_1 w_5 => 
    gd t26 true (fun k_1 w_6 => pur Try.prog (nilV t28_1) fun t29 => k_1 t29 w_6) (fun t29_1 w_7 => 
    gd t26 true (fun k_2 w_8 => pur Try.prog (Instr.fieldAt 52 t29_1 0) fun t30 => k_2 t30 w_8) (fun t30_1 w_9 => 
    gd t26 true (fun k_3 w_10 => rd Try.prog (Instr.loadAt 49 t30_1) (fun t31 => k_3 t31 w_10) w_10) (fun t31_1 w_11 => 
    gd t26 true (fun k_4 w_12 => k_4 t19 w_12) (fun t32_1 w_13 => 
    gd t26 true (fun k_5 w_14 => pur Try.prog (Instr.indexAt 49 t31_1 t32_1) fun t33 => k_5 t33 w_14) (fun t33_1 w_15 => 
    gd t26 true (fun k_6 w_16 => rd Try.prog (Instr.loadAt 53 t33_1) (fun t34 => k_6 t34 w_16) w_16) (fun t34_1 w_17 => 
    gd t26 true (fun k_7 w_18 => k_7 v_h w_18) (fun t35_1 w_19 => 
    gd t26 true (fun k_8 w_20 => pur Try.prog (nilV t35_1) fun t36 => k_8 t36 w_20) (fun t36_1 w_21 => 
    gd t26 true (fun k_9 w_22 => pur Try.prog (Instr.fieldAt 52 t36_1 0) fun t37 => k_9 t37 w_22) (fun t37_1 w_23 => 
    gd t26 true (fun k_10 w_24 => rd Try.prog (Instr.loadAt 49 t37_1) (fun t38 => k_10 t38 w_24) w_24) (fun t38_1 w_25 => 
    gd t26 true (fun k_11 w_26 => k_11 v_least w_26) (fun t39_1 w_27 => 
    gd t26 true (fun k_12 w_28 => pur Try.prog (Instr.indexAt 49 t38_1 t39_1) fun t40 => k_12 t40 w_28) (fun t40_1 w_29 => 
    gd t26 true (fun k_13 w_30 => rd Try.prog (Instr.loadAt 53 t40_1) (fun t41 => k_13 t41 w_30) w_30) (fun t41_1 w_31 => 
    gd t26 true (fun k_14 w_32 => callS Try.prog 32 #[t34_1, t41_1] (fun t42 w_33 => k_14 t42 w_33) w_32) (fun t42_1 w_34 => 
    gd t26 true (fun k_15 w_35 => pur Try.prog (binS .lss 3 false true t42_1 (.int .i64 0)) fun t43 => k_15 t43 w_35) (fun t43_1 w_36 => 
    pur Try.prog (pickS t26 t43_1 (.bool false)) fun t44 => 
    condS t44
     (J_2 t19 w_36)
     (J_2 v_least w_36)) w_34) w_31) w_29) w_27) w_25) w_23) w_21) w_19) w_17) w_15) w_13) w_11) w_9) w_7) w_5) (World.drew w_3)) (World.drew w_3)) w_3)
   (fun v_least_1 w_37 => ∀ _j : Fr, 
    pur Try.prog (binS .add 3 false true t16 (.int .i64 1)) fun t46 => 
    J_1 v_least_1 t46 w_37))
    (pur Try.prog (binS .eql 3 false false v_least v_i_1) fun t49 => 
  condS t49
   (Q (.tuple #[]) w_3)
   (callS Try.prog 23 #[v_h, v_i_1, v_least] (fun _ w_38 => 
  J v_least w_38) w_3))) [v_i_1, (.int .i64 0)] w_2) w_1) [v_i] w
theorem eq24 (v_h v_i : Value) (Q : Value → World → Prop) (w : World) : semF Try.prog 24 [v_h, v_i] Q w = S24 v_h v_i Q w := by kernel_rfl
theorem ref24 {v_h v_i : Value} {Q : Value → World → Prop} {w : World} (h : S24 v_h v_i Q w) : callS Try.prog 24 #[v_h, v_i] Q w :=
  callS_of mix (fun a w => Try.call24 a w) (by kernel_rfl) (by rw [eq24]; exact h)
-- (*commons/heap.Heap[string]).up
def S25 (v_h v_i : Value) (Q : Value → World → Prop) (w : World) : Prop :=
 lp 1 (fun J => fun v_i_1 w_1 => ∀ _j : Fr, 
  pur Try.prog (binS .gtr 3 false true v_i_1 (.int .i64 0)) fun t5 => 
  gd t5 true (fun k w_2 => k v_h w_2) (fun t7_1 w_3 => 
  gd t5 true (fun k_1 w_4 => pur Try.prog (nilV t7_1) fun t8 => k_1 t8 w_4) (fun t8_1 w_5 => 
  gd t5 true (fun k_2 w_6 => pur Try.prog (Instr.fieldAt 61 t8_1 0) fun t9 => k_2 t9 w_6) (fun t9_1 w_7 => 
  gd t5 true (fun k_3 w_8 => rd Try.prog (Instr.loadAt 58 t9_1) (fun t10 => k_3 t10 w_8) w_8) (fun t10_1 w_9 => 
  gd t5 true (fun k_4 w_10 => k_4 v_i_1 w_10) (fun t11_1 w_11 => 
  gd t5 true (fun k_5 w_12 => pur Try.prog (Instr.indexAt 58 t10_1 t11_1) fun t12 => k_5 t12 w_12) (fun t12_1 w_13 => 
  gd t5 true (fun k_6 w_14 => rd Try.prog (Instr.loadAt 62 t12_1) (fun t13 => k_6 t13 w_14) w_14) (fun t13_1 w_15 => 
  gd t5 true (fun k_7 w_16 => k_7 v_h w_16) (fun t14_1 w_17 => 
  gd t5 true (fun k_8 w_18 => pur Try.prog (nilV t14_1) fun t15 => k_8 t15 w_18) (fun t15_1 w_19 => 
  gd t5 true (fun k_9 w_20 => pur Try.prog (Instr.fieldAt 61 t15_1 0) fun t16 => k_9 t16 w_20) (fun t16_1 w_21 => 
  gd t5 true (fun k_10 w_22 => rd Try.prog (Instr.loadAt 58 t16_1) (fun t17 => k_10 t17 w_22) w_22) (fun t17_1 w_23 => 
  gd t5 true (fun k_11 w_24 => k_11 v_i_1 w_24) (fun t18_1 w_25 => 
  gd t5 true (fun k_12 w_26 => pur Try.prog (binS .sub 3 false true t18_1 (.int .i64 1)) fun t19 => k_12 t19 w_26) (fun t19_1 w_27 => 
  gd t5 true (fun k_13 w_28 => pur Try.prog (binS .quo 3 false true t19_1 (.int .i64 2)) fun t20 => k_13 t20 w_28) (fun t20_1 w_29 => 
  gd t5 true (fun k_14 w_30 => pur Try.prog (Instr.indexAt 58 t17_1 t20_1) fun t21 => k_14 t21 w_30) (fun t21_1 w_31 => 
  gd t5 true (fun k_15 w_32 => rd Try.prog (Instr.loadAt 62 t21_1) (fun t22 => k_15 t22 w_32) w_32) (fun t22_1 w_33 => 
  gd t5 true (fun k_16 w_34 => callS Try.prog 29 #[t13_1, t22_1] (fun t23 w_35 => k_16 t23 w_35) w_34) (fun t23_1 w_36 => 
  gd t5 true (fun k_17 w_37 => pur Try.prog (binS .lss 3 false true t23_1 (.int .i64 0)) fun t24 => k_17 t24 w_37) (fun t24_1 w_38 => 
  pur Try.prog (pickS t5 t24_1 (.bool false)) fun t25 => 
  condS t25
   (pur Try.prog (binS .sub 3 false true v_i_1 (.int .i64 1)) fun t29 => 
  pur Try.prog (binS .quo 3 false true t29 (.int .i64 2)) fun t30 => 
  callS Try.prog 33 #[v_h, v_i_1, t30] (fun _ w_39 => 
  pur Try.prog (binS .sub 3 false true v_i_1 (.int .i64 1)) fun t33 => 
  pur Try.prog (binS .quo 3 false true t33 (.int .i64 2)) fun t34 => 
  J t34 w_39) w_38)
   (Q (.tuple #[]) w_38)) w_36) w_33) w_31) w_29) w_27) w_25) w_23) w_21) w_19) w_17) w_15) w_13) w_11) w_9) w_7) w_5) w_3) (World.drew w_1)) [v_i] w
theorem eq25 (v_h v_i : Value) (Q : Value → World → Prop) (w : World) : semF Try.prog 25 [v_h, v_i] Q w = S25 v_h v_i Q w := by kernel_rfl
theorem ref25 {v_h v_i : Value} {Q : Value → World → Prop} {w : World} (h : S25 v_h v_i Q w) : callS Try.prog 25 #[v_h, v_i] Q w :=
  callS_of mix (fun a w => Try.call25 a w) (by kernel_rfl) (by rw [eq25]; exact h)
-- (*commons/heap.Heap[string]).Cancel
def S26 (v_h v_id : Value) (Q : Value → World → Prop) (w : World) : Prop :=
 rd Try.prog (binS .eql 34 false true v_h (.pointer none)) (fun t8 => 
 gd t8 false (fun k w_1 => k v_h w_1) (fun t10_1 w_2 => 
 gd t8 false (fun k_1 w_3 => pur Try.prog (nilV t10_1) fun t11 => k_1 t11 w_3) (fun t11_1 w_4 => 
 gd t8 false (fun k_2 w_5 => pur Try.prog (Instr.fieldAt 61 t11_1 1) fun t12 => k_2 t12 w_5) (fun t12_1 w_6 => 
 gd t8 false (fun k_3 w_7 => rd Try.prog (Instr.loadAt 59 t12_1) (fun t13 => k_3 t13 w_7) w_7) (fun t13_1 w_8 => 
 gd t8 false (fun k_4 w_9 => k_4 v_id w_9) (fun t14_1 w_10 => 
 gd t8 false (fun k_5 w_11 => rd Try.prog (Instr.lookup 59 t13_1 t14_1 false) (fun t15 => k_5 t15 w_11) w_11) (fun t15_1 w_12 => 
 gd t8 false (fun k_6 w_13 => rd Try.prog (binS .eql 62 false true t15_1 (.pointer none)) (fun t16 => k_6 t16 w_13) w_13) (fun t16_1 w_14 => 
 pur Try.prog (pickS t8 (.bool true) t16_1) fun t17 => 
 condS t17
  (Q (.bool false) w_14)
  (pur Try.prog (nilV v_h) fun t19 => 
 pur Try.prog (Instr.fieldAt 61 t19 1) fun t20 => 
 rd Try.prog (Instr.loadAt 59 t20) (fun t21 => 
 rd Try.prog (Instr.lookup 59 t21 v_id false) (fun t23 => 
 pur Try.prog (nilV t23) fun t24 => 
 pur Try.prog (Instr.fieldAt 64 t24 3) fun t25 => 
 rd Try.prog (Instr.loadAt 3 t25) (fun t26 => 
 pur Try.prog (nilV v_h) fun t28 => 
 pur Try.prog (Instr.fieldAt 61 t28 0) fun t29 => 
 rd Try.prog (Instr.loadAt 58 t29) (fun t30 => 
 pur Try.prog (Builtin.len_ #[58] 3 #[t30]) fun t31 => 
 pur Try.prog (binS .sub 3 false true t31 (.int .i64 1)) fun t32 => 
 callS Try.prog 33 #[v_h, t26, t32] (fun _ w_15 => 
 pur Try.prog (nilV v_h) fun t38 => 
 pur Try.prog (Instr.fieldAt 61 t38 0) fun t39 => 
 rd Try.prog (Instr.loadAt 58 t39) (fun t40 => 
 pur Try.prog (Instr.indexAt 58 t40 t32) fun t42 => 
 act Try.prog (thenU (Instr.storeAt 62 t42 (.pointer none))) (fun _ w_16 => 
 pur Try.prog (nilV v_h) fun t45 => 
 pur Try.prog (Instr.fieldAt 61 t45 0) fun t46 => 
 rd Try.prog (Instr.loadAt 58 t46) (fun t47 => 
 pur Try.prog (Instr.sliceAt 58 t47 none (some t32) none) fun t49 => 
 pur Try.prog (nilV v_h) fun t50 => 
 pur Try.prog (Instr.fieldAt 61 t50 0) fun t51 => 
 act Try.prog (thenU (Instr.storeAt 58 t51 t49)) (fun _ w_17 => 
 pur Try.prog (nilV v_h) fun t53 => 
 pur Try.prog (Instr.fieldAt 61 t53 1) fun t54 => 
 rd Try.prog (Instr.loadAt 59 t54) (fun t55 => 
 act Try.prog (Builtin.delete_ #[59, 3] 0 #[t55, v_id]) (fun _ w_18 => 
 jn 0 (fun J => 
  pur Try.prog (binS .lss 3 false false t26 t32) fun t59 => 
  condS t59
   (callS Try.prog 25 #[v_h, t26] (fun _ w_19 => 
   callS Try.prog 34 #[v_h, t26] (fun _ w_20 => 
   J  w_20) w_19) w_18)
   (J  w_18))
 (fun  w_21 => ∀ _j : Fr, 
  Q (.bool true) w_21)) w_17) w_17) w_16) w_16) w_15) w_15) (World.drew w_14)) (World.drew w_14)) (World.drew w_14)) (World.drew w_14)) (World.drew w_14))) w_12) w_10) w_8) w_6) w_4) w_2) w) w
theorem eq26 (v_h v_id : Value) (Q : Value → World → Prop) (w : World) : semF Try.prog 26 [v_h, v_id] Q w = S26 v_h v_id Q w := by kernel_rfl
theorem ref26 {v_h v_id : Value} {Q : Value → World → Prop} {w : World} (h : S26 v_h v_id Q w) : callS Try.prog 26 #[v_h, v_id] Q w :=
  callS_of mix (fun a w => Try.call26 a w) (by kernel_rfl) (by rw [eq26]; exact h)
-- slices.SortedFunc[*commons/heap.item[string]]
def S27 (v_seq v_cmp : Value) (Q : Value → World → Prop) (w : World) : Prop :=
 callS Try.prog 35 #[v_seq] (fun t7 w_1 => 
 callS Try.prog 36 #[t7, v_cmp] (fun _ w_2 => 
 Q t7 w_2) w_1) w
theorem eq27 (v_seq v_cmp : Value) (Q : Value → World → Prop) (w : World) : semF Try.prog 27 [v_seq, v_cmp] Q w = S27 v_seq v_cmp Q w := by kernel_rfl
theorem ref27 {v_seq v_cmp : Value} {Q : Value → World → Prop} {w : World} (h : S27 v_seq v_cmp Q w) : callS Try.prog 27 #[v_seq, v_cmp] Q w :=
  callS_of mix (fun a w => Try.call27 a w) (by kernel_rfl) (by rw [eq27]; exact h)
-- slices.Values[[]*commons/heap.item[string],*commons/heap.item[string]]
def S28 (v_s : Value) (Q : Value → World → Prop) (w : World) : Prop :=
 act Try.prog (Instr.box 58 v_s) (fun t1 w_1 => 
 pur Try.prog (pure (.func (.func 37) #[] #[t1])) fun t3 => 
 Q t3 w_1) w
theorem eq28 (v_s : Value) (Q : Value → World → Prop) (w : World) : semF Try.prog 28 [v_s] Q w = S28 v_s Q w := by kernel_rfl
theorem ref28 {v_s : Value} {Q : Value → World → Prop} {w : World} (h : S28 v_s Q w) : callS Try.prog 28 #[v_s] Q w :=
  callS_of mix (fun a w => Try.call28 a w) (by kernel_rfl) (by rw [eq28]; exact h)
-- commons/heap.compare[string]
def S29 (v_a v_b : Value) (Q : Value → World → Prop) (w : World) : Prop :=
 ∃ S : World → Prop, S (World.drew w) ∧ 
 pur Try.prog (nilV v_a) fun t6 => 
 pur Try.prog (Instr.fieldAt 64 t6 0) fun t7 => 
 hld Try.prog S (Instr.loadAt 3 t7) fun t8 => 
 pur Try.prog (nilV v_b) fun t10 => 
 pur Try.prog (Instr.fieldAt 64 t10 0) fun t11 => 
 hld Try.prog S (Instr.loadAt 3 t11) fun t12 => 
 callS Try.prog 39 #[t8, t12] (fun t13 w_1 => S w_1 ∧ 
 pur Try.prog (nilV v_a) fun t15 => 
 pur Try.prog (Instr.fieldAt 64 t15 1) fun t16 => 
 hld Try.prog S (Instr.loadAt 3 t16) fun t17 => 
 pur Try.prog (nilV v_b) fun t19 => 
 pur Try.prog (Instr.fieldAt 64 t19 1) fun t20 => 
 hld Try.prog S (Instr.loadAt 3 t20) fun t21 => 
 callS Try.prog 39 #[t17, t21] (fun t22 w_2 => S w_2 ∧ 
 act Try.prog (Instr.buildSlice 22 2 #[(0, t13), (1, t22)]) (fun t23 w_3 => S w_3 ∧ 
 callS Try.prog 38 #[t23] (fun t24 w_4 => S w_4 ∧ 
 Q t24 w_4) w_3) w_2) w_1) (World.drew w)
theorem eq29 (v_a v_b : Value) (Q : Value → World → Prop) (w : World) : semF Try.prog 29 [v_a, v_b] Q w = S29 v_a v_b Q w := by kernel_rfl
theorem ref29 {v_a v_b : Value} {Q : Value → World → Prop} {w : World} (h : S29 v_a v_b Q w) : callS Try.prog 29 #[v_a, v_b] Q w :=
  callS_of mix (fun a w => Try.call29 a w) (by kernel_rfl) (by rw [eq29]; exact h)
-- slices.SortedFunc[*commons/heap.item[int]]
def S30 (v_seq v_cmp : Value) (Q : Value → World → Prop) (w : World) : Prop :=
 callS Try.prog 40 #[v_seq] (fun t7 w_1 => 
 callS Try.prog 41 #[t7, v_cmp] (fun _ w_2 => 
 Q t7 w_2) w_1) w
theorem eq30 (v_seq v_cmp : Value) (Q : Value → World → Prop) (w : World) : semF Try.prog 30 [v_seq, v_cmp] Q w = S30 v_seq v_cmp Q w := by kernel_rfl
theorem ref30 {v_seq v_cmp : Value} {Q : Value → World → Prop} {w : World} (h : S30 v_seq v_cmp Q w) : callS Try.prog 30 #[v_seq, v_cmp] Q w :=
  callS_of mix (fun a w => Try.call30 a w) (by kernel_rfl) (by rw [eq30]; exact h)
-- slices.Values[[]*commons/heap.item[int],*commons/heap.item[int]]
def S31 (v_s : Value) (Q : Value → World → Prop) (w : World) : Prop :=
 act Try.prog (Instr.box 49 v_s) (fun t1 w_1 => 
 pur Try.prog (pure (.func (.func 42) #[] #[t1])) fun t3 => 
 Q t3 w_1) w
theorem eq31 (v_s : Value) (Q : Value → World → Prop) (w : World) : semF Try.prog 31 [v_s] Q w = S31 v_s Q w := by kernel_rfl
theorem ref31 {v_s : Value} {Q : Value → World → Prop} {w : World} (h : S31 v_s Q w) : callS Try.prog 31 #[v_s] Q w :=
  callS_of mix (fun a w => Try.call31 a w) (by kernel_rfl) (by rw [eq31]; exact h)
-- commons/heap.compare[int]
def S32 (v_a v_b : Value) (Q : Value → World → Prop) (w : World) : Prop :=
 ∃ S : World → Prop, S (World.drew w) ∧ 
 pur Try.prog (nilV v_a) fun t6 => 
 pur Try.prog (Instr.fieldAt 55 t6 0) fun t7 => 
 hld Try.prog S (Instr.loadAt 3 t7) fun t8 => 
 pur Try.prog (nilV v_b) fun t10 => 
 pur Try.prog (Instr.fieldAt 55 t10 0) fun t11 => 
 hld Try.prog S (Instr.loadAt 3 t11) fun t12 => 
 callS Try.prog 39 #[t8, t12] (fun t13 w_1 => S w_1 ∧ 
 pur Try.prog (nilV v_a) fun t15 => 
 pur Try.prog (Instr.fieldAt 55 t15 1) fun t16 => 
 hld Try.prog S (Instr.loadAt 3 t16) fun t17 => 
 pur Try.prog (nilV v_b) fun t19 => 
 pur Try.prog (Instr.fieldAt 55 t19 1) fun t20 => 
 hld Try.prog S (Instr.loadAt 3 t20) fun t21 => 
 callS Try.prog 39 #[t17, t21] (fun t22 w_2 => S w_2 ∧ 
 act Try.prog (Instr.buildSlice 22 2 #[(0, t13), (1, t22)]) (fun t23 w_3 => S w_3 ∧ 
 callS Try.prog 38 #[t23] (fun t24 w_4 => S w_4 ∧ 
 Q t24 w_4) w_3) w_2) w_1) (World.drew w)
theorem eq32 (v_a v_b : Value) (Q : Value → World → Prop) (w : World) : semF Try.prog 32 [v_a, v_b] Q w = S32 v_a v_b Q w := by kernel_rfl
theorem ref32 {v_a v_b : Value} {Q : Value → World → Prop} {w : World} (h : S32 v_a v_b Q w) : callS Try.prog 32 #[v_a, v_b] Q w :=
  callS_of mix (fun a w => Try.call32 a w) (by kernel_rfl) (by rw [eq32]; exact h)
-- (*commons/heap.Heap[string]).swap
def S33 (v_h v_i v_j : Value) (Q : Value → World → Prop) (w : World) : Prop :=
 pur Try.prog (nilV v_h) fun t7 => 
 pur Try.prog (Instr.fieldAt 61 t7 0) fun t8 => 
 rd Try.prog (Instr.loadAt 58 t8) (fun t9 => 
 pur Try.prog (nilV v_h) fun t12 => 
 pur Try.prog (Instr.fieldAt 61 t12 0) fun t13 => 
 rd Try.prog (Instr.loadAt 58 t13) (fun t14 => 
 pur Try.prog (nilV v_h) fun t17 => 
 pur Try.prog (Instr.fieldAt 61 t17 0) fun t18 => 
 rd Try.prog (Instr.loadAt 58 t18) (fun t19 => 
 pur Try.prog (Instr.indexAt 58 t19 v_j) fun t21 => 
 rd Try.prog (Instr.loadAt 62 t21) (fun t22 => 
 pur Try.prog (nilV v_h) fun t24 => 
 pur Try.prog (Instr.fieldAt 61 t24 0) fun t25 => 
 rd Try.prog (Instr.loadAt 58 t25) (fun t26 => 
 pur Try.prog (Instr.indexAt 58 t26 v_i) fun t28 => 
 rd Try.prog (Instr.loadAt 62 t28) (fun t29 => 
 pur Try.prog (Instr.indexAt 58 t9 v_i) fun t30 => 
 act Try.prog (thenU (Instr.storeAt 62 t30 t22)) (fun _ w_1 => 
 pur Try.prog (Instr.indexAt 58 t14 v_j) fun t31 => 
 act Try.prog (thenU (Instr.storeAt 62 t31 t29)) (fun _ w_2 => 
 pur Try.prog (nilV v_h) fun t33 => 
 pur Try.prog (Instr.fieldAt 61 t33 0) fun t34 => 
 rd Try.prog (Instr.loadAt 58 t34) (fun t35 => 
 pur Try.prog (Instr.indexAt 58 t35 v_i) fun t37 => 
 rd Try.prog (Instr.loadAt 62 t37) (fun t38 => 
 pur Try.prog (nilV v_h) fun t40 => 
 pur Try.prog (Instr.fieldAt 61 t40 0) fun t41 => 
 rd Try.prog (Instr.loadAt 58 t41) (fun t42 => 
 pur Try.prog (Instr.indexAt 58 t42 v_j) fun t44 => 
 rd Try.prog (Instr.loadAt 62 t44) (fun t45 => 
 pur Try.prog (nilV t38) fun t48 => 
 pur Try.prog (Instr.fieldAt 64 t48 3) fun t49 => 
 act Try.prog (thenU (Instr.storeAt 3 t49 v_i)) (fun _ w_3 => 
 pur Try.prog (nilV t45) fun t50 => 
 pur Try.prog (Instr.fieldAt 64 t50 3) fun t51 => 
 act Try.prog (thenU (Instr.storeAt 3 t51 v_j)) (fun _ w_4 => 
 Q (.tuple #[]) w_4) w_3) (World.drew w_2)) (World.drew w_2)) (World.drew w_2)) (World.drew w_2)) (World.drew w_2)) w_1) (World.drew w)) (World.drew w)) (World.drew w)) (World.drew w)) (World.drew w)) (World.drew w)) (World.drew w)
theorem eq33 (v_h v_i v_j : Value) (Q : Value → World → Prop) (w : World) : semF Try.prog 33 [v_h, v_i, v_j] Q w = S33 v_h v_i v_j Q w := by kernel_rfl
theorem ref33 {v_h v_i v_j : Value} {Q : Value → World → Prop} {w : World} (h : S33 v_h v_i v_j Q w) : callS Try.prog 33 #[v_h, v_i, v_j] Q w :=
  callS_of mix (fun a w => Try.call33 a w) (by kernel_rfl) (by rw [eq33]; exact h)
-- (*commons/heap.Heap[string]).down
def S34 (v_h v_i : Value) (Q : Value → World → Prop) (w : World) : Prop :=
 lp 1 (fun J => fun v_i_1 w_1 => ∀ _j : Fr, 
  pur Try.prog (binS .mul 3 true false (.int .i64 2) v_i_1) fun t9 => 
  pur Try.prog (binS .add 3 false true t9 (.int .i64 1)) fun t10 => 
  pur Try.prog (binS .mul 3 true false (.int .i64 2) v_i_1) fun t12 => 
  pur Try.prog (binS .add 3 false true t12 (.int .i64 2)) fun t13 => 
  act Try.prog (Instr.buildSlice 22 2 #[(0, t10), (1, t13)]) (fun t14 w_2 => 
  pur Try.prog (Builtin.len_ #[22] 3 #[t14]) fun t15 => 
  lp 2 (fun J_1 => fun v_least t16 w_3 => ∀ _j : Fr, 
   pur Try.prog (binS .lss 3 false false t16 t15) fun t17 => 
   condS t17
    (jn 1 (fun J_2 => 
    pur Try.prog (Instr.indexAt 22 t14 t16) fun t18 => 
    rd Try.prog (Instr.loadAt 3 t18) (fun t19 => 
    pur Try.prog (nilV v_h) fun t22 => 
    pur Try.prog (Instr.fieldAt 61 t22 0) fun t23 => 
    rd Try.prog (Instr.loadAt 58 t23) (fun t24 => 
    pur Try.prog (Builtin.len_ #[58] 3 #[t24]) fun t25 => 
    pur Try.prog (binS .lss 3 false false t19 t25) fun t26 => 
    gd t26 true (fun k w_4 => k v_h w_4) (fun t28_1 w_5 => 
    gd t26 true (fun k_1 w_6 => pur Try.prog (nilV t28_1) fun t29 => k_1 t29 w_6) (fun t29_1 w_7 => 
    gd t26 true (fun k_2 w_8 => pur Try.prog (Instr.fieldAt 61 t29_1 0) fun t30 => k_2 t30 w_8) (fun t30_1 w_9 => 
    gd t26 true (fun k_3 w_10 => rd Try.prog (Instr.loadAt 58 t30_1) (fun t31 => k_3 t31 w_10) w_10) (fun t31_1 w_11 => 
    gd t26 true (fun k_4 w_12 => k_4 t19 w_12) (fun t32_1 w_13 => 
    gd t26 true (fun k_5 w_14 => pur Try.prog (Instr.indexAt 58 t31_1 t32_1) fun t33 => k_5 t33 w_14) (fun t33_1 w_15 => 
    gd t26 true (fun k_6 w_16 => rd Try.prog (Instr.loadAt 62 t33_1) (fun t34 => k_6 t34 w_16) w_16) (fun t34_1 w_17 => 
    gd t26 true (fun k_7 w_18 => k_7 v_h w_18) (fun t35_1 w_19 => 
    gd t26 true (fun k_8 w_20 => pur Try.prog (nilV t35_1) fun t36 => k_8 t36 w_20) (fun t36_1 w_21 => 
    gd t26 true (fun k_9 w_22 => pur Try.prog (Instr.fieldAt 61 t36_1 0) fun t37 => k_9 t37 w_22) (fun t37_1 w_23 => 
    gd t26 true (fun k_10 w_24 => rd Try.prog (Instr.loadAt 58 t37_1) (fun t38 => k_10 t38 w_24) w_24) (fun t38_1 w_25 => 
    gd t26 true (fun k_11 w_26 => k_11 v_least w_26) (fun t39_1 w_27 => 
    gd t26 true (fun k_12 w_28 => pur Try.prog (Instr.indexAt 58 t38_1 t39_1) fun t40 => k_12 t40 w_28) (fun t40_1 w_29 => 
    gd t26 true (fun k_13 w_30 => rd Try.prog (Instr.loadAt 62 t40_1) (fun t41 => k_13 t41 w_30) w_30) (fun t41_1 w_31 => 
    gd t26 true (fun k_14 w_32 => callS Try.prog 29 #[t34_1, t41_1] (fun t42 w_33 => k_14 t42 w_33) w_32) (fun t42_1 w_34 => 
    gd t26 true (fun k_15 w_35 => pur Try.prog (binS .lss 3 false true t42_1 (.int .i64 0)) fun t43 => k_15 t43 w_35) (fun t43_1 w_36 => 
    pur Try.prog (pickS t26 t43_1 (.bool false)) fun t44 => 
    condS t44
     (J_2 t19 w_36)
     (J_2 v_least w_36)) w_34) w_31) w_29) w_27) w_25) w_23) w_21) w_19) w_17) w_15) w_13) w_11) w_9) w_7) w_5) (World.drew w_3)) (World.drew w_3)) w_3)
   (fun v_least_1 w_37 => ∀ _j : Fr, 
    pur Try.prog (binS .add 3 false true t16 (.int .i64 1)) fun t46 => 
    J_1 v_least_1 t46 w_37))
    (pur Try.prog (binS .eql 3 false false v_least v_i_1) fun t49 => 
  condS t49
   (Q (.tuple #[]) w_3)
   (callS Try.prog 33 #[v_h, v_i_1, v_least] (fun _ w_38 => 
  J v_least w_38) w_3))) [v_i_1, (.int .i64 0)] w_2) w_1) [v_i] w
theorem eq34 (v_h v_i : Value) (Q : Value → World → Prop) (w : World) : semF Try.prog 34 [v_h, v_i] Q w = S34 v_h v_i Q w := by kernel_rfl
theorem ref34 {v_h v_i : Value} {Q : Value → World → Prop} {w : World} (h : S34 v_h v_i Q w) : callS Try.prog 34 #[v_h, v_i] Q w :=
  callS_of mix (fun a w => Try.call34 a w) (by kernel_rfl) (by rw [eq34]; exact h)
-- slices.Collect[*commons/heap.item[string]]
def S35 (v_seq : Value) (Q : Value → World → Prop) (w : World) : Prop :=
 callS Try.prog 43 #[(.slice none 0 0), v_seq] (fun t4 w_1 => 
 Q t4 w_1) w
theorem eq35 (v_seq : Value) (Q : Value → World → Prop) (w : World) : semF Try.prog 35 [v_seq] Q w = S35 v_seq Q w := by kernel_rfl
theorem ref35 {v_seq : Value} {Q : Value → World → Prop} {w : World} (h : S35 v_seq Q w) : callS Try.prog 35 #[v_seq] Q w :=
  callS_of mix (fun a w => Try.call35 a w) (by kernel_rfl) (by rw [eq35]; exact h)
-- slices.SortFunc[[]*commons/heap.item[string],*commons/heap.item[string]]
def S36 (v_x v_cmp : Value) (Q : Value → World → Prop) (w : World) : Prop :=
 pur Try.prog (Builtin.len_ #[58] 3 #[v_x]) fun t6 => 
 pur Try.prog (convert 3 85 t6) fun t10 => 
 callS Try.prog 45 #[t10] (fun t11 w_1 => 
 callS Try.prog 44 #[v_x, (.int .i64 0), t6, t11, v_cmp] (fun _ w_2 => 
 Q (.tuple #[]) w_2) w_1) w
theorem eq36 (v_x v_cmp : Value) (Q : Value → World → Prop) (w : World) : semF Try.prog 36 [v_x, v_cmp] Q w = S36 v_x v_cmp Q w := by kernel_rfl
theorem ref36 {v_x v_cmp : Value} {Q : Value → World → Prop} {w : World} (h : S36 v_x v_cmp Q w) : callS Try.prog 36 #[v_x, v_cmp] Q w :=
  callS_of mix (fun a w => Try.call36 a w) (by kernel_rfl) (by rw [eq36]; exact h)
-- slices.Values[[]*commons/heap.item[string],*commons/heap.item[string]]$1
def S37 (v_yield t1 : Value) (Q : Value → World → Prop) (w : World) : Prop :=
 rd Try.prog (Instr.loadAt 58 t1) (fun t5 => 
 pur Try.prog (Builtin.len_ #[58] 3 #[t5]) fun t6 => 
 lp 1 (fun J => fun t7 w_1 => ∀ _j : Fr, 
  pur Try.prog (binS .lss 3 false false t7 t6) fun t8 => 
  condS t8
   (pur Try.prog (Instr.indexAt 58 t5 t7) fun t9 => 
  rd Try.prog (Instr.loadAt 62 t9) (fun t10 => 
  callF Try.prog v_yield #[t10] (fun t13 w_2 => 
  pur Try.prog (Op.unary .not t13) fun t14 => 
  condS t14
   (Q (.tuple #[]) w_2)
   (pur Try.prog (binS .add 3 false true t7 (.int .i64 1)) fun t15 => 
  J t15 w_2)) w_1) w_1)
   (Q (.tuple #[]) w_1)) [(.int .i64 0)] w) w
theorem eq37 (v_yield t1 : Value) (Q : Value → World → Prop) (w : World) : semF Try.prog 37 [v_yield, t1] Q w = S37 v_yield t1 Q w := by kernel_rfl
theorem ref37 {v_yield t1 : Value} {Q : Value → World → Prop} {w : World} (h : S37 v_yield t1 Q w) : callS Try.prog 37 #[v_yield, t1] Q w :=
  callS_of mix (fun a w => Try.call37 a w) (by kernel_rfl) (by rw [eq37]; exact h)
-- cmp.Or[int]
def S38 (v_vals : Value) (Q : Value → World → Prop) (w : World) : Prop :=
 pur Try.prog (Builtin.len_ #[22] 3 #[v_vals]) fun t7 => 
 lp 1 (fun J => fun t8 w_1 => ∀ _j : Fr, 
  pur Try.prog (binS .lss 3 false false t8 t7) fun t9 => 
  condS t9
   (pur Try.prog (Instr.indexAt 22 v_vals t8) fun t10 => 
  rd Try.prog (Instr.loadAt 3 t10) (fun t11 => 
  pur Try.prog (binS .neq 3 false false t11 (.int .i64 0)) fun t14 => 
  condS t14
   (Q t11 w_1)
   (pur Try.prog (binS .add 3 false true t8 (.int .i64 1)) fun t16 => 
  J t16 w_1)) w_1)
   (Q (.int .i64 0) w_1)) [(.int .i64 0)] w
theorem eq38 (v_vals : Value) (Q : Value → World → Prop) (w : World) : semF Try.prog 38 [v_vals] Q w = S38 v_vals Q w := by kernel_rfl
theorem ref38 {v_vals : Value} {Q : Value → World → Prop} {w : World} (h : S38 v_vals Q w) : callS Try.prog 38 #[v_vals] Q w :=
  callS_of mix (fun a w => Try.call38 a w) (by kernel_rfl) (by rw [eq38]; exact h)
-- cmp.Compare[int]
def S39 (v_x v_y : Value) (Q : Value → World → Prop) (w : World) : Prop :=
 callS Try.prog 46 #[v_x] (fun t8 w_1 => 
 callS Try.prog 46 #[v_y] (fun t10 w_2 => 
 condS t8
  (condS t10
   (Q (.int .i64 0) w_2)
   (Q (.int .i64 (-1)) w_2))
  (condS t10
  (Q (.int .i64 1) w_2)
  (pur Try.prog (binS .lss 3 false false v_x v_y) fun t16 => 
 condS t16
  (Q (.int .i64 (-1)) w_2)
  (pur Try.prog (binS .gtr 3 false false v_x v_y) fun t19 => 
 condS t19
  (Q (.int .i64 1) w_2)
  (Q (.int .i64 0) w_2))))) w_1) w
theorem eq39 (v_x v_y : Value) (Q : Value → World → Prop) (w : World) : semF Try.prog 39 [v_x, v_y] Q w = S39 v_x v_y Q w := by kernel_rfl
theorem ref39 {v_x v_y : Value} {Q : Value → World → Prop} {w : World} (h : S39 v_x v_y Q w) : callS Try.prog 39 #[v_x, v_y] Q w :=
  callS_of mix (fun a w => Try.call39 a w) (by kernel_rfl) (by rw [eq39]; exact h)
-- slices.Collect[*commons/heap.item[int]]
def S40 (v_seq : Value) (Q : Value → World → Prop) (w : World) : Prop :=
 callS Try.prog 47 #[(.slice none 0 0), v_seq] (fun t4 w_1 => 
 Q t4 w_1) w
theorem eq40 (v_seq : Value) (Q : Value → World → Prop) (w : World) : semF Try.prog 40 [v_seq] Q w = S40 v_seq Q w := by kernel_rfl
theorem ref40 {v_seq : Value} {Q : Value → World → Prop} {w : World} (h : S40 v_seq Q w) : callS Try.prog 40 #[v_seq] Q w :=
  callS_of mix (fun a w => Try.call40 a w) (by kernel_rfl) (by rw [eq40]; exact h)
-- slices.SortFunc[[]*commons/heap.item[int],*commons/heap.item[int]]
def S41 (v_x v_cmp : Value) (Q : Value → World → Prop) (w : World) : Prop :=
 pur Try.prog (Builtin.len_ #[49] 3 #[v_x]) fun t6 => 
 pur Try.prog (convert 3 85 t6) fun t10 => 
 callS Try.prog 45 #[t10] (fun t11 w_1 => 
 callS Try.prog 48 #[v_x, (.int .i64 0), t6, t11, v_cmp] (fun _ w_2 => 
 Q (.tuple #[]) w_2) w_1) w
theorem eq41 (v_x v_cmp : Value) (Q : Value → World → Prop) (w : World) : semF Try.prog 41 [v_x, v_cmp] Q w = S41 v_x v_cmp Q w := by kernel_rfl
theorem ref41 {v_x v_cmp : Value} {Q : Value → World → Prop} {w : World} (h : S41 v_x v_cmp Q w) : callS Try.prog 41 #[v_x, v_cmp] Q w :=
  callS_of mix (fun a w => Try.call41 a w) (by kernel_rfl) (by rw [eq41]; exact h)
-- slices.Values[[]*commons/heap.item[int],*commons/heap.item[int]]$1
def S42 (v_yield t1 : Value) (Q : Value → World → Prop) (w : World) : Prop :=
 rd Try.prog (Instr.loadAt 49 t1) (fun t5 => 
 pur Try.prog (Builtin.len_ #[49] 3 #[t5]) fun t6 => 
 lp 1 (fun J => fun t7 w_1 => ∀ _j : Fr, 
  pur Try.prog (binS .lss 3 false false t7 t6) fun t8 => 
  condS t8
   (pur Try.prog (Instr.indexAt 49 t5 t7) fun t9 => 
  rd Try.prog (Instr.loadAt 53 t9) (fun t10 => 
  callF Try.prog v_yield #[t10] (fun t13 w_2 => 
  pur Try.prog (Op.unary .not t13) fun t14 => 
  condS t14
   (Q (.tuple #[]) w_2)
   (pur Try.prog (binS .add 3 false true t7 (.int .i64 1)) fun t15 => 
  J t15 w_2)) w_1) w_1)
   (Q (.tuple #[]) w_1)) [(.int .i64 0)] w) w
theorem eq42 (v_yield t1 : Value) (Q : Value → World → Prop) (w : World) : semF Try.prog 42 [v_yield, t1] Q w = S42 v_yield t1 Q w := by kernel_rfl
theorem ref42 {v_yield t1 : Value} {Q : Value → World → Prop} {w : World} (h : S42 v_yield t1 Q w) : callS Try.prog 42 #[v_yield, t1] Q w :=
  callS_of mix (fun a w => Try.call42 a w) (by kernel_rfl) (by rw [eq42]; exact h)
-- slices.pdqsortCmpFunc[*commons/heap.item[string]]
def S44 (v_data v_a v_b v_limit v_cmp : Value) (Q : Value → World → Prop) (w : World) : Prop :=
 lp 5 (fun J => fun v_a_1 v_b_1 v_limit_1 v_wasBalanced v_wasPartitioned w_1 => ∀ _j : Fr, 
  pur Try.prog (binS .sub 3 false false v_b_1 v_a_1) fun t23 => 
  pur Try.prog (binS .leq 3 false true t23 (.int .i64 12)) fun t25 => 
  condS t25
   (callS Try.prog 49 #[v_data, v_a_1, v_b_1, v_cmp] (fun _ w_2 => 
   Q (.tuple #[]) w_2) w_1)
   (pur Try.prog (binS .eql 3 false true v_limit_1 (.int .i64 0)) fun t32 => 
  condS t32
   (callS Try.prog 50 #[v_data, v_a_1, v_b_1, v_cmp] (fun _ w_3 => 
   Q (.tuple #[]) w_3) w_1)
   (jn 1 (fun J_1 => 
   pur Try.prog (Op.unary .not v_wasBalanced) fun t39 => 
   condS t39
    (callS Try.prog 51 #[v_data, v_a_1, v_b_1, v_cmp] (fun _ w_4 => 
    pur Try.prog (binS .sub 3 false true v_limit_1 (.int .i64 1)) fun t46 => 
    J_1 t46 w_4) w_1)
    (J_1 v_limit_1 w_1))
  (fun v_limit_2 w_5 => ∀ _j : Fr, 
   callS Try.prog 52 #[v_data, v_a_1, v_b_1, v_cmp] (fun t52 w_6 => 
   pur Try.prog (Instr.extract t52 0) fun t53 => 
   pur Try.prog (Instr.extract t52 1) fun t54 => 
   jn 2 (fun J_2 => 
    pur Try.prog (binS .eql 89 false true t54 (.int .i64 2)) fun t56 => 
    condS t56
     (callS Try.prog 53 #[v_data, v_a_1, v_b_1, v_cmp] (fun _ w_7 => 
     pur Try.prog (binS .sub 3 false true v_b_1 (.int .i64 1)) fun t63 => 
     pur Try.prog (binS .sub 3 false false t53 v_a_1) fun t66 => 
     pur Try.prog (binS .sub 3 false false t63 t66) fun t67 => 
     J_2 t67 (.int .i64 1) w_7) w_6)
     (J_2 t53 t54 w_6))
   (fun v_pivot v_hint w_8 => ∀ _j : Fr, 
    jn 0 (fun J_3 => 
     gd v_wasBalanced true (fun k w_9 => k v_wasPartitioned w_9) (fun t70_1 w_10 => 
     pur Try.prog (pickS v_wasBalanced t70_1 (.bool false)) fun t71 => 
     gd t71 true (fun k_1 w_11 => k_1 v_hint w_11) (fun t73_1 w_12 => 
     gd t71 true (fun k_2 w_13 => pur Try.prog (binS .eql 89 false true t73_1 (.int .i64 1)) fun t74 => k_2 t74 w_13) (fun t74_1 w_14 => 
     pur Try.prog (pickS t71 t74_1 (.bool false)) fun t75 => 
     condS t75
      (callS Try.prog 54 #[v_data, v_a_1, v_b_1, v_cmp] (fun t80 w_15 => 
      condS t80
       (Q (.tuple #[]) w_15)
       (J_3  w_15)) w_14)
      (J_3  w_14)) w_12) w_10) w_8)
    (fun  w_16 => ∀ _j : Fr, 
     pur Try.prog (binS .gtr 3 false true v_a_1 (.int .i64 0)) fun t82 => 
     gd t82 true (fun k_3 w_17 => k_3 v_cmp w_17) (fun t84_1 w_18 => 
     gd t82 true (fun k_4 w_19 => k_4 v_data w_19) (fun t85_1 w_20 => 
     gd t82 true (fun k_5 w_21 => k_5 v_a_1 w_21) (fun t86_1 w_22 => 
     gd t82 true (fun k_6 w_23 => pur Try.prog (binS .sub 3 false true t86_1 (.int .i64 1)) fun t87 => k_6 t87 w_23) (fun t87_1 w_24 => 
     gd t82 true (fun k_7 w_25 => pur Try.prog (Instr.indexAt 58 t85_1 t87_1) fun t88 => k_7 t88 w_25) (fun t88_1 w_26 => 
     gd t82 true (fun k_8 w_27 => rd Try.prog (Instr.loadAt 62 t88_1) (fun t89 => k_8 t89 w_27) w_27) (fun t89_1 w_28 => 
     gd t82 true (fun k_9 w_29 => k_9 v_data w_29) (fun t90_1 w_30 => 
     gd t82 true (fun k_10 w_31 => k_10 v_pivot w_31) (fun t91_1 w_32 => 
     gd t82 true (fun k_11 w_33 => pur Try.prog (Instr.indexAt 58 t90_1 t91_1) fun t92 => k_11 t92 w_33) (fun t92_1 w_34 => 
     gd t82 true (fun k_12 w_35 => rd Try.prog (Instr.loadAt 62 t92_1) (fun t93 => k_12 t93 w_35) w_35) (fun t93_1 w_36 => 
     gd t82 true (fun k_13 w_37 => callF Try.prog t84_1 #[t89_1, t93_1] (fun t94 w_38 => k_13 t94 w_38) w_37) (fun t94_1 w_39 => 
     gd t82 true (fun k_14 w_40 => pur Try.prog (binS .lss 3 false true t94_1 (.int .i64 0)) fun t95 => k_14 t95 w_40) (fun t95_1 w_41 => 
     gd t82 true (fun k_15 w_42 => pur Try.prog (Op.unary .not t95_1) fun t96 => k_15 t96 w_42) (fun t96_1 w_43 => 
     pur Try.prog (pickS t82 t96_1 (.bool false)) fun t97 => 
     condS t97
      (callS Try.prog 55 #[v_data, v_a_1, v_b_1, v_pivot, v_cmp] (fun t103 w_44 => 
      J t103 v_b_1 v_limit_2 v_wasBalanced v_wasPartitioned w_44) w_43)
      (callS Try.prog 56 #[v_data, v_a_1, v_b_1, v_pivot, v_cmp] (fun t111 w_45 => 
     pur Try.prog (Instr.extract t111 0) fun t112 => 
     pur Try.prog (Instr.extract t111 1) fun t113 => 
     pur Try.prog (binS .sub 3 false false t112 v_a_1) fun t117 => 
     pur Try.prog (binS .sub 3 false false v_b_1 t112) fun t120 => 
     pur Try.prog (binS .quo 3 false true t23 (.int .i64 8)) fun t122 => 
     pur Try.prog (binS .lss 3 false false t117 t120) fun t125 => 
     condS t125
      (pur Try.prog (binS .geq 3 false false t117 t122) fun t128 => 
      callS Try.prog 44 #[v_data, v_a_1, t112, v_limit_2, v_cmp] (fun _ w_46 => 
      pur Try.prog (binS .add 3 false true t112 (.int .i64 1)) fun t136 => 
      J t136 v_b_1 v_limit_2 t128 t113 w_46) w_45)
      (pur Try.prog (binS .geq 3 false false t120 t122) fun t139 => 
      pur Try.prog (binS .add 3 false true t112 (.int .i64 1)) fun t142 => 
      callS Try.prog 44 #[v_data, t142, v_b_1, v_limit_2, v_cmp] (fun _ w_47 => 
      J v_a_1 t112 v_limit_2 t139 t113 w_47) w_45)) w_43)) w_41) w_39) w_36) w_34) w_32) w_30) w_28) w_26) w_24) w_22) w_20) w_18) (World.drew w_16)))) w_5)))) [v_a, v_b, v_limit, (.bool true), (.bool true)] w
theorem eq44 (v_data v_a v_b v_limit v_cmp : Value) (Q : Value → World → Prop) (w : World) : semF Try.prog 44 [v_data, v_a, v_b, v_limit, v_cmp] Q w = S44 v_data v_a v_b v_limit v_cmp Q w := by kernel_rfl
theorem ref44 {v_data v_a v_b v_limit v_cmp : Value} {Q : Value → World → Prop} {w : World} (h : S44 v_data v_a v_b v_limit v_cmp Q w) : callS Try.prog 44 #[v_data, v_a, v_b, v_limit, v_cmp] Q w :=
  callS_of mix (fun a w => Try.call44 a w) (by kernel_rfl) (by rw [eq44]; exact h)
-- math/bits.Len
def S45 (v_x : Value) (Q : Value → World → Prop) (w : World) : Prop :=
 condS (.bool false)
  (pur Try.prog (convert 85 96 v_x) fun t4 => 
  callS Try.prog 57 #[t4] (fun t5 w_1 => 
  Q t5 w_1) w)
  (callS Try.prog 58 #[v_x] (fun t7 w_2 => 
 Q t7 w_2) w)
theorem eq45 (v_x : Value) (Q : Value → World → Prop) (w : World) : semF Try.prog 45 [v_x] Q w = S45 v_x Q w := by kernel_rfl
theorem ref45 {v_x : Value} {Q : Value → World → Prop} {w : World} (h : S45 v_x Q w) : callS Try.prog 45 #[v_x] Q w :=
  callS_of mix (fun a w => Try.call45 a w) (by kernel_rfl) (by rw [eq45]; exact h)
-- cmp.isNaN[int]
def S46 (v_x : Value) (Q : Value → World → Prop) (w : World) : Prop :=
 pur Try.prog (binS .neq 3 false false v_x v_x) fun t5 => 
 Q t5 w
theorem eq46 (v_x : Value) (Q : Value → World → Prop) (w : World) : semF Try.prog 46 [v_x] Q w = S46 v_x Q w := by kernel_rfl
theorem ref46 {v_x : Value} {Q : Value → World → Prop} {w : World} (h : S46 v_x Q w) : callS Try.prog 46 #[v_x] Q w :=
  callS_of mix (fun a w => Try.call46 a w) (by kernel_rfl) (by rw [eq46]; exact h)
-- slices.pdqsortCmpFunc[*commons/heap.item[int]]
def S48 (v_data v_a v_b v_limit v_cmp : Value) (Q : Value → World → Prop) (w : World) : Prop :=
 lp 5 (fun J => fun v_a_1 v_b_1 v_limit_1 v_wasBalanced v_wasPartitioned w_1 => ∀ _j : Fr, 
  pur Try.prog (binS .sub 3 false false v_b_1 v_a_1) fun t23 => 
  pur Try.prog (binS .leq 3 false true t23 (.int .i64 12)) fun t25 => 
  condS t25
   (callS Try.prog 59 #[v_data, v_a_1, v_b_1, v_cmp] (fun _ w_2 => 
   Q (.tuple #[]) w_2) w_1)
   (pur Try.prog (binS .eql 3 false true v_limit_1 (.int .i64 0)) fun t32 => 
  condS t32
   (callS Try.prog 60 #[v_data, v_a_1, v_b_1, v_cmp] (fun _ w_3 => 
   Q (.tuple #[]) w_3) w_1)
   (jn 1 (fun J_1 => 
   pur Try.prog (Op.unary .not v_wasBalanced) fun t39 => 
   condS t39
    (callS Try.prog 61 #[v_data, v_a_1, v_b_1, v_cmp] (fun _ w_4 => 
    pur Try.prog (binS .sub 3 false true v_limit_1 (.int .i64 1)) fun t46 => 
    J_1 t46 w_4) w_1)
    (J_1 v_limit_1 w_1))
  (fun v_limit_2 w_5 => ∀ _j : Fr, 
   callS Try.prog 62 #[v_data, v_a_1, v_b_1, v_cmp] (fun t52 w_6 => 
   pur Try.prog (Instr.extract t52 0) fun t53 => 
   pur Try.prog (Instr.extract t52 1) fun t54 => 
   jn 2 (fun J_2 => 
    pur Try.prog (binS .eql 89 false true t54 (.int .i64 2)) fun t56 => 
    condS t56
     (callS Try.prog 63 #[v_data, v_a_1, v_b_1, v_cmp] (fun _ w_7 => 
     pur Try.prog (binS .sub 3 false true v_b_1 (.int .i64 1)) fun t63 => 
     pur Try.prog (binS .sub 3 false false t53 v_a_1) fun t66 => 
     pur Try.prog (binS .sub 3 false false t63 t66) fun t67 => 
     J_2 t67 (.int .i64 1) w_7) w_6)
     (J_2 t53 t54 w_6))
   (fun v_pivot v_hint w_8 => ∀ _j : Fr, 
    jn 0 (fun J_3 => 
     gd v_wasBalanced true (fun k w_9 => k v_wasPartitioned w_9) (fun t70_1 w_10 => 
     pur Try.prog (pickS v_wasBalanced t70_1 (.bool false)) fun t71 => 
     gd t71 true (fun k_1 w_11 => k_1 v_hint w_11) (fun t73_1 w_12 => 
     gd t71 true (fun k_2 w_13 => pur Try.prog (binS .eql 89 false true t73_1 (.int .i64 1)) fun t74 => k_2 t74 w_13) (fun t74_1 w_14 => 
     pur Try.prog (pickS t71 t74_1 (.bool false)) fun t75 => 
     condS t75
      (callS Try.prog 64 #[v_data, v_a_1, v_b_1, v_cmp] (fun t80 w_15 => 
      condS t80
       (Q (.tuple #[]) w_15)
       (J_3  w_15)) w_14)
      (J_3  w_14)) w_12) w_10) w_8)
    (fun  w_16 => ∀ _j : Fr, 
     pur Try.prog (binS .gtr 3 false true v_a_1 (.int .i64 0)) fun t82 => 
     gd t82 true (fun k_3 w_17 => k_3 v_cmp w_17) (fun t84_1 w_18 => 
     gd t82 true (fun k_4 w_19 => k_4 v_data w_19) (fun t85_1 w_20 => 
     gd t82 true (fun k_5 w_21 => k_5 v_a_1 w_21) (fun t86_1 w_22 => 
     gd t82 true (fun k_6 w_23 => pur Try.prog (binS .sub 3 false true t86_1 (.int .i64 1)) fun t87 => k_6 t87 w_23) (fun t87_1 w_24 => 
     gd t82 true (fun k_7 w_25 => pur Try.prog (Instr.indexAt 49 t85_1 t87_1) fun t88 => k_7 t88 w_25) (fun t88_1 w_26 => 
     gd t82 true (fun k_8 w_27 => rd Try.prog (Instr.loadAt 53 t88_1) (fun t89 => k_8 t89 w_27) w_27) (fun t89_1 w_28 => 
     gd t82 true (fun k_9 w_29 => k_9 v_data w_29) (fun t90_1 w_30 => 
     gd t82 true (fun k_10 w_31 => k_10 v_pivot w_31) (fun t91_1 w_32 => 
     gd t82 true (fun k_11 w_33 => pur Try.prog (Instr.indexAt 49 t90_1 t91_1) fun t92 => k_11 t92 w_33) (fun t92_1 w_34 => 
     gd t82 true (fun k_12 w_35 => rd Try.prog (Instr.loadAt 53 t92_1) (fun t93 => k_12 t93 w_35) w_35) (fun t93_1 w_36 => 
     gd t82 true (fun k_13 w_37 => callF Try.prog t84_1 #[t89_1, t93_1] (fun t94 w_38 => k_13 t94 w_38) w_37) (fun t94_1 w_39 => 
     gd t82 true (fun k_14 w_40 => pur Try.prog (binS .lss 3 false true t94_1 (.int .i64 0)) fun t95 => k_14 t95 w_40) (fun t95_1 w_41 => 
     gd t82 true (fun k_15 w_42 => pur Try.prog (Op.unary .not t95_1) fun t96 => k_15 t96 w_42) (fun t96_1 w_43 => 
     pur Try.prog (pickS t82 t96_1 (.bool false)) fun t97 => 
     condS t97
      (callS Try.prog 65 #[v_data, v_a_1, v_b_1, v_pivot, v_cmp] (fun t103 w_44 => 
      J t103 v_b_1 v_limit_2 v_wasBalanced v_wasPartitioned w_44) w_43)
      (callS Try.prog 66 #[v_data, v_a_1, v_b_1, v_pivot, v_cmp] (fun t111 w_45 => 
     pur Try.prog (Instr.extract t111 0) fun t112 => 
     pur Try.prog (Instr.extract t111 1) fun t113 => 
     pur Try.prog (binS .sub 3 false false t112 v_a_1) fun t117 => 
     pur Try.prog (binS .sub 3 false false v_b_1 t112) fun t120 => 
     pur Try.prog (binS .quo 3 false true t23 (.int .i64 8)) fun t122 => 
     pur Try.prog (binS .lss 3 false false t117 t120) fun t125 => 
     condS t125
      (pur Try.prog (binS .geq 3 false false t117 t122) fun t128 => 
      callS Try.prog 48 #[v_data, v_a_1, t112, v_limit_2, v_cmp] (fun _ w_46 => 
      pur Try.prog (binS .add 3 false true t112 (.int .i64 1)) fun t136 => 
      J t136 v_b_1 v_limit_2 t128 t113 w_46) w_45)
      (pur Try.prog (binS .geq 3 false false t120 t122) fun t139 => 
      pur Try.prog (binS .add 3 false true t112 (.int .i64 1)) fun t142 => 
      callS Try.prog 48 #[v_data, t142, v_b_1, v_limit_2, v_cmp] (fun _ w_47 => 
      J v_a_1 t112 v_limit_2 t139 t113 w_47) w_45)) w_43)) w_41) w_39) w_36) w_34) w_32) w_30) w_28) w_26) w_24) w_22) w_20) w_18) (World.drew w_16)))) w_5)))) [v_a, v_b, v_limit, (.bool true), (.bool true)] w
theorem eq48 (v_data v_a v_b v_limit v_cmp : Value) (Q : Value → World → Prop) (w : World) : semF Try.prog 48 [v_data, v_a, v_b, v_limit, v_cmp] Q w = S48 v_data v_a v_b v_limit v_cmp Q w := by kernel_rfl
theorem ref48 {v_data v_a v_b v_limit v_cmp : Value} {Q : Value → World → Prop} {w : World} (h : S48 v_data v_a v_b v_limit v_cmp Q w) : callS Try.prog 48 #[v_data, v_a, v_b, v_limit, v_cmp] Q w :=
  callS_of mix (fun a w => Try.call48 a w) (by kernel_rfl) (by rw [eq48]; exact h)
-- slices.insertionSortCmpFunc[*commons/heap.item[string]]
def S49 (v_data v_a v_b v_cmp : Value) (Q : Value → World → Prop) (w : World) : Prop :=
 pur Try.prog (binS .add 3 false true v_a (.int .i64 1)) fun t11 => 
 lp 1 (fun J => fun v_i w_1 => ∀ _j : Fr, 
  pur Try.prog (binS .lss 3 false false v_i v_b) fun t14 => 
  condS t14
   (lp 1 (fun J_1 => fun v_j w_2 => ∀ _j : Fr, 
   pur Try.prog (binS .gtr 3 false false v_j v_a) fun t20 => 
   gd t20 true (fun k w_3 => k v_cmp w_3) (fun t22_1 w_4 => 
   gd t20 true (fun k_1 w_5 => k_1 v_data w_5) (fun t23_1 w_6 => 
   gd t20 true (fun k_2 w_7 => k_2 v_j w_7) (fun t24_1 w_8 => 
   gd t20 true (fun k_3 w_9 => pur Try.prog (Instr.indexAt 58 t23_1 t24_1) fun t25 => k_3 t25 w_9) (fun t25_1 w_10 => 
   gd t20 true (fun k_4 w_11 => rd Try.prog (Instr.loadAt 62 t25_1) (fun t26 => k_4 t26 w_11) w_11) (fun t26_1 w_12 => 
   gd t20 true (fun k_5 w_13 => k_5 v_data w_13) (fun t27_1 w_14 => 
   gd t20 true (fun k_6 w_15 => k_6 v_j w_15) (fun t28_1 w_16 => 
   gd t20 true (fun k_7 w_17 => pur Try.prog (binS .sub 3 false true t28_1 (.int .i64 1)) fun t29 => k_7 t29 w_17) (fun t29_1 w_18 => 
   gd t20 true (fun k_8 w_19 => pur Try.prog (Instr.indexAt 58 t27_1 t29_1) fun t30 => k_8 t30 w_19) (fun t30_1 w_20 => 
   gd t20 true (fun k_9 w_21 => rd Try.prog (Instr.loadAt 62 t30_1) (fun t31 => k_9 t31 w_21) w_21) (fun t31_1 w_22 => 
   gd t20 true (fun k_10 w_23 => callF Try.prog t22_1 #[t26_1, t31_1] (fun t32 w_24 => k_10 t32 w_24) w_23) (fun t32_1 w_25 => 
   gd t20 true (fun k_11 w_26 => pur Try.prog (binS .lss 3 false true t32_1 (.int .i64 0)) fun t33 => k_11 t33 w_26) (fun t33_1 w_27 => 
   pur Try.prog (pickS t20 t33_1 (.bool false)) fun t34 => 
   condS t34
    (pur Try.prog (binS .sub 3 false true v_j (.int .i64 1)) fun t41 => 
   pur Try.prog (binS .sub 3 false true v_j (.int .i64 1)) fun t44 => 
   pur Try.prog (Instr.indexAt 58 v_data t44) fun t45 => 
   rd Try.prog (Instr.loadAt 62 t45) (fun t46 => 
   pur Try.prog (Instr.indexAt 58 v_data v_j) fun t49 => 
   rd Try.prog (Instr.loadAt 62 t49) (fun t50 => 
   pur Try.prog (Instr.indexAt 58 v_data v_j) fun t51 => 
   act Try.prog (thenU (Instr.storeAt 62 t51 t46)) (fun _ w_28 => 
   pur Try.prog (Instr.indexAt 58 v_data t41) fun t52 => 
   act Try.prog (thenU (Instr.storeAt 62 t52 t50)) (fun _ w_29 => 
   pur Try.prog (binS .sub 3 false true v_j (.int .i64 1)) fun t36 => 
   J_1 t36 w_29) w_28) (World.drew w_27)) (World.drew w_27)) (World.drew w_27))
    (pur Try.prog (binS .add 3 false true v_i (.int .i64 1)) fun t16 => 
  J t16 w_27)) w_25) w_22) w_20) w_18) w_16) w_14) w_12) w_10) w_8) w_6) w_4) (World.drew w_2)) [v_i] w_1)
   (Q (.tuple #[]) w_1)) [t11] w
theorem eq49 (v_data v_a v_b v_cmp : Value) (Q : Value → World → Prop) (w : World) : semF Try.prog 49 [v_data, v_a, v_b, v_cmp] Q w = S49 v_data v_a v_b v_cmp Q w := by kernel_rfl
theorem ref49 {v_data v_a v_b v_cmp : Value} {Q : Value → World → Prop} {w : World} (h : S49 v_data v_a v_b v_cmp Q w) : callS Try.prog 49 #[v_data, v_a, v_b, v_cmp] Q w :=
  callS_of mix (fun a w => Try.call49 a w) (by kernel_rfl) (by rw [eq49]; exact h)
-- slices.heapSortCmpFunc[*commons/heap.item[string]]
def S50 (v_data v_a v_b v_cmp : Value) (Q : Value → World → Prop) (w : World) : Prop :=
 pur Try.prog (binS .sub 3 false false v_b v_a) fun t16 => 
 pur Try.prog (binS .sub 3 false true t16 (.int .i64 1)) fun t18 => 
 pur Try.prog (binS .quo 3 false true t18 (.int .i64 2)) fun t19 => 
 lp 1 (fun J => fun v_i w_1 => ∀ _j : Fr, 
  pur Try.prog (binS .geq 3 false true v_i (.int .i64 0)) fun t21 => 
  condS t21
   (callS Try.prog 67 #[v_data, v_i, t16, v_a, v_cmp] (fun _ w_2 => 
  pur Try.prog (binS .sub 3 false true v_i (.int .i64 1)) fun t23 => 
  J t23 w_2) w_1)
   (pur Try.prog (binS .sub 3 false true t16 (.int .i64 1)) fun t31 => 
 lp 1 (fun J_1 => fun v_i_1 w_3 => ∀ _j : Fr, 
  pur Try.prog (binS .geq 3 false true v_i_1 (.int .i64 0)) fun t33 => 
  condS t33
   (pur Try.prog (binS .add 3 false false v_a v_i_1) fun t41 => 
  pur Try.prog (binS .add 3 false false v_a v_i_1) fun t45 => 
  pur Try.prog (Instr.indexAt 58 v_data t45) fun t46 => 
  rd Try.prog (Instr.loadAt 62 t46) (fun t47 => 
  pur Try.prog (Instr.indexAt 58 v_data v_a) fun t50 => 
  rd Try.prog (Instr.loadAt 62 t50) (fun t51 => 
  pur Try.prog (Instr.indexAt 58 v_data v_a) fun t52 => 
  act Try.prog (thenU (Instr.storeAt 62 t52 t47)) (fun _ w_4 => 
  pur Try.prog (Instr.indexAt 58 v_data t41) fun t53 => 
  act Try.prog (thenU (Instr.storeAt 62 t53 t51)) (fun _ w_5 => 
  callS Try.prog 67 #[v_data, (.int .i64 0), v_i_1, v_a, v_cmp] (fun _ w_6 => 
  pur Try.prog (binS .sub 3 false true v_i_1 (.int .i64 1)) fun t35 => 
  J_1 t35 w_6) w_5) w_4) (World.drew w_3)) (World.drew w_3)) (World.drew w_3))
   (Q (.tuple #[]) w_3)) [t31] w_1)) [t19] w
theorem eq50 (v_data v_a v_b v_cmp : Value) (Q : Value → World → Prop) (w : World) : semF Try.prog 50 [v_data, v_a, v_b, v_cmp] Q w = S50 v_data v_a v_b v_cmp Q w := by kernel_rfl
theorem ref50 {v_data v_a v_b v_cmp : Value} {Q : Value → World → Prop} {w : World} (h : S50 v_data v_a v_b v_cmp Q w) : callS Try.prog 50 #[v_data, v_a, v_b, v_cmp] Q w :=
  callS_of mix (fun a w => Try.call50 a w) (by kernel_rfl) (by rw [eq50]; exact h)
-- slices.breakPatternsCmpFunc[*commons/heap.item[string]]
def S51 (v_data v_a v_b _ : Value) (Q : Value → World → Prop) (w : World) : Prop :=
 pur Try.prog (binS .sub 3 false false v_b v_a) fun t15 => 
 pur Try.prog (binS .geq 3 false true t15 (.int .i64 8)) fun t17 => 
 condS t17
  (pur Try.prog (convert 3 104 t15) fun t19 => 
  act Try.prog (Instr.alloc 104 true (.tuple #[])) (fun t9 w_1 => 
  act Try.prog (thenU (Instr.storeAt 104 t9 t19)) (fun _ w_2 => 
  callS Try.prog 68 #[t15] (fun t21 w_3 => 
  pur Try.prog (binS .quo 3 false true t15 (.int .i64 4)) fun t24 => 
  pur Try.prog (binS .mul 3 false true t24 (.int .i64 2)) fun t25 => 
  pur Try.prog (binS .add 3 false false v_a t25) fun t26 => 
  pur Try.prog (binS .sub 3 false true t26 (.int .i64 1)) fun t27 => 
  lp 1 (fun J => fun v_idx w_4 => ∀ _j : Fr, 
   pur Try.prog (binS .quo 3 false true t15 (.int .i64 4)) fun t31 => 
   pur Try.prog (binS .mul 3 false true t31 (.int .i64 2)) fun t32 => 
   pur Try.prog (binS .add 3 false false v_a t32) fun t33 => 
   pur Try.prog (binS .add 3 false true t33 (.int .i64 1)) fun t34 => 
   pur Try.prog (binS .leq 3 false false v_idx t34) fun t35 => 
   condS t35
    (callS Try.prog 69 #[t9] (fun t38 w_5 => 
   pur Try.prog (binS .sub 85 false true t21 (.int .u64 1)) fun t40 => 
   pur Try.prog (binS .and 85 false false t38 t40) fun t41 => 
   pur Try.prog (convert 85 3 t41) fun t42 => 
   jn 1 (fun J_1 => 
    pur Try.prog (binS .geq 3 false false t42 t15) fun t45 => 
    condS t45
     (pur Try.prog (binS .sub 3 false false t42 t15) fun t48 => 
     J_1 t48 w_5)
     (J_1 t42 w_5))
   (fun v_other w_6 => ∀ _j : Fr, 
    pur Try.prog (binS .add 3 false false v_a v_other) fun t54 => 
    pur Try.prog (binS .add 3 false false v_a v_other) fun t58 => 
    pur Try.prog (Instr.indexAt 58 v_data t58) fun t59 => 
    rd Try.prog (Instr.loadAt 62 t59) (fun t60 => 
    pur Try.prog (Instr.indexAt 58 v_data v_idx) fun t63 => 
    rd Try.prog (Instr.loadAt 62 t63) (fun t64 => 
    pur Try.prog (Instr.indexAt 58 v_data v_idx) fun t65 => 
    act Try.prog (thenU (Instr.storeAt 62 t65 t60)) (fun _ w_7 => 
    pur Try.prog (Instr.indexAt 58 v_data t54) fun t66 => 
    act Try.prog (thenU (Instr.storeAt 62 t66 t64)) (fun _ w_8 => 
    pur Try.prog (binS .add 3 false true v_idx (.int .i64 1)) fun t37 => 
   J t37 w_8) w_7) (World.drew w_6)) (World.drew w_6)) (World.drew w_6))) w_4)
    (Q (.tuple #[]) w_4)) [t27] w_3) w_2) w_1) w)
  (Q (.tuple #[]) w)
theorem eq51 (v_data v_a v_b v_cmp : Value) (Q : Value → World → Prop) (w : World) : semF Try.prog 51 [v_data, v_a, v_b, v_cmp] Q w = S51 v_data v_a v_b v_cmp Q w := by kernel_rfl
theorem ref51 {v_data v_a v_b v_cmp : Value} {Q : Value → World → Prop} {w : World} (h : S51 v_data v_a v_b v_cmp Q w) : callS Try.prog 51 #[v_data, v_a, v_b, v_cmp] Q w :=
  callS_of mix (fun a w => Try.call51 a w) (by kernel_rfl) (by rw [eq51]; exact h)
-- slices.choosePivotCmpFunc[*commons/heap.item[string]]
def S52 (v_data v_a v_b v_cmp : Value) (Q : Value → World → Prop) (w : World) : Prop :=
 pur Try.prog (binS .sub 3 false false v_b v_a) fun t17 => 
 act Try.prog (Instr.alloc 3 true (.tuple #[])) (fun t11 w_1 => 
 pur Try.prog (binS .quo 3 false true t17 (.int .i64 4)) fun t20 => 
 pur Try.prog (binS .mul 3 false true t20 (.int .i64 1)) fun t21 => 
 pur Try.prog (binS .add 3 false false v_a t21) fun t22 => 
 pur Try.prog (binS .quo 3 false true t17 (.int .i64 4)) fun t25 => 
 pur Try.prog (binS .mul 3 false true t25 (.int .i64 2)) fun t26 => 
 pur Try.prog (binS .add 3 false false v_a t26) fun t27 => 
 pur Try.prog (binS .quo 3 false true t17 (.int .i64 4)) fun t30 => 
 pur Try.prog (binS .mul 3 false true t30 (.int .i64 3)) fun t31 => 
 pur Try.prog (binS .add 3 false false v_a t31) fun t32 => 
 jn 1 (fun J => 
  pur Try.prog (binS .geq 3 false true t17 (.int .i64 8)) fun t34 => 
  condS t34
   (jn 3 (fun J_1 => 
    pur Try.prog (binS .geq 3 false true t17 (.int .i64 50)) fun t36 => 
    condS t36
     (callS Try.prog 70 #[v_data, t22, t11, v_cmp] (fun t40 w_2 => 
     callS Try.prog 70 #[v_data, t27, t11, v_cmp] (fun t44 w_3 => 
     callS Try.prog 70 #[v_data, t32, t11, v_cmp] (fun t48 w_4 => 
     J_1 t40 t44 t48 w_4) w_3) w_2) w_1)
     (J_1 t22 t27 t32 w_1))
   (fun v_i v_j v_k w_5 => ∀ _j : Fr, 
    callS Try.prog 71 #[v_data, v_i, v_j, v_k, t11, v_cmp] (fun t54 w_6 => 
    J t54 w_6) w_5))
   (J t27 w_1))
 (fun v_j_1 w_7 => ∀ _j : Fr, 
  rd Try.prog (Instr.loadAt 3 t11) (fun t55 => 
  pur Try.prog (binS .eql 3 false true t55 (.int .i64 0)) fun t58 => 
  condS t58
   (Q (.tuple #[v_j_1, (.int .i64 1)]) w_7)
   (pur Try.prog (binS .eql 3 false true t55 (.int .i64 12)) fun t61 => 
   condS t61
    (Q (.tuple #[v_j_1, (.int .i64 2)]) w_7)
    (Q (.tuple #[v_j_1, (.int .i64 0)]) w_7))) w_7)) w
theorem eq52 (v_data v_a v_b v_cmp : Value) (Q : Value → World → Prop) (w : World) : semF Try.prog 52 [v_data, v_a, v_b, v_cmp] Q w = S52 v_data v_a v_b v_cmp Q w := by kernel_rfl
theorem ref52 {v_data v_a v_b v_cmp : Value} {Q : Value → World → Prop} {w : World} (h : S52 v_data v_a v_b v_cmp Q w) : callS Try.prog 52 #[v_data, v_a, v_b, v_cmp] Q w :=
  callS_of mix (fun a w => Try.call52 a w) (by kernel_rfl) (by rw [eq52]; exact h)
-- slices.reverseRangeCmpFunc[*commons/heap.item[string]]
def S53 (v_data v_a v_b _ : Value) (Q : Value → World → Prop) (w : World) : Prop :=
 pur Try.prog (binS .sub 3 false true v_b (.int .i64 1)) fun t12 => 
 lp 2 (fun J => fun v_i v_j w_1 => ∀ _j : Fr, 
  pur Try.prog (binS .lss 3 false false v_i v_j) fun t15 => 
  condS t15
   (pur Try.prog (Instr.indexAt 58 v_data v_j) fun t22 => 
  rd Try.prog (Instr.loadAt 62 t22) (fun t23 => 
  pur Try.prog (Instr.indexAt 58 v_data v_i) fun t26 => 
  rd Try.prog (Instr.loadAt 62 t26) (fun t27 => 
  pur Try.prog (Instr.indexAt 58 v_data v_i) fun t28 => 
  act Try.prog (thenU (Instr.storeAt 62 t28 t23)) (fun _ w_2 => 
  pur Try.prog (Instr.indexAt 58 v_data v_j) fun t29 => 
  act Try.prog (thenU (Instr.storeAt 62 t29 t27)) (fun _ w_3 => 
  pur Try.prog (binS .add 3 false true v_i (.int .i64 1)) fun t31 => 
  pur Try.prog (binS .sub 3 false true v_j (.int .i64 1)) fun t33 => 
  J t31 t33 w_3) w_2) (World.drew w_1)) (World.drew w_1)) (World.drew w_1))
   (Q (.tuple #[]) w_1)) [v_a, t12] w
theorem eq53 (v_data v_a v_b v_cmp : Value) (Q : Value → World → Prop) (w : World) : semF Try.prog 53 [v_data, v_a, v_b, v_cmp] Q w = S53 v_data v_a v_b v_cmp Q w := by kernel_rfl
theorem ref53 {v_data v_a v_b v_cmp : Value} {Q : Value → World → Prop} {w : World} (h : S53 v_data v_a v_b v_cmp Q w) : callS Try.prog 53 #[v_data, v_a, v_b, v_cmp] Q w :=
  callS_of mix (fun a w => Try.call53 a w) (by kernel_rfl) (by rw [eq53]; exact h)
-- slices.partialInsertionSortCmpFunc[*commons/heap.item[string]]
def S54 (v_data v_a v_b v_cmp : Value) (Q : Value → World → Prop) (w : World) : Prop :=
 pur Try.prog (binS .add 3 false true v_a (.int .i64 1)) fun t14 => 
 lp 2 (fun J => fun v_i v_j w_1 => ∀ _j : Fr, 
  pur Try.prog (binS .lss 3 false true v_j (.int .i64 5)) fun t16 => 
  condS t16
   (jn 1 (fun J_1 => 
   lp 1 (fun J_2 => fun v_i_1 w_2 => ∀ _j : Fr, 
    pur Try.prog (binS .lss 3 false false v_i_1 v_b) fun t21 => 
    gd t21 true (fun k w_3 => k v_cmp w_3) (fun t23_1 w_4 => 
    gd t21 true (fun k_1 w_5 => k_1 v_data w_5) (fun t24_1 w_6 => 
    gd t21 true (fun k_2 w_7 => k_2 v_i_1 w_7) (fun t25_1 w_8 => 
    gd t21 true (fun k_3 w_9 => pur Try.prog (Instr.indexAt 58 t24_1 t25_1) fun t26 => k_3 t26 w_9) (fun t26_1 w_10 => 
    gd t21 true (fun k_4 w_11 => rd Try.prog (Instr.loadAt 62 t26_1) (fun t27 => k_4 t27 w_11) w_11) (fun t27_1 w_12 => 
    gd t21 true (fun k_5 w_13 => k_5 v_data w_13) (fun t28_1 w_14 => 
    gd t21 true (fun k_6 w_15 => k_6 v_i_1 w_15) (fun t29_1 w_16 => 
    gd t21 true (fun k_7 w_17 => pur Try.prog (binS .sub 3 false true t29_1 (.int .i64 1)) fun t30 => k_7 t30 w_17) (fun t30_1 w_18 => 
    gd t21 true (fun k_8 w_19 => pur Try.prog (Instr.indexAt 58 t28_1 t30_1) fun t31 => k_8 t31 w_19) (fun t31_1 w_20 => 
    gd t21 true (fun k_9 w_21 => rd Try.prog (Instr.loadAt 62 t31_1) (fun t32 => k_9 t32 w_21) w_21) (fun t32_1 w_22 => 
    gd t21 true (fun k_10 w_23 => callF Try.prog t23_1 #[t27_1, t32_1] (fun t33 w_24 => k_10 t33 w_24) w_23) (fun t33_1 w_25 => 
    gd t21 true (fun k_11 w_26 => pur Try.prog (binS .lss 3 false true t33_1 (.int .i64 0)) fun t34 => k_11 t34 w_26) (fun t34_1 w_27 => 
    gd t21 true (fun k_12 w_28 => pur Try.prog (Op.unary .not t34_1) fun t35 => k_12 t35 w_28) (fun t35_1 w_29 => 
    pur Try.prog (pickS t21 t35_1 (.bool false)) fun t36 => 
    condS t36
     (pur Try.prog (binS .add 3 false true v_i_1 (.int .i64 1)) fun t38 => 
    J_2 t38 w_29)
     (pur Try.prog (binS .eql 3 false false v_i_1 v_b) fun t41 => 
   condS t41
    (Q (.bool true) w_29)
    (pur Try.prog (binS .sub 3 false false v_b v_a) fun t44 => 
   pur Try.prog (binS .lss 3 false true t44 (.int .i64 50)) fun t45 => 
   condS t45
    (Q (.bool false) w_29)
    (pur Try.prog (binS .sub 3 false true v_i_1 (.int .i64 1)) fun t50 => 
   pur Try.prog (binS .sub 3 false true v_i_1 (.int .i64 1)) fun t53 => 
   pur Try.prog (Instr.indexAt 58 v_data t53) fun t54 => 
   rd Try.prog (Instr.loadAt 62 t54) (fun t55 => 
   pur Try.prog (Instr.indexAt 58 v_data v_i_1) fun t58 => 
   rd Try.prog (Instr.loadAt 62 t58) (fun t59 => 
   pur Try.prog (Instr.indexAt 58 v_data v_i_1) fun t60 => 
   act Try.prog (thenU (Instr.storeAt 62 t60 t55)) (fun _ w_30 => 
   pur Try.prog (Instr.indexAt 58 v_data t50) fun t61 => 
   act Try.prog (thenU (Instr.storeAt 62 t61 t59)) (fun _ w_31 => 
   jn 0 (fun J_3 => 
    pur Try.prog (binS .sub 3 false false v_i_1 v_a) fun t64 => 
    pur Try.prog (binS .geq 3 false true t64 (.int .i64 2)) fun t65 => 
    condS t65
     (pur Try.prog (binS .sub 3 false true v_i_1 (.int .i64 1)) fun t67 => 
     lp 1 (fun J_4 => fun v_j_1 w_32 => ∀ _j : Fr, 
      pur Try.prog (binS .geq 3 false true v_j_1 (.int .i64 1)) fun t69 => 
      condS t69
       (pur Try.prog (Instr.indexAt 58 v_data v_j_1) fun t75 => 
      rd Try.prog (Instr.loadAt 62 t75) (fun t76 => 
      pur Try.prog (binS .sub 3 false true v_j_1 (.int .i64 1)) fun t79 => 
      pur Try.prog (Instr.indexAt 58 v_data t79) fun t80 => 
      rd Try.prog (Instr.loadAt 62 t80) (fun t81 => 
      callF Try.prog v_cmp #[t76, t81] (fun t82 w_33 => 
      pur Try.prog (binS .lss 3 false true t82 (.int .i64 0)) fun t83 => 
      pur Try.prog (Op.unary .not t83) fun t84 => 
      condS t84
       (J_3  w_33)
       (pur Try.prog (binS .sub 3 false true v_j_1 (.int .i64 1)) fun t89 => 
      pur Try.prog (binS .sub 3 false true v_j_1 (.int .i64 1)) fun t92 => 
      pur Try.prog (Instr.indexAt 58 v_data t92) fun t93 => 
      rd Try.prog (Instr.loadAt 62 t93) (fun t94 => 
      pur Try.prog (Instr.indexAt 58 v_data v_j_1) fun t97 => 
      rd Try.prog (Instr.loadAt 62 t97) (fun t98 => 
      pur Try.prog (Instr.indexAt 58 v_data v_j_1) fun t99 => 
      act Try.prog (thenU (Instr.storeAt 62 t99 t94)) (fun _ w_34 => 
      pur Try.prog (Instr.indexAt 58 v_data t89) fun t100 => 
      act Try.prog (thenU (Instr.storeAt 62 t100 t98)) (fun _ w_35 => 
      pur Try.prog (binS .sub 3 false true v_j_1 (.int .i64 1)) fun t71 => 
      J_4 t71 w_35) w_34) (World.drew w_33)) (World.drew w_33)) (World.drew w_33))) (World.drew w_32)) (World.drew w_32)) (World.drew w_32))
       (J_3  w_32)) [t67] w_31)
     (J_3  w_31))
   (fun  w_36 => ∀ _j : Fr, 
    pur Try.prog (binS .sub 3 false false v_b v_i_1) fun t103 => 
    pur Try.prog (binS .geq 3 false true t103 (.int .i64 2)) fun t104 => 
    condS t104
     (pur Try.prog (binS .add 3 false true v_i_1 (.int .i64 1)) fun t106 => 
     lp 1 (fun J_5 => fun v_j_2 w_37 => ∀ _j : Fr, 
      pur Try.prog (binS .lss 3 false false v_j_2 v_b) fun t109 => 
      condS t109
       (pur Try.prog (Instr.indexAt 58 v_data v_j_2) fun t115 => 
      rd Try.prog (Instr.loadAt 62 t115) (fun t116 => 
      pur Try.prog (binS .sub 3 false true v_j_2 (.int .i64 1)) fun t119 => 
      pur Try.prog (Instr.indexAt 58 v_data t119) fun t120 => 
      rd Try.prog (Instr.loadAt 62 t120) (fun t121 => 
      callF Try.prog v_cmp #[t116, t121] (fun t122 w_38 => 
      pur Try.prog (binS .lss 3 false true t122 (.int .i64 0)) fun t123 => 
      pur Try.prog (Op.unary .not t123) fun t124 => 
      condS t124
       (J_1 v_i_1 w_38)
       (pur Try.prog (binS .sub 3 false true v_j_2 (.int .i64 1)) fun t129 => 
      pur Try.prog (binS .sub 3 false true v_j_2 (.int .i64 1)) fun t132 => 
      pur Try.prog (Instr.indexAt 58 v_data t132) fun t133 => 
      rd Try.prog (Instr.loadAt 62 t133) (fun t134 => 
      pur Try.prog (Instr.indexAt 58 v_data v_j_2) fun t137 => 
      rd Try.prog (Instr.loadAt 62 t137) (fun t138 => 
      pur Try.prog (Instr.indexAt 58 v_data v_j_2) fun t139 => 
      act Try.prog (thenU (Instr.storeAt 62 t139 t134)) (fun _ w_39 => 
      pur Try.prog (Instr.indexAt 58 v_data t129) fun t140 => 
      act Try.prog (thenU (Instr.storeAt 62 t140 t138)) (fun _ w_40 => 
      pur Try.prog (binS .add 3 false true v_j_2 (.int .i64 1)) fun t111 => 
      J_5 t111 w_40) w_39) (World.drew w_38)) (World.drew w_38)) (World.drew w_38))) (World.drew w_37)) (World.drew w_37)) (World.drew w_37))
       (J_1 v_i_1 w_37)) [t106] w_36)
     (J_1 v_i_1 w_36))) w_30) (World.drew w_29)) (World.drew w_29)) (World.drew w_29))))) w_27) w_25) w_22) w_20) w_18) w_16) w_14) w_12) w_10) w_8) w_6) w_4) (World.drew w_2)) [v_i] w_1)
  (fun v_i_2 w_41 => ∀ _j : Fr, 
   pur Try.prog (binS .add 3 false true v_j (.int .i64 1)) fun t18 => 
   J v_i_2 t18 w_41))
   (Q (.bool false) w_1)) [t14, (.int .i64 0)] w
theorem eq54 (v_data v_a v_b v_cmp : Value) (Q : Value → World → Prop) (w : World) : semF Try.prog 54 [v_data, v_a, v_b, v_cmp] Q w = S54 v_data v_a v_b v_cmp Q w := by kernel_rfl
theorem ref54 {v_data v_a v_b v_cmp : Value} {Q : Value → World → Prop} {w : World} (h : S54 v_data v_a v_b v_cmp Q w) : callS Try.prog 54 #[v_data, v_a, v_b, v_cmp] Q w :=
  callS_of mix (fun a w => Try.call54 a w) (by kernel_rfl) (by rw [eq54]; exact h)
-- slices.partitionEqualCmpFunc[*commons/heap.item[string]]
def S55 (v_data v_a v_b v_pivot v_cmp : Value) (Q : Value → World → Prop) (w : World) : Prop :=
 pur Try.prog (Instr.indexAt 58 v_data v_pivot) fun t19 => 
 rd Try.prog (Instr.loadAt 62 t19) (fun t20 => 
 pur Try.prog (Instr.indexAt 58 v_data v_a) fun t23 => 
 rd Try.prog (Instr.loadAt 62 t23) (fun t24 => 
 pur Try.prog (Instr.indexAt 58 v_data v_a) fun t25 => 
 act Try.prog (thenU (Instr.storeAt 62 t25 t20)) (fun _ w_1 => 
 pur Try.prog (Instr.indexAt 58 v_data v_pivot) fun t26 => 
 act Try.prog (thenU (Instr.storeAt 62 t26 t24)) (fun _ w_2 => 
 pur Try.prog (binS .add 3 false true v_a (.int .i64 1)) fun t28 => 
 pur Try.prog (binS .sub 3 false true v_b (.int .i64 1)) fun t30 => 
 lp 2 (fun J => fun v_i v_j w_3 => ∀ _j : Fr, 
  lp 1 (fun J_1 => fun v_i_1 w_4 => ∀ _j : Fr, 
   pur Try.prog (binS .leq 3 false false v_i_1 v_j) fun t33 => 
   gd t33 true (fun k w_5 => k v_cmp w_5) (fun t35_1 w_6 => 
   gd t33 true (fun k_1 w_7 => k_1 v_data w_7) (fun t36_1 w_8 => 
   gd t33 true (fun k_2 w_9 => k_2 v_a w_9) (fun t37_1 w_10 => 
   gd t33 true (fun k_3 w_11 => pur Try.prog (Instr.indexAt 58 t36_1 t37_1) fun t38 => k_3 t38 w_11) (fun t38_1 w_12 => 
   gd t33 true (fun k_4 w_13 => rd Try.prog (Instr.loadAt 62 t38_1) (fun t39 => k_4 t39 w_13) w_13) (fun t39_1 w_14 => 
   gd t33 true (fun k_5 w_15 => k_5 v_data w_15) (fun t40_1 w_16 => 
   gd t33 true (fun k_6 w_17 => k_6 v_i_1 w_17) (fun t41_1 w_18 => 
   gd t33 true (fun k_7 w_19 => pur Try.prog (Instr.indexAt 58 t40_1 t41_1) fun t42 => k_7 t42 w_19) (fun t42_1 w_20 => 
   gd t33 true (fun k_8 w_21 => rd Try.prog (Instr.loadAt 62 t42_1) (fun t43 => k_8 t43 w_21) w_21) (fun t43_1 w_22 => 
   gd t33 true (fun k_9 w_23 => callF Try.prog t35_1 #[t39_1, t43_1] (fun t44 w_24 => k_9 t44 w_24) w_23) (fun t44_1 w_25 => 
   gd t33 true (fun k_10 w_26 => pur Try.prog (binS .lss 3 false true t44_1 (.int .i64 0)) fun t45 => k_10 t45 w_26) (fun t45_1 w_27 => 
   gd t33 true (fun k_11 w_28 => pur Try.prog (Op.unary .not t45_1) fun t46 => k_11 t46 w_28) (fun t46_1 w_29 => 
   pur Try.prog (pickS t33 t46_1 (.bool false)) fun t47 => 
   condS t47
    (pur Try.prog (binS .add 3 false true v_i_1 (.int .i64 1)) fun t49 => 
   J_1 t49 w_29)
    (lp 1 (fun J_2 => fun v_j_1 w_30 => ∀ _j : Fr, 
   pur Try.prog (binS .leq 3 false false v_i_1 v_j_1) fun t52 => 
   gd t52 true (fun k_12 w_31 => k_12 v_cmp w_31) (fun t54_1 w_32 => 
   gd t52 true (fun k_13 w_33 => k_13 v_data w_33) (fun t55_1 w_34 => 
   gd t52 true (fun k_14 w_35 => k_14 v_a w_35) (fun t56_1 w_36 => 
   gd t52 true (fun k_15 w_37 => pur Try.prog (Instr.indexAt 58 t55_1 t56_1) fun t57 => k_15 t57 w_37) (fun t57_1 w_38 => 
   gd t52 true (fun k_16 w_39 => rd Try.prog (Instr.loadAt 62 t57_1) (fun t58 => k_16 t58 w_39) w_39) (fun t58_1 w_40 => 
   gd t52 true (fun k_17 w_41 => k_17 v_data w_41) (fun t59_1 w_42 => 
   gd t52 true (fun k_18 w_43 => k_18 v_j_1 w_43) (fun t60_1 w_44 => 
   gd t52 true (fun k_19 w_45 => pur Try.prog (Instr.indexAt 58 t59_1 t60_1) fun t61 => k_19 t61 w_45) (fun t61_1 w_46 => 
   gd t52 true (fun k_20 w_47 => rd Try.prog (Instr.loadAt 62 t61_1) (fun t62 => k_20 t62 w_47) w_47) (fun t62_1 w_48 => 
   gd t52 true (fun k_21 w_49 => callF Try.prog t54_1 #[t58_1, t62_1] (fun t63 w_50 => k_21 t63 w_50) w_49) (fun t63_1 w_51 => 
   gd t52 true (fun k_22 w_52 => pur Try.prog (binS .lss 3 false true t63_1 (.int .i64 0)) fun t64 => k_22 t64 w_52) (fun t64_1 w_53 => 
   pur Try.prog (pickS t52 t64_1 (.bool false)) fun t65 => 
   condS t65
    (pur Try.prog (binS .sub 3 false true v_j_1 (.int .i64 1)) fun t67 => 
   J_2 t67 w_53)
    (pur Try.prog (binS .gtr 3 false false v_i_1 v_j_1) fun t70 => 
  condS t70
   (Q v_i_1 w_53)
   (pur Try.prog (Instr.indexAt 58 v_data v_j_1) fun t77 => 
  rd Try.prog (Instr.loadAt 62 t77) (fun t78 => 
  pur Try.prog (Instr.indexAt 58 v_data v_i_1) fun t81 => 
  rd Try.prog (Instr.loadAt 62 t81) (fun t82 => 
  pur Try.prog (Instr.indexAt 58 v_data v_i_1) fun t83 => 
  act Try.prog (thenU (Instr.storeAt 62 t83 t78)) (fun _ w_54 => 
  pur Try.prog (Instr.indexAt 58 v_data v_j_1) fun t84 => 
  act Try.prog (thenU (Instr.storeAt 62 t84 t82)) (fun _ w_55 => 
  pur Try.prog (binS .add 3 false true v_i_1 (.int .i64 1)) fun t86 => 
  pur Try.prog (binS .sub 3 false true v_j_1 (.int .i64 1)) fun t88 => 
  J t86 t88 w_55) w_54) (World.drew w_53)) (World.drew w_53)) (World.drew w_53)))) w_51) w_48) w_46) w_44) w_42) w_40) w_38) w_36) w_34) w_32) (World.drew w_30)) [v_j] w_29)) w_27) w_25) w_22) w_20) w_18) w_16) w_14) w_12) w_10) w_8) w_6) (World.drew w_4)) [v_i] w_3) [t28, t30] w_2) w_1) (World.drew w)) (World.drew w)) (World.drew w)
theorem eq55 (v_data v_a v_b v_pivot v_cmp : Value) (Q : Value → World → Prop) (w : World) : semF Try.prog 55 [v_data, v_a, v_b, v_pivot, v_cmp] Q w = S55 v_data v_a v_b v_pivot v_cmp Q w := by kernel_rfl
theorem ref55 {v_data v_a v_b v_pivot v_cmp : Value} {Q : Value → World → Prop} {w : World} (h : S55 v_data v_a v_b v_pivot v_cmp Q w) : callS Try.prog 55 #[v_data, v_a, v_b, v_pivot, v_cmp] Q w :=
  callS_of mix (fun a w => Try.call55 a w) (by kernel_rfl) (by rw [eq55]; exact h)
-- slices.partitionCmpFunc[*commons/heap.item[string]]
def S56 (v_data v_a v_b v_pivot v_cmp : Value) (Q : Value → World → Prop) (w : World) : Prop :=
 pur Try.prog (Instr.indexAt 58 v_data v_pivot) fun t20 => 
 rd Try.prog (Instr.loadAt 62 t20) (fun t21 => 
 pur Try.prog (Instr.indexAt 58 v_data v_a) fun t24 => 
 rd Try.prog (Instr.loadAt 62 t24) (fun t25 => 
 pur Try.prog (Instr.indexAt 58 v_data v_a) fun t26 => 
 act Try.prog (thenU (Instr.storeAt 62 t26 t21)) (fun _ w_1 => 
 pur Try.prog (Instr.indexAt 58 v_data v_pivot) fun t27 => 
 act Try.prog (thenU (Instr.storeAt 62 t27 t25)) (fun _ w_2 => 
 pur Try.prog (binS .add 3 false true v_a (.int .i64 1)) fun t29 => 
 pur Try.prog (binS .sub 3 false true v_b (.int .i64 1)) fun t31 => 
 lp 1 (fun J => fun v_i w_3 => ∀ _j : Fr, 
  pur Try.prog (binS .leq 3 false false v_i t31) fun t34 => 
  gd t34 true (fun k w_4 => k v_cmp w_4) (fun t36_1 w_5 => 
  gd t34 true (fun k_1 w_6 => k_1 v_data w_6) (fun t37_1 w_7 => 
  gd t34 true (fun k_2 w_8 => k_2 v_i w_8) (fun t38_1 w_9 => 
  gd t34 true (fun k_3 w_10 => pur Try.prog (Instr.indexAt 58 t37_1 t38_1) fun t39 => k_3 t39 w_10) (fun t39_1 w_11 => 
  gd t34 true (fun k_4 w_12 => rd Try.prog (Instr.loadAt 62 t39_1) (fun t40 => k_4 t40 w_12) w_12) (fun t40_1 w_13 => 
  gd t34 true (fun k_5 w_14 => k_5 v_data w_14) (fun t41_1 w_15 => 
  gd t34 true (fun k_6 w_16 => k_6 v_a w_16) (fun t42_1 w_17 => 
  gd t34 true (fun k_7 w_18 => pur Try.prog (Instr.indexAt 58 t41_1 t42_1) fun t43 => k_7 t43 w_18) (fun t43_1 w_19 => 
  gd t34 true (fun k_8 w_20 => rd Try.prog (Instr.loadAt 62 t43_1) (fun t44 => k_8 t44 w_20) w_20) (fun t44_1 w_21 => 
  gd t34 true (fun k_9 w_22 => callF Try.prog t36_1 #[t40_1, t44_1] (fun t45 w_23 => k_9 t45 w_23) w_22) (fun t45_1 w_24 => 
  gd t34 true (fun k_10 w_25 => pur Try.prog (binS .lss 3 false true t45_1 (.int .i64 0)) fun t46 => k_10 t46 w_25) (fun t46_1 w_26 => 
  pur Try.prog (pickS t34 t46_1 (.bool false)) fun t47 => 
  condS t47
   (pur Try.prog (binS .add 3 false true v_i (.int .i64 1)) fun t49 => 
  J t49 w_26)
   (lp 1 (fun J_1 => fun v_j w_27 => ∀ _j : Fr, 
  pur Try.prog (binS .leq 3 false false v_i v_j) fun t52 => 
  gd t52 true (fun k_11 w_28 => k_11 v_cmp w_28) (fun t54_1 w_29 => 
  gd t52 true (fun k_12 w_30 => k_12 v_data w_30) (fun t55_1 w_31 => 
  gd t52 true (fun k_13 w_32 => k_13 v_j w_32) (fun t56_1 w_33 => 
  gd t52 true (fun k_14 w_34 => pur Try.prog (Instr.indexAt 58 t55_1 t56_1) fun t57 => k_14 t57 w_34) (fun t57_1 w_35 => 
  gd t52 true (fun k_15 w_36 => rd Try.prog (Instr.loadAt 62 t57_1) (fun t58 => k_15 t58 w_36) w_36) (fun t58_1 w_37 => 
  gd t52 true (fun k_16 w_38 => k_16 v_data w_38) (fun t59_1 w_39 => 
  gd t52 true (fun k_17 w_40 => k_17 v_a w_40) (fun t60_1 w_41 => 
  gd t52 true (fun k_18 w_42 => pur Try.prog (Instr.indexAt 58 t59_1 t60_1) fun t61 => k_18 t61 w_42) (fun t61_1 w_43 => 
  gd t52 true (fun k_19 w_44 => rd Try.prog (Instr.loadAt 62 t61_1) (fun t62 => k_19 t62 w_44) w_44) (fun t62_1 w_45 => 
  gd t52 true (fun k_20 w_46 => callF Try.prog t54_1 #[t58_1, t62_1] (fun t63 w_47 => k_20 t63 w_47) w_46) (fun t63_1 w_48 => 
  gd t52 true (fun k_21 w_49 => pur Try.prog (binS .lss 3 false true t63_1 (.int .i64 0)) fun t64 => k_21 t64 w_49) (fun t64_1 w_50 => 
  gd t52 true (fun k_22 w_51 => pur Try.prog (Op.unary .not t64_1) fun t65 => k_22 t65 w_51) (fun t65_1 w_52 => 
  pur Try.prog (pickS t52 t65_1 (.bool false)) fun t66 => 
  condS t66
   (pur Try.prog (binS .sub 3 false true v_j (.int .i64 1)) fun t68 => 
  J_1 t68 w_52)
   (pur Try.prog (binS .gtr 3 false false v_i v_j) fun t71 => 
 condS t71
  (pur Try.prog (Instr.indexAt 58 v_data v_a) fun t78 => 
  rd Try.prog (Instr.loadAt 62 t78) (fun t79 => 
  pur Try.prog (Instr.indexAt 58 v_data v_j) fun t82 => 
  rd Try.prog (Instr.loadAt 62 t82) (fun t83 => 
  pur Try.prog (Instr.indexAt 58 v_data v_j) fun t84 => 
  act Try.prog (thenU (Instr.storeAt 62 t84 t79)) (fun _ w_53 => 
  pur Try.prog (Instr.indexAt 58 v_data v_a) fun t85 => 
  act Try.prog (thenU (Instr.storeAt 62 t85 t83)) (fun _ w_54 => 
  Q (.tuple #[v_j, (.bool true)]) w_54) w_53) (World.drew w_52)) (World.drew w_52)) (World.drew w_52))
  (pur Try.prog (Instr.indexAt 58 v_data v_j) fun t93 => 
 rd Try.prog (Instr.loadAt 62 t93) (fun t94 => 
 pur Try.prog (Instr.indexAt 58 v_data v_i) fun t97 => 
 rd Try.prog (Instr.loadAt 62 t97) (fun t98 => 
 pur Try.prog (Instr.indexAt 58 v_data v_i) fun t99 => 
 act Try.prog (thenU (Instr.storeAt 62 t99 t94)) (fun _ w_55 => 
 pur Try.prog (Instr.indexAt 58 v_data v_j) fun t100 => 
 act Try.prog (thenU (Instr.storeAt 62 t100 t98)) (fun _ w_56 => 
 pur Try.prog (binS .add 3 false true v_i (.int .i64 1)) fun t102 => 
 pur Try.prog (binS .sub 3 false true v_j (.int .i64 1)) fun t104 => 
 lp 2 (fun J_2 => fun v_i_1 v_j_1 w_57 => ∀ _j : Fr, 
  lp 1 (fun J_3 => fun v_i_2 w_58 => ∀ _j : Fr, 
   pur Try.prog (binS .leq 3 false false v_i_2 v_j_1) fun t107 => 
   gd t107 true (fun k_23 w_59 => k_23 v_cmp w_59) (fun t109_1 w_60 => 
   gd t107 true (fun k_24 w_61 => k_24 v_data w_61) (fun t110_1 w_62 => 
   gd t107 true (fun k_25 w_63 => k_25 v_i_2 w_63) (fun t111_1 w_64 => 
   gd t107 true (fun k_26 w_65 => pur Try.prog (Instr.indexAt 58 t110_1 t111_1) fun t112 => k_26 t112 w_65) (fun t112_1 w_66 => 
   gd t107 true (fun k_27 w_67 => rd Try.prog (Instr.loadAt 62 t112_1) (fun t113 => k_27 t113 w_67) w_67) (fun t113_1 w_68 => 
   gd t107 true (fun k_28 w_69 => k_28 v_data w_69) (fun t114_1 w_70 => 
   gd t107 true (fun k_29 w_71 => k_29 v_a w_71) (fun t115_1 w_72 => 
   gd t107 true (fun k_30 w_73 => pur Try.prog (Instr.indexAt 58 t114_1 t115_1) fun t116 => k_30 t116 w_73) (fun t116_1 w_74 => 
   gd t107 true (fun k_31 w_75 => rd Try.prog (Instr.loadAt 62 t116_1) (fun t117 => k_31 t117 w_75) w_75) (fun t117_1 w_76 => 
   gd t107 true (fun k_32 w_77 => callF Try.prog t109_1 #[t113_1, t117_1] (fun t118 w_78 => k_32 t118 w_78) w_77) (fun t118_1 w_79 => 
   gd t107 true (fun k_33 w_80 => pur Try.prog (binS .lss 3 false true t118_1 (.int .i64 0)) fun t119 => k_33 t119 w_80) (fun t119_1 w_81 => 
   pur Try.prog (pickS t107 t119_1 (.bool false)) fun t120 => 
   condS t120
    (pur Try.prog (binS .add 3 false true v_i_2 (.int .i64 1)) fun t122 => 
   J_3 t122 w_81)
    (lp 1 (fun J_4 => fun v_j_2 w_82 => ∀ _j : Fr, 
   pur Try.prog (binS .leq 3 false false v_i_2 v_j_2) fun t125 => 
   gd t125 true (fun k_34 w_83 => k_34 v_cmp w_83) (fun t127_1 w_84 => 
   gd t125 true (fun k_35 w_85 => k_35 v_data w_85) (fun t128_1 w_86 => 
   gd t125 true (fun k_36 w_87 => k_36 v_j_2 w_87) (fun t129_1 w_88 => 
   gd t125 true (fun k_37 w_89 => pur Try.prog (Instr.indexAt 58 t128_1 t129_1) fun t130 => k_37 t130 w_89) (fun t130_1 w_90 => 
   gd t125 true (fun k_38 w_91 => rd Try.prog (Instr.loadAt 62 t130_1) (fun t131 => k_38 t131 w_91) w_91) (fun t131_1 w_92 => 
   gd t125 true (fun k_39 w_93 => k_39 v_data w_93) (fun t132_1 w_94 => 
   gd t125 true (fun k_40 w_95 => k_40 v_a w_95) (fun t133_1 w_96 => 
   gd t125 true (fun k_41 w_97 => pur Try.prog (Instr.indexAt 58 t132_1 t133_1) fun t134 => k_41 t134 w_97) (fun t134_1 w_98 => 
   gd t125 true (fun k_42 w_99 => rd Try.prog (Instr.loadAt 62 t134_1) (fun t135 => k_42 t135 w_99) w_99) (fun t135_1 w_100 => 
   gd t125 true (fun k_43 w_101 => callF Try.prog t127_1 #[t131_1, t135_1] (fun t136 w_102 => k_43 t136 w_102) w_101) (fun t136_1 w_103 => 
   gd t125 true (fun k_44 w_104 => pur Try.prog (binS .lss 3 false true t136_1 (.int .i64 0)) fun t137 => k_44 t137 w_104) (fun t137_1 w_105 => 
   gd t125 true (fun k_45 w_106 => pur Try.prog (Op.unary .not t137_1) fun t138 => k_45 t138 w_106) (fun t138_1 w_107 => 
   pur Try.prog (pickS t125 t138_1 (.bool false)) fun t139 => 
   condS t139
    (pur Try.prog (binS .sub 3 false true v_j_2 (.int .i64 1)) fun t141 => 
   J_4 t141 w_107)
    (pur Try.prog (binS .gtr 3 false false v_i_2 v_j_2) fun t144 => 
  condS t144
   (pur Try.prog (Instr.indexAt 58 v_data v_a) fun t169 => 
 rd Try.prog (Instr.loadAt 62 t169) (fun t170 => 
 pur Try.prog (Instr.indexAt 58 v_data v_j_2) fun t173 => 
 rd Try.prog (Instr.loadAt 62 t173) (fun t174 => 
 pur Try.prog (Instr.indexAt 58 v_data v_j_2) fun t175 => 
 act Try.prog (thenU (Instr.storeAt 62 t175 t170)) (fun _ w_108 => 
 pur Try.prog (Instr.indexAt 58 v_data v_a) fun t176 => 
 act Try.prog (thenU (Instr.storeAt 62 t176 t174)) (fun _ w_109 => 
 Q (.tuple #[v_j_2, (.bool false)]) w_109) w_108) (World.drew w_107)) (World.drew w_107)) (World.drew w_107))
   (pur Try.prog (Instr.indexAt 58 v_data v_j_2) fun t151 => 
  rd Try.prog (Instr.loadAt 62 t151) (fun t152 => 
  pur Try.prog (Instr.indexAt 58 v_data v_i_2) fun t155 => 
  rd Try.prog (Instr.loadAt 62 t155) (fun t156 => 
  pur Try.prog (Instr.indexAt 58 v_data v_i_2) fun t157 => 
  act Try.prog (thenU (Instr.storeAt 62 t157 t152)) (fun _ w_110 => 
  pur Try.prog (Instr.indexAt 58 v_data v_j_2) fun t158 => 
  act Try.prog (thenU (Instr.storeAt 62 t158 t156)) (fun _ w_111 => 
  pur Try.prog (binS .add 3 false true v_i_2 (.int .i64 1)) fun t160 => 
  pur Try.prog (binS .sub 3 false true v_j_2 (.int .i64 1)) fun t162 => 
  J_2 t160 t162 w_111) w_110) (World.drew w_107)) (World.drew w_107)) (World.drew w_107)))) w_105) w_103) w_100) w_98) w_96) w_94) w_92) w_90) w_88) w_86) w_84) (World.drew w_82)) [v_j_1] w_81)) w_79) w_76) w_74) w_72) w_70) w_68) w_66) w_64) w_62) w_60) (World.drew w_58)) [v_i_1] w_57) [t102, t104] w_56) w_55) (World.drew w_52)) (World.drew w_52)) (World.drew w_52)))) w_50) w_48) w_45) w_43) w_41) w_39) w_37) w_35) w_33) w_31) w_29) (World.drew w_27)) [t31] w_26)) w_24) w_21) w_19) w_17) w_15) w_13) w_11) w_9) w_7) w_5) (World.drew w_3)) [t29] w_2) w_1) (World.drew w)) (World.drew w)) (World.drew w)
theorem eq56 (v_data v_a v_b v_pivot v_cmp : Value) (Q : Value → World → Prop) (w : World) : semF Try.prog 56 [v_data, v_a, v_b, v_pivot, v_cmp] Q w = S56 v_data v_a v_b v_pivot v_cmp Q w := by kernel_rfl
theorem ref56 {v_data v_a v_b v_pivot v_cmp : Value} {Q : Value → World → Prop} {w : World} (h : S56 v_data v_a v_b v_pivot v_cmp Q w) : callS Try.prog 56 #[v_data, v_a, v_b, v_pivot, v_cmp] Q w :=
  callS_of mix (fun a w => Try.call56 a w) (by kernel_rfl) (by rw [eq56]; exact h)
-- math/bits.Len32
def S57 (v_x : Value) (Q : Value → World → Prop) (w : World) : Prop :=
 jn 2 (fun J => 
  pur Try.prog (binS .geq 96 false true v_x (.int .u32 65536)) fun t4 => 
  condS t4
   (pur Try.prog (binS .shr 96 false true v_x (.int .u64 16)) fun t6 => 
   J t6 (.int .i64 16) w)
   (J v_x (.int .i64 0) w))
 (fun v_x_1 v_n w_1 => ∀ _j : Fr, 
  jn 2 (fun J_1 => 
   pur Try.prog (binS .geq 96 false true v_x_1 (.int .u32 256)) fun t8 => 
   condS t8
    (pur Try.prog (binS .shr 96 false true v_x_1 (.int .u64 8)) fun t10 => 
    pur Try.prog (binS .add 3 false true v_n (.int .i64 8)) fun t12 => 
    J_1 t10 t12 w_1)
    (J_1 v_x_1 v_n w_1))
  (fun v_x_2 v_n_1 w_2 => ∀ _j : Fr, 
   pur Try.prog (convert 96 5 v_x_2) fun t15 => 
   pur Try.prog (Instr.index 9 (.string ⟨#[0, 1, 2, 2, 3, 3, 3, 3, 4, 4, 4, 4, 4, 4, 4, 4, 5, 5, 5, 5, 5, 5, 5, 5, 5, 5, 5, 5, 5, 5, 5, 5, 6, 6, 6, 6, 6, 6, 6, 6, 6, 6, 6, 6, 6, 6, 6, 6, 6, 6, 6, 6, 6, 6, 6, 6, 6, 6, 6, 6, 6, 6, 6, 6, 7, 7, 7, 7, 7, 7, 7, 7, 7, 7, 7, 7, 7, 7, 7, 7, 7, 7, 7, 7, 7, 7, 7, 7, 7, 7, 7, 7, 7, 7, 7, 7, 7, 7, 7, 7, 7, 7, 7, 7, 7, 7, 7, 7, 7, 7, 7, 7, 7, 7, 7, 7, 7, 7, 7, 7, 7, 7, 7, 7, 7, 7, 7, 7, 8, 8, 8, 8, 8, 8, 8, 8, 8, 8, 8, 8, 8, 8, 8, 8, 8, 8, 8, 8, 8, 8, 8, 8, 8, 8, 8, 8, 8, 8, 8, 8, 8, 8, 8, 8, 8, 8, 8, 8, 8, 8, 8, 8, 8, 8, 8, 8, 8, 8, 8, 8, 8, 8, 8, 8, 8, 8, 8, 8, 8, 8, 8, 8, 8, 8, 8, 8, 8, 8, 8, 8, 8, 8, 8, 8, 8, 8, 8, 8, 8, 8, 8, 8, 8, 8, 8, 8, 8, 8, 8, 8, 8, 8, 8, 8, 8, 8, 8, 8, 8, 8, 8, 8, 8, 8, 8, 8, 8, 8, 8, 8, 8, 8, 8, 8, 8, 8, 8, 8, 8, 8, 8, 8, 8, 8, 8, 8]⟩) t15) fun t16 => 
   pur Try.prog (convert 5 3 t16) fun t17 => 
   pur Try.prog (binS .add 3 false false v_n_1 t17) fun t18 => 
   Q t18 w_2))
theorem eq57 (v_x : Value) (Q : Value → World → Prop) (w : World) : semF Try.prog 57 [v_x] Q w = S57 v_x Q w := by kernel_rfl
theorem ref57 {v_x : Value} {Q : Value → World → Prop} {w : World} (h : S57 v_x Q w) : callS Try.prog 57 #[v_x] Q w :=
  callS_of mix (fun a w => Try.call57 a w) (by kernel_rfl) (by rw [eq57]; exact h)
-- math/bits.Len64
def S58 (v_x : Value) (Q : Value → World → Prop) (w : World) : Prop :=
 jn 2 (fun J => 
  pur Try.prog (binS .geq 98 false true v_x (.int .u64 4294967296)) fun t4 => 
  condS t4
   (pur Try.prog (binS .shr 98 false true v_x (.int .u64 32)) fun t6 => 
   J t6 (.int .i64 32) w)
   (J v_x (.int .i64 0) w))
 (fun v_x_1 v_n w_1 => ∀ _j : Fr, 
  jn 2 (fun J_1 => 
   pur Try.prog (binS .geq 98 false true v_x_1 (.int .u64 65536)) fun t8 => 
   condS t8
    (pur Try.prog (binS .shr 98 false true v_x_1 (.int .u64 16)) fun t10 => 
    pur Try.prog (binS .add 3 false true v_n (.int .i64 16)) fun t12 => 
    J_1 t10 t12 w_1)
    (J_1 v_x_1 v_n w_1))
  (fun v_x_2 v_n_1 w_2 => ∀ _j : Fr, 
   jn 2 (fun J_2 => 
    pur Try.prog (binS .geq 98 false true v_x_2 (.int .u64 256)) fun t14 => 
    condS t14
     (pur Try.prog (binS .shr 98 false true v_x_2 (.int .u64 8)) fun t16 => 
     pur Try.prog (binS .add 3 false true v_n_1 (.int .i64 8)) fun t18 => 
     J_2 t16 t18 w_2)
     (J_2 v_x_2 v_n_1 w_2))
   (fun v_x_3 v_n_2 w_3 => ∀ _j : Fr, 
    pur Try.prog (convert 98 5 v_x_3) fun t21 => 
    pur Try.prog (Instr.index 9 (.string ⟨#[0, 1, 2, 2, 3, 3, 3, 3, 4, 4, 4, 4, 4, 4, 4, 4, 5, 5, 5, 5, 5, 5, 5, 5, 5, 5, 5, 5, 5, 5, 5, 5, 6, 6, 6, 6, 6, 6, 6, 6, 6, 6, 6, 6, 6, 6, 6, 6, 6, 6, 6, 6, 6, 6, 6, 6, 6, 6, 6, 6, 6, 6, 6, 6, 7, 7, 7, 7, 7, 7, 7, 7, 7, 7, 7, 7, 7, 7, 7, 7, 7, 7, 7, 7, 7, 7, 7, 7, 7, 7, 7, 7, 7, 7, 7, 7, 7, 7, 7, 7, 7, 7, 7, 7, 7, 7, 7, 7, 7, 7, 7, 7, 7, 7, 7, 7, 7, 7, 7, 7, 7, 7, 7, 7, 7, 7, 7, 7, 8, 8, 8, 8, 8, 8, 8, 8, 8, 8, 8, 8, 8, 8, 8, 8, 8, 8, 8, 8, 8, 8, 8, 8, 8, 8, 8, 8, 8, 8, 8, 8, 8, 8, 8, 8, 8, 8, 8, 8, 8, 8, 8, 8, 8, 8, 8, 8, 8, 8, 8, 8, 8, 8, 8, 8, 8, 8, 8, 8, 8, 8, 8, 8, 8, 8, 8, 8, 8, 8, 8, 8, 8, 8, 8, 8, 8, 8, 8, 8, 8, 8, 8, 8, 8, 8, 8, 8, 8, 8, 8, 8, 8, 8, 8, 8, 8, 8, 8, 8, 8, 8, 8, 8, 8, 8, 8, 8, 8, 8, 8, 8, 8, 8, 8, 8, 8, 8, 8, 8, 8, 8, 8, 8, 8, 8, 8, 8]⟩) t21) fun t22 => 
    pur Try.prog (convert 5 3 t22) fun t23 => 
    pur Try.prog (binS .add 3 false false v_n_2 t23) fun t24 => 
    Q t24 w_3)))
theorem eq58 (v_x : Value) (Q : Value → World → Prop) (w : World) : semF Try.prog 58 [v_x] Q w = S58 v_x Q w := by kernel_rfl
theorem ref58 {v_x : Value} {Q : Value → World → Prop} {w : World} (h : S58 v_x Q w) : callS Try.prog 58 #[v_x] Q w :=
  callS_of mix (fun a w => Try.call58 a w) (by kernel_rfl) (by rw [eq58]; exact h)
-- slices.insertionSortCmpFunc[*commons/heap.item[int]]
def S59 (v_data v_a v_b v_cmp : Value) (Q : Value → World → Prop) (w : World) : Prop :=
 pur Try.prog (binS .add 3 false true v_a (.int .i64 1)) fun t11 => 
 lp 1 (fun J => fun v_i w_1 => ∀ _j : Fr, 
  pur Try.prog (binS .lss 3 false false v_i v_b) fun t14 => 
  condS t14
   (lp 1 (fun J_1 => fun v_j w_2 => ∀ _j : Fr, 
   pur Try.prog (binS .gtr 3 false false v_j v_a) fun t20 => 
   gd t20 true (fun k w_3 => k v_cmp w_3) (fun t22_1 w_4 => 
   gd t20 true (fun k_1 w_5 => k_1 v_data w_5) (fun t23_1 w_6 => 
   gd t20 true (fun k_2 w_7 => k_2 v_j w_7) (fun t24_1 w_8 => 
   gd t20 true (fun k_3 w_9 => pur Try.prog (Instr.indexAt 49 t23_1 t24_1) fun t25 => k_3 t25 w_9) (fun t25_1 w_10 => 
   gd t20 true (fun k_4 w_11 => rd Try.prog (Instr.loadAt 53 t25_1) (fun t26 => k_4 t26 w_11) w_11) (fun t26_1 w_12 => 
   gd t20 true (fun k_5 w_13 => k_5 v_data w_13) (fun t27_1 w_14 => 
   gd t20 true (fun k_6 w_15 => k_6 v_j w_15) (fun t28_1 w_16 => 
   gd t20 true (fun k_7 w_17 => pur Try.prog (binS .sub 3 false true t28_1 (.int .i64 1)) fun t29 => k_7 t29 w_17) (fun t29_1 w_18 => 
   gd t20 true (fun k_8 w_19 => pur Try.prog (Instr.indexAt 49 t27_1 t29_1) fun t30 => k_8 t30 w_19) (fun t30_1 w_20 => 
   gd t20 true (fun k_9 w_21 => rd Try.prog (Instr.loadAt 53 t30_1) (fun t31 => k_9 t31 w_21) w_21) (fun t31_1 w_22 => 
   gd t20 true (fun k_10 w_23 => callF Try.prog t22_1 #[t26_1, t31_1] (fun t32 w_24 => k_10 t32 w_24) w_23) (fun t32_1 w_25 => 
   gd t20 true (fun k_11 w_26 => pur Try.prog (binS .lss 3 false true t32_1 (.int .i64 0)) fun t33 => k_11 t33 w_26) (fun t33_1 w_27 => 
   pur Try.prog (pickS t20 t33_1 (.bool false)) fun t34 => 
   condS t34
    (pur Try.prog (binS .sub 3 false true v_j (.int .i64 1)) fun t41 => 
   pur Try.prog (binS .sub 3 false true v_j (.int .i64 1)) fun t44 => 
   pur Try.prog (Instr.indexAt 49 v_data t44) fun t45 => 
   rd Try.prog (Instr.loadAt 53 t45) (fun t46 => 
   pur Try.prog (Instr.indexAt 49 v_data v_j) fun t49 => 
   rd Try.prog (Instr.loadAt 53 t49) (fun t50 => 
   pur Try.prog (Instr.indexAt 49 v_data v_j) fun t51 => 
   act Try.prog (thenU (Instr.storeAt 53 t51 t46)) (fun _ w_28 => 
   pur Try.prog (Instr.indexAt 49 v_data t41) fun t52 => 
   act Try.prog (thenU (Instr.storeAt 53 t52 t50)) (fun _ w_29 => 
   pur Try.prog (binS .sub 3 false true v_j (.int .i64 1)) fun t36 => 
   J_1 t36 w_29) w_28) (World.drew w_27)) (World.drew w_27)) (World.drew w_27))
    (pur Try.prog (binS .add 3 false true v_i (.int .i64 1)) fun t16 => 
  J t16 w_27)) w_25) w_22) w_20) w_18) w_16) w_14) w_12) w_10) w_8) w_6) w_4) (World.drew w_2)) [v_i] w_1)
   (Q (.tuple #[]) w_1)) [t11] w
theorem eq59 (v_data v_a v_b v_cmp : Value) (Q : Value → World → Prop) (w : World) : semF Try.prog 59 [v_data, v_a, v_b, v_cmp] Q w = S59 v_data v_a v_b v_cmp Q w := by kernel_rfl
theorem ref59 {v_data v_a v_b v_cmp : Value} {Q : Value → World → Prop} {w : World} (h : S59 v_data v_a v_b v_cmp Q w) : callS Try.prog 59 #[v_data, v_a, v_b, v_cmp] Q w :=
  callS_of mix (fun a w => Try.call59 a w) (by kernel_rfl) (by rw [eq59]; exact h)
-- slices.heapSortCmpFunc[*commons/heap.item[int]]
def S60 (v_data v_a v_b v_cmp : Value) (Q : Value → World → Prop) (w : World) : Prop :=
 pur Try.prog (binS .sub 3 false false v_b v_a) fun t16 => 
 pur Try.prog (binS .sub 3 false true t16 (.int .i64 1)) fun t18 => 
 pur Try.prog (binS .quo 3 false true t18 (.int .i64 2)) fun t19 => 
 lp 1 (fun J => fun v_i w_1 => ∀ _j : Fr, 
  pur Try.prog (binS .geq 3 false true v_i (.int .i64 0)) fun t21 => 
  condS t21
   (callS Try.prog 72 #[v_data, v_i, t16, v_a, v_cmp] (fun _ w_2 => 
  pur Try.prog (binS .sub 3 false true v_i (.int .i64 1)) fun t23 => 
  J t23 w_2) w_1)
   (pur Try.prog (binS .sub 3 false true t16 (.int .i64 1)) fun t31 => 
 lp 1 (fun J_1 => fun v_i_1 w_3 => ∀ _j : Fr, 
  pur Try.prog (binS .geq 3 false true v_i_1 (.int .i64 0)) fun t33 => 
  condS t33
   (pur Try.prog (binS .add 3 false false v_a v_i_1) fun t41 => 
  pur Try.prog (binS .add 3 false false v_a v_i_1) fun t45 => 
  pur Try.prog (Instr.indexAt 49 v_data t45) fun t46 => 
  rd Try.prog (Instr.loadAt 53 t46) (fun t47 => 
  pur Try.prog (Instr.indexAt 49 v_data v_a) fun t50 => 
  rd Try.prog (Instr.loadAt 53 t50) (fun t51 => 
  pur Try.prog (Instr.indexAt 49 v_data v_a) fun t52 => 
  act Try.prog (thenU (Instr.storeAt 53 t52 t47)) (fun _ w_4 => 
  pur Try.prog (Instr.indexAt 49 v_data t41) fun t53 => 
  act Try.prog (thenU (Instr.storeAt 53 t53 t51)) (fun _ w_5 => 
  callS Try.prog 72 #[v_data, (.int .i64 0), v_i_1, v_a, v_cmp] (fun _ w_6 => 
  pur Try.prog (binS .sub 3 false true v_i_1 (.int .i64 1)) fun t35 => 
  J_1 t35 w_6) w_5) w_4) (World.drew w_3)) (World.drew w_3)) (World.drew w_3))
   (Q (.tuple #[]) w_3)) [t31] w_1)) [t19] w
theorem eq60 (v_data v_a v_b v_cmp : Value) (Q : Value → World → Prop) (w : World) : semF Try.prog 60 [v_data, v_a, v_b, v_cmp] Q w = S60 v_data v_a v_b v_cmp Q w := by kernel_rfl
theorem ref60 {v_data v_a v_b v_cmp : Value} {Q : Value → World → Prop} {w : World} (h : S60 v_data v_a v_b v_cmp Q w) : callS Try.prog 60 #[v_data, v_a, v_b, v_cmp] Q w :=
  callS_of mix (fun a w => Try.call60 a w) (by kernel_rfl) (by rw [eq60]; exact h)
-- slices.breakPatternsCmpFunc[*commons/heap.item[int]]
def S61 (v_data v_a v_b _ : Value) (Q : Value → World → Prop) (w : World) : Prop :=
 pur Try.prog (binS .sub 3 false false v_b v_a) fun t15 => 
 pur Try.prog (binS .geq 3 false true t15 (.int .i64 8)) fun t17 => 
 condS t17
  (pur Try.prog (convert 3 104 t15) fun t19 => 
  act Try.prog (Instr.alloc 104 true (.tuple #[])) (fun t9 w_1 => 
  act Try.prog (thenU (Instr.storeAt 104 t9 t19)) (fun _ w_2 => 
  callS Try.prog 68 #[t15] (fun t21 w_3 => 
  pur Try.prog (binS .quo 3 false true t15 (.int .i64 4)) fun t24 => 
  pur Try.prog (binS .mul 3 false true t24 (.int .i64 2)) fun t25 => 
  pur Try.prog (binS .add 3 false false v_a t25) fun t26 => 
  pur Try.prog (binS .sub 3 false true t26 (.int .i64 1)) fun t27 => 
  lp 1 (fun J => fun v_idx w_4 => ∀ _j : Fr, 
   pur Try.prog (binS .quo 3 false true t15 (.int .i64 4)) fun t31 => 
   pur Try.prog (binS .mul 3 false true t31 (.int .i64 2)) fun t32 => 
   pur Try.prog (binS .add 3 false false v_a t32) fun t33 => 
   pur Try.prog (binS .add 3 false true t33 (.int .i64 1)) fun t34 => 
   pur Try.prog (binS .leq 3 false false v_idx t34) fun t35 => 
   condS t35
    (callS Try.prog 69 #[t9] (fun t38 w_5 => 
   pur Try.prog (binS .sub 85 false true t21 (.int .u64 1)) fun t40 => 
   pur Try.prog (binS .and 85 false false t38 t40) fun t41 => 
   pur Try.prog (convert 85 3 t41) fun t42 => 
   jn 1 (fun J_1 => 
    pur Try.prog (binS .geq 3 false false t42 t15) fun t45 => 
    condS t45
     (pur Try.prog (binS .sub 3 false false t42 t15) fun t48 => 
     J_1 t48 w_5)
     (J_1 t42 w_5))
   (fun v_other w_6 => ∀ _j : Fr, 
    pur Try.prog (binS .add 3 false false v_a v_other) fun t54 => 
    pur Try.prog (binS .add 3 false false v_a v_other) fun t58 => 
    pur Try.prog (Instr.indexAt 49 v_data t58) fun t59 => 
    rd Try.prog (Instr.loadAt 53 t59) (fun t60 => 
    pur Try.prog (Instr.indexAt 49 v_data v_idx) fun t63 => 
    rd Try.prog (Instr.loadAt 53 t63) (fun t64 => 
    pur Try.prog (Instr.indexAt 49 v_data v_idx) fun t65 => 
    act Try.prog (thenU (Instr.storeAt 53 t65 t60)) (fun _ w_7 => 
    pur Try.prog (Instr.indexAt 49 v_data t54) fun t66 => 
    act Try.prog (thenU (Instr.storeAt 53 t66 t64)) (fun _ w_8 => 
    pur Try.prog (binS .add 3 false true v_idx (.int .i64 1)) fun t37 => 
   J t37 w_8) w_7) (World.drew w_6)) (World.drew w_6)) (World.drew w_6))) w_4)
    (Q (.tuple #[]) w_4)) [t27] w_3) w_2) w_1) w)
  (Q (.tuple #[]) w)
theorem eq61 (v_data v_a v_b v_cmp : Value) (Q : Value → World → Prop) (w : World) : semF Try.prog 61 [v_data, v_a, v_b, v_cmp] Q w = S61 v_data v_a v_b v_cmp Q w := by kernel_rfl
theorem ref61 {v_data v_a v_b v_cmp : Value} {Q : Value → World → Prop} {w : World} (h : S61 v_data v_a v_b v_cmp Q w) : callS Try.prog 61 #[v_data, v_a, v_b, v_cmp] Q w :=
  callS_of mix (fun a w => Try.call61 a w) (by kernel_rfl) (by rw [eq61]; exact h)
-- slices.choosePivotCmpFunc[*commons/heap.item[int]]
def S62 (v_data v_a v_b v_cmp : Value) (Q : Value → World → Prop) (w : World) : Prop :=
 pur Try.prog (binS .sub 3 false false v_b v_a) fun t17 => 
 act Try.prog (Instr.alloc 3 true (.tuple #[])) (fun t11 w_1 => 
 pur Try.prog (binS .quo 3 false true t17 (.int .i64 4)) fun t20 => 
 pur Try.prog (binS .mul 3 false true t20 (.int .i64 1)) fun t21 => 
 pur Try.prog (binS .add 3 false false v_a t21) fun t22 => 
 pur Try.prog (binS .quo 3 false true t17 (.int .i64 4)) fun t25 => 
 pur Try.prog (binS .mul 3 false true t25 (.int .i64 2)) fun t26 => 
 pur Try.prog (binS .add 3 false false v_a t26) fun t27 => 
 pur Try.prog (binS .quo 3 false true t17 (.int .i64 4)) fun t30 => 
 pur Try.prog (binS .mul 3 false true t30 (.int .i64 3)) fun t31 => 
 pur Try.prog (binS .add 3 false false v_a t31) fun t32 => 
 jn 1 (fun J => 
  pur Try.prog (binS .geq 3 false true t17 (.int .i64 8)) fun t34 => 
  condS t34
   (jn 3 (fun J_1 => 
    pur Try.prog (binS .geq 3 false true t17 (.int .i64 50)) fun t36 => 
    condS t36
     (callS Try.prog 73 #[v_data, t22, t11, v_cmp] (fun t40 w_2 => 
     callS Try.prog 73 #[v_data, t27, t11, v_cmp] (fun t44 w_3 => 
     callS Try.prog 73 #[v_data, t32, t11, v_cmp] (fun t48 w_4 => 
     J_1 t40 t44 t48 w_4) w_3) w_2) w_1)
     (J_1 t22 t27 t32 w_1))
   (fun v_i v_j v_k w_5 => ∀ _j : Fr, 
    callS Try.prog 74 #[v_data, v_i, v_j, v_k, t11, v_cmp] (fun t54 w_6 => 
    J t54 w_6) w_5))
   (J t27 w_1))
 (fun v_j_1 w_7 => ∀ _j : Fr, 
  rd Try.prog (Instr.loadAt 3 t11) (fun t55 => 
  pur Try.prog (binS .eql 3 false true t55 (.int .i64 0)) fun t58 => 
  condS t58
   (Q (.tuple #[v_j_1, (.int .i64 1)]) w_7)
   (pur Try.prog (binS .eql 3 false true t55 (.int .i64 12)) fun t61 => 
   condS t61
    (Q (.tuple #[v_j_1, (.int .i64 2)]) w_7)
    (Q (.tuple #[v_j_1, (.int .i64 0)]) w_7))) w_7)) w
theorem eq62 (v_data v_a v_b v_cmp : Value) (Q : Value → World → Prop) (w : World) : semF Try.prog 62 [v_data, v_a, v_b, v_cmp] Q w = S62 v_data v_a v_b v_cmp Q w := by kernel_rfl
theorem ref62 {v_data v_a v_b v_cmp : Value} {Q : Value → World → Prop} {w : World} (h : S62 v_data v_a v_b v_cmp Q w) : callS Try.prog 62 #[v_data, v_a, v_b, v_cmp] Q w :=
  callS_of mix (fun a w => Try.call62 a w) (by kernel_rfl) (by rw [eq62]; exact h)
-- slices.reverseRangeCmpFunc[*commons/heap.item[int]]
def S63 (v_data v_a v_b _ : Value) (Q : Value → World → Prop) (w : World) : Prop :=
 pur Try.prog (binS .sub 3 false true v_b (.int .i64 1)) fun t12 => 
 lp 2 (fun J => fun v_i v_j w_1 => ∀ _j : Fr, 
  pur Try.prog (binS .lss 3 false false v_i v_j) fun t15 => 
  condS t15
   (pur Try.prog (Instr.indexAt 49 v_data v_j) fun t22 => 
  rd Try.prog (Instr.loadAt 53 t22) (fun t23 => 
  pur Try.prog (Instr.indexAt 49 v_data v_i) fun t26 => 
  rd Try.prog (Instr.loadAt 53 t26) (fun t27 => 
  pur Try.prog (Instr.indexAt 49 v_data v_i) fun t28 => 
  act Try.prog (thenU (Instr.storeAt 53 t28 t23)) (fun _ w_2 => 
  pur Try.prog (Instr.indexAt 49 v_data v_j) fun t29 => 
  act Try.prog (thenU (Instr.storeAt 53 t29 t27)) (fun _ w_3 => 
  pur Try.prog (binS .add 3 false true v_i (.int .i64 1)) fun t31 => 
  pur Try.prog (binS .sub 3 false true v_j (.int .i64 1)) fun t33 => 
  J t31 t33 w_3) w_2) (World.drew w_1)) (World.drew w_1)) (World.drew w_1))
   (Q (.tuple #[]) w_1)) [v_a, t12] w
theorem eq63 (v_data v_a v_b v_cmp : Value) (Q : Value → World → Prop) (w : World) : semF Try.prog 63 [v_data, v_a, v_b, v_cmp] Q w = S63 v_data v_a v_b v_cmp Q w := by kernel_rfl
theorem ref63 {v_data v_a v_b v_cmp : Value} {Q : Value → World → Prop} {w : World} (h : S63 v_data v_a v_b v_cmp Q w) : callS Try.prog 63 #[v_data, v_a, v_b, v_cmp] Q w :=
  callS_of mix (fun a w => Try.call63 a w) (by kernel_rfl) (by rw [eq63]; exact h)
-- slices.partialInsertionSortCmpFunc[*commons/heap.item[int]]
def S64 (v_data v_a v_b v_cmp : Value) (Q : Value → World → Prop) (w : World) : Prop :=
 pur Try.prog (binS .add 3 false true v_a (.int .i64 1)) fun t14 => 
 lp 2 (fun J => fun v_i v_j w_1 => ∀ _j : Fr, 
  pur Try.prog (binS .lss 3 false true v_j (.int .i64 5)) fun t16 => 
  condS t16
   (jn 1 (fun J_1 => 
   lp 1 (fun J_2 => fun v_i_1 w_2 => ∀ _j : Fr, 
    pur Try.prog (binS .lss 3 false false v_i_1 v_b) fun t21 => 
    gd t21 true (fun k w_3 => k v_cmp w_3) (fun t23_1 w_4 => 
    gd t21 true (fun k_1 w_5 => k_1 v_data w_5) (fun t24_1 w_6 => 
    gd t21 true (fun k_2 w_7 => k_2 v_i_1 w_7) (fun t25_1 w_8 => 
    gd t21 true (fun k_3 w_9 => pur Try.prog (Instr.indexAt 49 t24_1 t25_1) fun t26 => k_3 t26 w_9) (fun t26_1 w_10 => 
    gd t21 true (fun k_4 w_11 => rd Try.prog (Instr.loadAt 53 t26_1) (fun t27 => k_4 t27 w_11) w_11) (fun t27_1 w_12 => 
    gd t21 true (fun k_5 w_13 => k_5 v_data w_13) (fun t28_1 w_14 => 
    gd t21 true (fun k_6 w_15 => k_6 v_i_1 w_15) (fun t29_1 w_16 => 
    gd t21 true (fun k_7 w_17 => pur Try.prog (binS .sub 3 false true t29_1 (.int .i64 1)) fun t30 => k_7 t30 w_17) (fun t30_1 w_18 => 
    gd t21 true (fun k_8 w_19 => pur Try.prog (Instr.indexAt 49 t28_1 t30_1) fun t31 => k_8 t31 w_19) (fun t31_1 w_20 => 
    gd t21 true (fun k_9 w_21 => rd Try.prog (Instr.loadAt 53 t31_1) (fun t32 => k_9 t32 w_21) w_21) (fun t32_1 w_22 => 
    gd t21 true (fun k_10 w_23 => callF Try.prog t23_1 #[t27_1, t32_1] (fun t33 w_24 => k_10 t33 w_24) w_23) (fun t33_1 w_25 => 
    gd t21 true (fun k_11 w_26 => pur Try.prog (binS .lss 3 false true t33_1 (.int .i64 0)) fun t34 => k_11 t34 w_26) (fun t34_1 w_27 => 
    gd t21 true (fun k_12 w_28 => pur Try.prog (Op.unary .not t34_1) fun t35 => k_12 t35 w_28) (fun t35_1 w_29 => 
    pur Try.prog (pickS t21 t35_1 (.bool false)) fun t36 => 
    condS t36
     (pur Try.prog (binS .add 3 false true v_i_1 (.int .i64 1)) fun t38 => 
    J_2 t38 w_29)
     (pur Try.prog (binS .eql 3 false false v_i_1 v_b) fun t41 => 
   condS t41
    (Q (.bool true) w_29)
    (pur Try.prog (binS .sub 3 false false v_b v_a) fun t44 => 
   pur Try.prog (binS .lss 3 false true t44 (.int .i64 50)) fun t45 => 
   condS t45
    (Q (.bool false) w_29)
    (pur Try.prog (binS .sub 3 false true v_i_1 (.int .i64 1)) fun t50 => 
   pur Try.prog (binS .sub 3 false true v_i_1 (.int .i64 1)) fun t53 => 
   pur Try.prog (Instr.indexAt 49 v_data t53) fun t54 => 
   rd Try.prog (Instr.loadAt 53 t54) (fun t55 => 
   pur Try.prog (Instr.indexAt 49 v_data v_i_1) fun t58 => 
   rd Try.prog (Instr.loadAt 53 t58) (fun t59 => 
   pur Try.prog (Instr.indexAt 49 v_data v_i_1) fun t60 => 
   act Try.prog (thenU (Instr.storeAt 53 t60 t55)) (fun _ w_30 => 
   pur Try.prog (Instr.indexAt 49 v_data t50) fun t61 => 
   act Try.prog (thenU (Instr.storeAt 53 t61 t59)) (fun _ w_31 => 
   jn 0 (fun J_3 => 
    pur Try.prog (binS .sub 3 false false v_i_1 v_a) fun t64 => 
    pur Try.prog (binS .geq 3 false true t64 (.int .i64 2)) fun t65 => 
    condS t65
     (pur Try.prog (binS .sub 3 false true v_i_1 (.int .i64 1)) fun t67 => 
     lp 1 (fun J_4 => fun v_j_1 w_32 => ∀ _j : Fr, 
      pur Try.prog (binS .geq 3 false true v_j_1 (.int .i64 1)) fun t69 => 
      condS t69
       (pur Try.prog (Instr.indexAt 49 v_data v_j_1) fun t75 => 
      rd Try.prog (Instr.loadAt 53 t75) (fun t76 => 
      pur Try.prog (binS .sub 3 false true v_j_1 (.int .i64 1)) fun t79 => 
      pur Try.prog (Instr.indexAt 49 v_data t79) fun t80 => 
      rd Try.prog (Instr.loadAt 53 t80) (fun t81 => 
      callF Try.prog v_cmp #[t76, t81] (fun t82 w_33 => 
      pur Try.prog (binS .lss 3 false true t82 (.int .i64 0)) fun t83 => 
      pur Try.prog (Op.unary .not t83) fun t84 => 
      condS t84
       (J_3  w_33)
       (pur Try.prog (binS .sub 3 false true v_j_1 (.int .i64 1)) fun t89 => 
      pur Try.prog (binS .sub 3 false true v_j_1 (.int .i64 1)) fun t92 => 
      pur Try.prog (Instr.indexAt 49 v_data t92) fun t93 => 
      rd Try.prog (Instr.loadAt 53 t93) (fun t94 => 
      pur Try.prog (Instr.indexAt 49 v_data v_j_1) fun t97 => 
      rd Try.prog (Instr.loadAt 53 t97) (fun t98 => 
      pur Try.prog (Instr.indexAt 49 v_data v_j_1) fun t99 => 
      act Try.prog (thenU (Instr.storeAt 53 t99 t94)) (fun _ w_34 => 
      pur Try.prog (Instr.indexAt 49 v_data t89) fun t100 => 
      act Try.prog (thenU (Instr.storeAt 53 t100 t98)) (fun _ w_35 => 
      pur Try.prog (binS .sub 3 false true v_j_1 (.int .i64 1)) fun t71 => 
      J_4 t71 w_35) w_34) (World.drew w_33)) (World.drew w_33)) (World.drew w_33))) (World.drew w_32)) (World.drew w_32)) (World.drew w_32))
       (J_3  w_32)) [t67] w_31)
     (J_3  w_31))
   (fun  w_36 => ∀ _j : Fr, 
    pur Try.prog (binS .sub 3 false false v_b v_i_1) fun t103 => 
    pur Try.prog (binS .geq 3 false true t103 (.int .i64 2)) fun t104 => 
    condS t104
     (pur Try.prog (binS .add 3 false true v_i_1 (.int .i64 1)) fun t106 => 
     lp 1 (fun J_5 => fun v_j_2 w_37 => ∀ _j : Fr, 
      pur Try.prog (binS .lss 3 false false v_j_2 v_b) fun t109 => 
      condS t109
       (pur Try.prog (Instr.indexAt 49 v_data v_j_2) fun t115 => 
      rd Try.prog (Instr.loadAt 53 t115) (fun t116 => 
      pur Try.prog (binS .sub 3 false true v_j_2 (.int .i64 1)) fun t119 => 
      pur Try.prog (Instr.indexAt 49 v_data t119) fun t120 => 
      rd Try.prog (Instr.loadAt 53 t120) (fun t121 => 
      callF Try.prog v_cmp #[t116, t121] (fun t122 w_38 => 
      pur Try.prog (binS .lss 3 false true t122 (.int .i64 0)) fun t123 => 
      pur Try.prog (Op.unary .not t123) fun t124 => 
      condS t124
       (J_1 v_i_1 w_38)
       (pur Try.prog (binS .sub 3 false true v_j_2 (.int .i64 1)) fun t129 => 
      pur Try.prog (binS .sub 3 false true v_j_2 (.int .i64 1)) fun t132 => 
      pur Try.prog (Instr.indexAt 49 v_data t132) fun t133 => 
      rd Try.prog (Instr.loadAt 53 t133) (fun t134 => 
      pur Try.prog (Instr.indexAt 49 v_data v_j_2) fun t137 => 
      rd Try.prog (Instr.loadAt 53 t137) (fun t138 => 
      pur Try.prog (Instr.indexAt 49 v_data v_j_2) fun t139 => 
      act Try.prog (thenU (Instr.storeAt 53 t139 t134)) (fun _ w_39 => 
      pur Try.prog (Instr.indexAt 49 v_data t129) fun t140 => 
      act Try.prog (thenU (Instr.storeAt 53 t140 t138)) (fun _ w_40 => 
      pur Try.prog (binS .add 3 false true v_j_2 (.int .i64 1)) fun t111 => 
      J_5 t111 w_40) w_39) (World.drew w_38)) (World.drew w_38)) (World.drew w_38))) (World.drew w_37)) (World.drew w_37)) (World.drew w_37))
       (J_1 v_i_1 w_37)) [t106] w_36)
     (J_1 v_i_1 w_36))) w_30) (World.drew w_29)) (World.drew w_29)) (World.drew w_29))))) w_27) w_25) w_22) w_20) w_18) w_16) w_14) w_12) w_10) w_8) w_6) w_4) (World.drew w_2)) [v_i] w_1)
  (fun v_i_2 w_41 => ∀ _j : Fr, 
   pur Try.prog (binS .add 3 false true v_j (.int .i64 1)) fun t18 => 
   J v_i_2 t18 w_41))
   (Q (.bool false) w_1)) [t14, (.int .i64 0)] w
theorem eq64 (v_data v_a v_b v_cmp : Value) (Q : Value → World → Prop) (w : World) : semF Try.prog 64 [v_data, v_a, v_b, v_cmp] Q w = S64 v_data v_a v_b v_cmp Q w := by kernel_rfl
theorem ref64 {v_data v_a v_b v_cmp : Value} {Q : Value → World → Prop} {w : World} (h : S64 v_data v_a v_b v_cmp Q w) : callS Try.prog 64 #[v_data, v_a, v_b, v_cmp] Q w :=
  callS_of mix (fun a w => Try.call64 a w) (by kernel_rfl) (by rw [eq64]; exact h)
-- slices.partitionEqualCmpFunc[*commons/heap.item[int]]
def S65 (v_data v_a v_b v_pivot v_cmp : Value) (Q : Value → World → Prop) (w : World) : Prop :=
 pur Try.prog (Instr.indexAt 49 v_data v_pivot) fun t19 => 
 rd Try.prog (Instr.loadAt 53 t19) (fun t20 => 
 pur Try.prog (Instr.indexAt 49 v_data v_a) fun t23 => 
 rd Try.prog (Instr.loadAt 53 t23) (fun t24 => 
 pur Try.prog (Instr.indexAt 49 v_data v_a) fun t25 => 
 act Try.prog (thenU (Instr.storeAt 53 t25 t20)) (fun _ w_1 => 
 pur Try.prog (Instr.indexAt 49 v_data v_pivot) fun t26 => 
 act Try.prog (thenU (Instr.storeAt 53 t26 t24)) (fun _ w_2 => 
 pur Try.prog (binS .add 3 false true v_a (.int .i64 1)) fun t28 => 
 pur Try.prog (binS .sub 3 false true v_b (.int .i64 1)) fun t30 => 
 lp 2 (fun J => fun v_i v_j w_3 => ∀ _j : Fr, 
  lp 1 (fun J_1 => fun v_i_1 w_4 => ∀ _j : Fr, 
   pur Try.prog (binS .leq 3 false false v_i_1 v_j) fun t33 => 
   gd t33 true (fun k w_5 => k v_cmp w_5) (fun t35_1 w_6 => 
   gd t33 true (fun k_1 w_7 => k_1 v_data w_7) (fun t36_1 w_8 => 
   gd t33 true (fun k_2 w_9 => k_2 v_a w_9) (fun t37_1 w_10 => 
   gd t33 true (fun k_3 w_11 => pur Try.prog (Instr.indexAt 49 t36_1 t37_1) fun t38 => k_3 t38 w_11) (fun t38_1 w_12 => 
   gd t33 true (fun k_4 w_13 => rd Try.prog (Instr.loadAt 53 t38_1) (fun t39 => k_4 t39 w_13) w_13) (fun t39_1 w_14 => 
   gd t33 true (fun k_5 w_15 => k_5 v_data w_15) (fun t40_1 w_16 => 
   gd t33 true (fun k_6 w_17 => k_6 v_i_1 w_17) (fun t41_1 w_18 => 
   gd t33 true (fun k_7 w_19 => pur Try.prog (Instr.indexAt 49 t40_1 t41_1) fun t42 => k_7 t42 w_19) (fun t42_1 w_20 => 
   gd t33 true (fun k_8 w_21 => rd Try.prog (Instr.loadAt 53 t42_1) (fun t43 => k_8 t43 w_21) w_21) (fun t43_1 w_22 => 
   gd t33 true (fun k_9 w_23 => callF Try.prog t35_1 #[t39_1, t43_1] (fun t44 w_24 => k_9 t44 w_24) w_23) (fun t44_1 w_25 => 
   gd t33 true (fun k_10 w_26 => pur Try.prog (binS .lss 3 false true t44_1 (.int .i64 0)) fun t45 => k_10 t45 w_26) (fun t45_1 w_27 => 
   gd t33 true (fun k_11 w_28 => pur Try.prog (Op.unary .not t45_1) fun t46 => k_11 t46 w_28) (fun t46_1 w_29 => 
   pur Try.prog (pickS t33 t46_1 (.bool false)) fun t47 => 
   condS t47
    (pur Try.prog (binS .add 3 false true v_i_1 (.int .i64 1)) fun t49 => 
   J_1 t49 w_29)
    (lp 1 (fun J_2 => fun v_j_1 w_30 => ∀ _j : Fr, 
   pur Try.prog (binS .leq 3 false false v_i_1 v_j_1) fun t52 => 
   gd t52 true (fun k_12 w_31 => k_12 v_cmp w_31) (fun t54_1 w_32 => 
   gd t52 true (fun k_13 w_33 => k_13 v_data w_33) (fun t55_1 w_34 => 
   gd t52 true (fun k_14 w_35 => k_14 v_a w_35) (fun t56_1 w_36 => 
   gd t52 true (fun k_15 w_37 => pur Try.prog (Instr.indexAt 49 t55_1 t56_1) fun t57 => k_15 t57 w_37) (fun t57_1 w_38 => 
   gd t52 true (fun k_16 w_39 => rd Try.prog (Instr.loadAt 53 t57_1) (fun t58 => k_16 t58 w_39) w_39) (fun t58_1 w_40 => 
   gd t52 true (fun k_17 w_41 => k_17 v_data w_41) (fun t59_1 w_42 => 
   gd t52 true (fun k_18 w_43 => k_18 v_j_1 w_43) (fun t60_1 w_44 => 
   gd t52 true (fun k_19 w_45 => pur Try.prog (Instr.indexAt 49 t59_1 t60_1) fun t61 => k_19 t61 w_45) (fun t61_1 w_46 => 
   gd t52 true (fun k_20 w_47 => rd Try.prog (Instr.loadAt 53 t61_1) (fun t62 => k_20 t62 w_47) w_47) (fun t62_1 w_48 => 
   gd t52 true (fun k_21 w_49 => callF Try.prog t54_1 #[t58_1, t62_1] (fun t63 w_50 => k_21 t63 w_50) w_49) (fun t63_1 w_51 => 
   gd t52 true (fun k_22 w_52 => pur Try.prog (binS .lss 3 false true t63_1 (.int .i64 0)) fun t64 => k_22 t64 w_52) (fun t64_1 w_53 => 
   pur Try.prog (pickS t52 t64_1 (.bool false)) fun t65 => 
   condS t65
    (pur Try.prog (binS .sub 3 false true v_j_1 (.int .i64 1)) fun t67 => 
   J_2 t67 w_53)
    (pur Try.prog (binS .gtr 3 false false v_i_1 v_j_1) fun t70 => 
  condS t70
   (Q v_i_1 w_53)
   (pur Try.prog (Instr.indexAt 49 v_data v_j_1) fun t77 => 
  rd Try.prog (Instr.loadAt 53 t77) (fun t78 => 
  pur Try.prog (Instr.indexAt 49 v_data v_i_1) fun t81 => 
  rd Try.prog (Instr.loadAt 53 t81) (fun t82 => 
  pur Try.prog (Instr.indexAt 49 v_data v_i_1) fun t83 => 
  act Try.prog (thenU (Instr.storeAt 53 t83 t78)) (fun _ w_54 => 
  pur Try.prog (Instr.indexAt 49 v_data v_j_1) fun t84 => 
  act Try.prog (thenU (Instr.storeAt 53 t84 t82)) (fun _ w_55 => 
  pur Try.prog (binS .add 3 false true v_i_1 (.int .i64 1)) fun t86 => 
  pur Try.prog (binS .sub 3 false true v_j_1 (.int .i64 1)) fun t88 => 
  J t86 t88 w_55) w_54) (World.drew w_53)) (World.drew w_53)) (World.drew w_53)))) w_51) w_48) w_46) w_44) w_42) w_40) w_38) w_36) w_34) w_32) (World.drew w_30)) [v_j] w_29)) w_27) w_25) w_22) w_20) w_18) w_16) w_14) w_12) w_10) w_8) w_6) (World.drew w_4)) [v_i] w_3) [t28, t30] w_2) w_1) (World.drew w)) (World.drew w)) (World.drew w)
theorem eq65 (v_data v_a v_b v_pivot v_cmp : Value) (Q : Value → World → Prop) (w : World) : semF Try.prog 65 [v_data, v_a, v_b, v_pivot, v_cmp] Q w = S65 v_data v_a v_b v_pivot v_cmp Q w := by kernel_rfl
theorem ref65 {v_data v_a v_b v_pivot v_cmp : Value} {Q : Value → World → Prop} {w : World} (h : S65 v_data v_a v_b v_pivot v_cmp Q w) : callS Try.prog 65 #[v_data, v_a, v_b, v_pivot, v_cmp] Q w :=
  callS_of mix (fun a w => Try.call65 a w) (by kernel_rfl) (by rw [eq65]; exact h)
-- slices.partitionCmpFunc[*commons/heap.item[int]]
def S66 (v_data v_a v_b v_pivot v_cmp : Value) (Q : Value → World → Prop) (w : World) : Prop :=
 pur Try.prog (Instr.indexAt 49 v_data v_pivot) fun t20 => 
 rd Try.prog (Instr.loadAt 53 t20) (fun t21 => 
 pur Try.prog (Instr.indexAt 49 v_data v_a) fun t24 => 
 rd Try.prog (Instr.loadAt 53 t24) (fun t25 => 
 pur Try.prog (Instr.indexAt 49 v_data v_a) fun t26 => 
 act Try.prog (thenU (Instr.storeAt 53 t26 t21)) (fun _ w_1 => 
 pur Try.prog (Instr.indexAt 49 v_data v_pivot) fun t27 => 
 act Try.prog (thenU (Instr.storeAt 53 t27 t25)) (fun _ w_2 => 
 pur Try.prog (binS .add 3 false true v_a (.int .i64 1)) fun t29 => 
 pur Try.prog (binS .sub 3 false true v_b (.int .i64 1)) fun t31 => 
 lp 1 (fun J => fun v_i w_3 => ∀ _j : Fr, 
  pur Try.prog (binS .leq 3 false false v_i t31) fun t34 => 
  gd t34 true (fun k w_4 => k v_cmp w_4) (fun t36_1 w_5 => 
  gd t34 true (fun k_1 w_6 => k_1 v_data w_6) (fun t37_1 w_7 => 
  gd t34 true (fun k_2 w_8 => k_2 v_i w_8) (fun t38_1 w_9 => 
  gd t34 true (fun k_3 w_10 => pur Try.prog (Instr.indexAt 49 t37_1 t38_1) fun t39 => k_3 t39 w_10) (fun t39_1 w_11 => 
  gd t34 true (fun k_4 w_12 => rd Try.prog (Instr.loadAt 53 t39_1) (fun t40 => k_4 t40 w_12) w_12) (fun t40_1 w_13 => 
  gd t34 true (fun k_5 w_14 => k_5 v_data w_14) (fun t41_1 w_15 => 
  gd t34 true (fun k_6 w_16 => k_6 v_a w_16) (fun t42_1 w_17 => 
  gd t34 true (fun k_7 w_18 => pur Try.prog (Instr.indexAt 49 t41_1 t42_1) fun t43 => k_7 t43 w_18) (fun t43_1 w_19 => 
  gd t34 true (fun k_8 w_20 => rd Try.prog (Instr.loadAt 53 t43_1) (fun t44 => k_8 t44 w_20) w_20) (fun t44_1 w_21 => 
  gd t34 true (fun k_9 w_22 => callF Try.prog t36_1 #[t40_1, t44_1] (fun t45 w_23 => k_9 t45 w_23) w_22) (fun t45_1 w_24 => 
  gd t34 true (fun k_10 w_25 => pur Try.prog (binS .lss 3 false true t45_1 (.int .i64 0)) fun t46 => k_10 t46 w_25) (fun t46_1 w_26 => 
  pur Try.prog (pickS t34 t46_1 (.bool false)) fun t47 => 
  condS t47
   (pur Try.prog (binS .add 3 false true v_i (.int .i64 1)) fun t49 => 
  J t49 w_26)
   (lp 1 (fun J_1 => fun v_j w_27 => ∀ _j : Fr, 
  pur Try.prog (binS .leq 3 false false v_i v_j) fun t52 => 
  gd t52 true (fun k_11 w_28 => k_11 v_cmp w_28) (fun t54_1 w_29 => 
  gd t52 true (fun k_12 w_30 => k_12 v_data w_30) (fun t55_1 w_31 => 
  gd t52 true (fun k_13 w_32 => k_13 v_j w_32) (fun t56_1 w_33 => 
  gd t52 true (fun k_14 w_34 => pur Try.prog (Instr.indexAt 49 t55_1 t56_1) fun t57 => k_14 t57 w_34) (fun t57_1 w_35 => 
  gd t52 true (fun k_15 w_36 => rd Try.prog (Instr.loadAt 53 t57_1) (fun t58 => k_15 t58 w_36) w_36) (fun t58_1 w_37 => 
  gd t52 true (fun k_16 w_38 => k_16 v_data w_38) (fun t59_1 w_39 => 
  gd t52 true (fun k_17 w_40 => k_17 v_a w_40) (fun t60_1 w_41 => 
  gd t52 true (fun k_18 w_42 => pur Try.prog (Instr.indexAt 49 t59_1 t60_1) fun t61 => k_18 t61 w_42) (fun t61_1 w_43 => 
  gd t52 true (fun k_19 w_44 => rd Try.prog (Instr.loadAt 53 t61_1) (fun t62 => k_19 t62 w_44) w_44) (fun t62_1 w_45 => 
  gd t52 true (fun k_20 w_46 => callF Try.prog t54_1 #[t58_1, t62_1] (fun t63 w_47 => k_20 t63 w_47) w_46) (fun t63_1 w_48 => 
  gd t52 true (fun k_21 w_49 => pur Try.prog (binS .lss 3 false true t63_1 (.int .i64 0)) fun t64 => k_21 t64 w_49) (fun t64_1 w_50 => 
  gd t52 true (fun k_22 w_51 => pur Try.prog (Op.unary .not t64_1) fun t65 => k_22 t65 w_51) (fun t65_1 w_52 => 
  pur Try.prog (pickS t52 t65_1 (.bool false)) fun t66 => 
  condS t66
   (pur Try.prog (binS .sub 3 false true v_j (.int .i64 1)) fun t68 => 
  J_1 t68 w_52)
   (pur Try.prog (binS .gtr 3 false false v_i v_j) fun t71 => 
 condS t71
  (pur Try.prog (Instr.indexAt 49 v_data v_a) fun t78 => 
  rd Try.prog (Instr.loadAt 53 t78) (fun t79 => 
  pur Try.prog (Instr.indexAt 49 v_data v_j) fun t82 => 
  rd Try.prog (Instr.loadAt 53 t82) (fun t83 => 
  pur Try.prog (Instr.indexAt 49 v_data v_j) fun t84 => 
  act Try.prog (thenU (Instr.storeAt 53 t84 t79)) (fun _ w_53 => 
  pur Try.prog (Instr.indexAt 49 v_data v_a) fun t85 => 
  act Try.prog (thenU (Instr.storeAt 53 t85 t83)) (fun _ w_54 => 
  Q (.tuple #[v_j, (.bool true)]) w_54) w_53) (World.drew w_52)) (World.drew w_52)) (World.drew w_52))
  (pur Try.prog (Instr.indexAt 49 v_data v_j) fun t93 => 
 rd Try.prog (Instr.loadAt 53 t93) (fun t94 => 
 pur Try.prog (Instr.indexAt 49 v_data v_i) fun t97 => 
 rd Try.prog (Instr.loadAt 53 t97) (fun t98 => 
 pur Try.prog (Instr.indexAt 49 v_data v_i) fun t99 => 
 act Try.prog (thenU (Instr.storeAt 53 t99 t94)) (fun _ w_55 => 
 pur Try.prog (Instr.indexAt 49 v_data v_j) fun t100 => 
 act Try.prog (thenU (Instr.storeAt 53 t100 t98)) (fun _ w_56 => 
 pur Try.prog (binS .add 3 false true v_i (.int .i64 1)) fun t102 => 
 pur Try.prog (binS .sub 3 false true v_j (.int .i64 1)) fun t104 => 
 lp 2 (fun J_2 => fun v_i_1 v_j_1 w_57 => ∀ _j : Fr, 
  lp 1 (fun J_3 => fun v_i_2 w_58 => ∀ _j : Fr, 
   pur Try.prog (binS .leq 3 false false v_i_2 v_j_1) fun t107 => 
   gd t107 true (fun k_23 w_59 => k_23 v_cmp w_59) (fun t109_1 w_60 => 
   gd t107 true (fun k_24 w_61 => k_24 v_data w_61) (fun t110_1 w_62 => 
   gd t107 true (fun k_25 w_63 => k_25 v_i_2 w_63) (fun t111_1 w_64 => 
   gd t107 true (fun k_26 w_65 => pur Try.prog (Instr.indexAt 49 t110_1 t111_1) fun t112 => k_26 t112 w_65) (fun t112_1 w_66 => 
   gd t107 true (fun k_27 w_67 => rd Try.prog (Instr.loadAt 53 t112_1) (fun t113 => k_27 t113 w_67) w_67) (fun t113_1 w_68 => 
   gd t107 true (fun k_28 w_69 => k_28 v_data w_69) (fun t114_1 w_70 => 
   gd t107 true (fun k_29 w_71 => k_29 v_a w_71) (fun t115_1 w_72 => 
   gd t107 true (fun k_30 w_73 => pur Try.prog (Instr.indexAt 49 t114_1 t115_1) fun t116 => k_30 t116 w_73) (fun t116_1 w_74 => 
   gd t107 true (fun k_31 w_75 => rd Try.prog (Instr.loadAt 53 t116_1) (fun t117 => k_31 t117 w_75) w_75) (fun t117_1 w_76 => 
   gd t107 true (fun k_32 w_77 => callF Try.prog t109_1 #[t113_1, t117_1] (fun t118 w_78 => k_32 t118 w_78) w_77) (fun t118_1 w_79 => 
   gd t107 true (fun k_33 w_80 => pur Try.prog (binS .lss 3 false true t118_1 (.int .i64 0)) fun t119 => k_33 t119 w_80) (fun t119_1 w_81 => 
   pur Try.prog (pickS t107 t119_1 (.bool false)) fun t120 => 
   condS t120
    (pur Try.prog (binS .add 3 false true v_i_2 (.int .i64 1)) fun t122 => 
   J_3 t122 w_81)
    (lp 1 (fun J_4 => fun v_j_2 w_82 => ∀ _j : Fr, 
   pur Try.prog (binS .leq 3 false false v_i_2 v_j_2) fun t125 => 
   gd t125 true (fun k_34 w_83 => k_34 v_cmp w_83) (fun t127_1 w_84 => 
   gd t125 true (fun k_35 w_85 => k_35 v_data w_85) (fun t128_1 w_86 => 
   gd t125 true (fun k_36 w_87 => k_36 v_j_2 w_87) (fun t129_1 w_88 => 
   gd t125 true (fun k_37 w_89 => pur Try.prog (Instr.indexAt 49 t128_1 t129_1) fun t130 => k_37 t130 w_89) (fun t130_1 w_90 => 
   gd t125 true (fun k_38 w_91 => rd Try.prog (Instr.loadAt 53 t130_1) (fun t131 => k_38 t131 w_91) w_91) (fun t131_1 w_92 => 
   gd t125 true (fun k_39 w_93 => k_39 v_data w_93) (fun t132_1 w_94 => 
   gd t125 true (fun k_40 w_95 => k_40 v_a w_95) (fun t133_1 w_96 => 
   gd t125 true (fun k_41 w_97 => pur Try.prog (Instr.indexAt 49 t132_1 t133_1) fun t134 => k_41 t134 w_97) (fun t134_1 w_98 => 
   gd t125 true (fun k_42 w_99 => rd Try.prog (Instr.loadAt 53 t134_1) (fun t135 => k_42 t135 w_99) w_99) (fun t135_1 w_100 => 
   gd t125 true (fun k_43 w_101 => callF Try.prog t127_1 #[t131_1, t135_1] (fun t136 w_102 => k_43 t136 w_102) w_101) (fun t136_1 w_103 => 
   gd t125 true (fun k_44 w_104 => pur Try.prog (binS .lss 3 false true t136_1 (.int .i64 0)) fun t137 => k_44 t137 w_104) (fun t137_1 w_105 => 
   gd t125 true (fun k_45 w_106 => pur Try.prog (Op.unary .not t137_1) fun t138 => k_45 t138 w_106) (fun t138_1 w_107 => 
   pur Try.prog (pickS t125 t138_1 (.bool false)) fun t139 => 
   condS t139
    (pur Try.prog (binS .sub 3 false true v_j_2 (.int .i64 1)) fun t141 => 
   J_4 t141 w_107)
    (pur Try.prog (binS .gtr 3 false false v_i_2 v_j_2) fun t144 => 
  condS t144
   (pur Try.prog (Instr.indexAt 49 v_data v_a) fun t169 => 
 rd Try.prog (Instr.loadAt 53 t169) (fun t170 => 
 pur Try.prog (Instr.indexAt 49 v_data v_j_2) fun t173 => 
 rd Try.prog (Instr.loadAt 53 t173) (fun t174 => 
 pur Try.prog (Instr.indexAt 49 v_data v_j_2) fun t175 => 
 act Try.prog (thenU (Instr.storeAt 53 t175 t170)) (fun _ w_108 => 
 pur Try.prog (Instr.indexAt 49 v_data v_a) fun t176 => 
 act Try.prog (thenU (Instr.storeAt 53 t176 t174)) (fun _ w_109 => 
 Q (.tuple #[v_j_2, (.bool false)]) w_109) w_108) (World.drew w_107)) (World.drew w_107)) (World.drew w_107))
   (pur Try.prog (Instr.indexAt 49 v_data v_j_2) fun t151 => 
  rd Try.prog (Instr.loadAt 53 t151) (fun t152 => 
  pur Try.prog (Instr.indexAt 49 v_data v_i_2) fun t155 => 
  rd Try.prog (Instr.loadAt 53 t155) (fun t156 => 
  pur Try.prog (Instr.indexAt 49 v_data v_i_2) fun t157 => 
  act Try.prog (thenU (Instr.storeAt 53 t157 t152)) (fun _ w_110 => 
  pur Try.prog (Instr.indexAt 49 v_data v_j_2) fun t158 => 
  act Try.prog (thenU (Instr.storeAt 53 t158 t156)) (fun _ w_111 => 
  pur Try.prog (binS .add 3 false true v_i_2 (.int .i64 1)) fun t160 => 
  pur Try.prog (binS .sub 3 false true v_j_2 (.int .i64 1)) fun t162 => 
  J_2 t160 t162 w_111) w_110) (World.drew w_107)) (World.drew w_107)) (World.drew w_107)))) w_105) w_103) w_100) w_98) w_96) w_94) w_92) w_90) w_88) w_86) w_84) (World.drew w_82)) [v_j_1] w_81)) w_79) w_76) w_74) w_72) w_70) w_68) w_66) w_64) w_62) w_60) (World.drew w_58)) [v_i_1] w_57) [t102, t104] w_56) w_55) (World.drew w_52)) (World.drew w_52)) (World.drew w_52)))) w_50) w_48) w_45) w_43) w_41) w_39) w_37) w_35) w_33) w_31) w_29) (World.drew w_27)) [t31] w_26)) w_24) w_21) w_19) w_17) w_15) w_13) w_11) w_9) w_7) w_5) (World.drew w_3)) [t29] w_2) w_1) (World.drew w)) (World.drew w)) (World.drew w)
theorem eq66 (v_data v_a v_b v_pivot v_cmp : Value) (Q : Value → World → Prop) (w : World) : semF Try.prog 66 [v_data, v_a, v_b, v_pivot, v_cmp] Q w = S66 v_data v_a v_b v_pivot v_cmp Q w := by kernel_rfl
theorem ref66 {v_data v_a v_b v_pivot v_cmp : Value} {Q : Value → World → Prop} {w : World} (h : S66 v_data v_a v_b v_pivot v_cmp Q w) : callS Try.prog 66 #[v_data, v_a, v_b, v_pivot, v_cmp] Q w :=
  callS_of mix (fun a w => Try.call66 a w) (by kernel_rfl) (by rw [eq66]; exact h)
-- slices.siftDownCmpFunc[*commons/heap.item[string]]
def S67 (v_data v_lo v_hi v_first v_cmp : Value) (Q : Value → World → Prop) (w : World) : Prop :=
 lp 1 (fun J => fun v_root w_1 => ∀ _j : Fr, 
  pur Try.prog (binS .mul 3 true false (.int .i64 2) v_root) fun t14 => 
  pur Try.prog (binS .add 3 false true t14 (.int .i64 1)) fun t15 => 
  pur Try.prog (binS .geq 3 false false t15 v_hi) fun t18 => 
  condS t18
   (Q (.tuple #[]) w_1)
   (jn 1 (fun J_1 => 
   pur Try.prog (binS .add 3 false true t15 (.int .i64 1)) fun t20 => 
   pur Try.prog (binS .lss 3 false false t20 v_hi) fun t22 => 
   gd t22 true (fun k w_2 => k v_cmp w_2) (fun t24_1 w_3 => 
   gd t22 true (fun k_1 w_4 => k_1 v_data w_4) (fun t25_1 w_5 => 
   gd t22 true (fun k_2 w_6 => k_2 v_first w_6) (fun t26_1 w_7 => 
   gd t22 true (fun k_3 w_8 => k_3 t15 w_8) (fun t27_1 w_9 => 
   gd t22 true (fun k_4 w_10 => pur Try.prog (binS .add 3 false false t26_1 t27_1) fun t28 => k_4 t28 w_10) (fun t28_1 w_11 => 
   gd t22 true (fun k_5 w_12 => pur Try.prog (Instr.indexAt 58 t25_1 t28_1) fun t29 => k_5 t29 w_12) (fun t29_1 w_13 => 
   gd t22 true (fun k_6 w_14 => rd Try.prog (Instr.loadAt 62 t29_1) (fun t30 => k_6 t30 w_14) w_14) (fun t30_1 w_15 => 
   gd t22 true (fun k_7 w_16 => k_7 v_data w_16) (fun t31_1 w_17 => 
   gd t22 true (fun k_8 w_18 => k_8 v_first w_18) (fun t32_1 w_19 => 
   gd t22 true (fun k_9 w_20 => k_9 t15 w_20) (fun t33_1 w_21 => 
   gd t22 true (fun k_10 w_22 => pur Try.prog (binS .add 3 false false t32_1 t33_1) fun t34 => k_10 t34 w_22) (fun t34_1 w_23 => 
   gd t22 true (fun k_11 w_24 => pur Try.prog (binS .add 3 false true t34_1 (.int .i64 1)) fun t35 => k_11 t35 w_24) (fun t35_1 w_25 => 
   gd t22 true (fun k_12 w_26 => pur Try.prog (Instr.indexAt 58 t31_1 t35_1) fun t36 => k_12 t36 w_26) (fun t36_1 w_27 => 
   gd t22 true (fun k_13 w_28 => rd Try.prog (Instr.loadAt 62 t36_1) (fun t37 => k_13 t37 w_28) w_28) (fun t37_1 w_29 => 
   gd t22 true (fun k_14 w_30 => callF Try.prog t24_1 #[t30_1, t37_1] (fun t38 w_31 => k_14 t38 w_31) w_30) (fun t38_1 w_32 => 
   gd t22 true (fun k_15 w_33 => pur Try.prog (binS .lss 3 false true t38_1 (.int .i64 0)) fun t39 => k_15 t39 w_33) (fun t39_1 w_34 => 
   pur Try.prog (pickS t22 t39_1 (.bool false)) fun t40 => 
   condS t40
    (pur Try.prog (binS .add 3 false true t15 (.int .i64 1)) fun t42 => 
    J_1 t42 w_34)
    (J_1 t15 w_34)) w_32) w_29) w_27) w_25) w_23) w_21) w_19) w_17) w_15) w_13) w_11) w_9) w_7) w_5) w_3) (World.drew w_1))
  (fun v_child w_35 => ∀ _j : Fr, 
   pur Try.prog (binS .add 3 false false v_first v_root) fun t47 => 
   pur Try.prog (Instr.indexAt 58 v_data t47) fun t48 => 
   rd Try.prog (Instr.loadAt 62 t48) (fun t49 => 
   pur Try.prog (binS .add 3 false false v_first v_child) fun t53 => 
   pur Try.prog (Instr.indexAt 58 v_data t53) fun t54 => 
   rd Try.prog (Instr.loadAt 62 t54) (fun t55 => 
   callF Try.prog v_cmp #[t49, t55] (fun t56 w_36 => 
   pur Try.prog (binS .lss 3 false true t56 (.int .i64 0)) fun t57 => 
   pur Try.prog (Op.unary .not t57) fun t58 => 
   condS t58
    (Q (.tuple #[]) w_36)
    (pur Try.prog (binS .add 3 false false v_first v_root) fun t62 => 
   pur Try.prog (binS .add 3 false false v_first v_child) fun t66 => 
   pur Try.prog (binS .add 3 false false v_first v_child) fun t70 => 
   pur Try.prog (Instr.indexAt 58 v_data t70) fun t71 => 
   rd Try.prog (Instr.loadAt 62 t71) (fun t72 => 
   pur Try.prog (binS .add 3 false false v_first v_root) fun t76 => 
   pur Try.prog (Instr.indexAt 58 v_data t76) fun t77 => 
   rd Try.prog (Instr.loadAt 62 t77) (fun t78 => 
   pur Try.prog (Instr.indexAt 58 v_data t62) fun t79 => 
   act Try.prog (thenU (Instr.storeAt 62 t79 t72)) (fun _ w_37 => 
   pur Try.prog (Instr.indexAt 58 v_data t66) fun t80 => 
   act Try.prog (thenU (Instr.storeAt 62 t80 t78)) (fun _ w_38 => 
   J v_child w_38) w_37) (World.drew w_36)) (World.drew w_36)) (World.drew w_36))) (World.drew w_35)) (World.drew w_35)) (World.drew w_35)))) [v_lo] w
theorem eq67 (v_data v_lo v_hi v_first v_cmp : Value) (Q : Value → World → Prop) (w : World) : semF Try.prog 67 [v_data, v_lo, v_hi, v_first, v_cmp] Q w = S67 v_data v_lo v_hi v_first v_cmp Q w := by kernel_rfl
theorem ref67 {v_data v_lo v_hi v_first v_cmp : Value} {Q : Value → World → Prop} {w : World} (h : S67 v_data v_lo v_hi v_first v_cmp Q w) : callS Try.prog 67 #[v_data, v_lo, v_hi, v_first, v_cmp] Q w :=
  callS_of mix (fun a w => Try.call67 a w) (by kernel_rfl) (by rw [eq67]; exact h)
-- slices.nextPowerOfTwo
def S68 (v_length : Value) (Q : Value → World → Prop) (w : World) : Prop :=
 pur Try.prog (convert 3 85 v_length) fun t4 => 
 callS Try.prog 45 #[t4] (fun t5 w_1 => 
 pur Try.prog (binS .shl 85 true false (.int .u64 1) t5) fun t6 => 
 Q t6 w_1) w
theorem eq68 (v_length : Value) (Q : Value → World → Prop) (w : World) : semF Try.prog 68 [v_length] Q w = S68 v_length Q w := by kernel_rfl
theorem ref68 {v_length : Value} {Q : Value → World → Prop} {w : World} (h : S68 v_length Q w) : callS Try.prog 68 #[v_length] Q w :=
  callS_of mix (fun a w => Try.call68 a w) (by kernel_rfl) (by rw [eq68]; exact h)
-- (*slices.xorshift).Next
def S69 (v_r : Value) (Q : Value → World → Prop) (w : World) : Prop :=
 pur Try.prog (nilV v_r) fun t4 => 
 rd Try.prog (Instr.loadAt 104 t4) (fun t5 => 
 pur Try.prog (nilV v_r) fun t7 => 
 rd Try.prog (Instr.loadAt 104 t7) (fun t8 => 
 pur Try.prog (binS .shl 104 false true t8 (.int .u64 13)) fun t9 => 
 pur Try.prog (binS .xor 104 false false t5 t9) fun t10 => 
 pur Try.prog (nilV v_r) fun t11 => 
 act Try.prog (thenU (Instr.storeAt 104 t11 t10)) (fun _ w_1 => 
 pur Try.prog (nilV v_r) fun t13 => 
 rd Try.prog (Instr.loadAt 104 t13) (fun t14 => 
 pur Try.prog (nilV v_r) fun t16 => 
 rd Try.prog (Instr.loadAt 104 t16) (fun t17 => 
 pur Try.prog (binS .shr 104 false true t17 (.int .u64 7)) fun t18 => 
 pur Try.prog (binS .xor 104 false false t14 t18) fun t19 => 
 pur Try.prog (nilV v_r) fun t20 => 
 act Try.prog (thenU (Instr.storeAt 104 t20 t19)) (fun _ w_2 => 
 pur Try.prog (nilV v_r) fun t22 => 
 rd Try.prog (Instr.loadAt 104 t22) (fun t23 => 
 pur Try.prog (nilV v_r) fun t25 => 
 rd Try.prog (Instr.loadAt 104 t25) (fun t26 => 
 pur Try.prog (binS .shl 104 false true t26 (.int .u64 17)) fun t27 => 
 pur Try.prog (binS .xor 104 false false t23 t27) fun t28 => 
 pur Try.prog (nilV v_r) fun t29 => 
 act Try.prog (thenU (Instr.storeAt 104 t29 t28)) (fun _ w_3 => 
 pur Try.prog (nilV v_r) fun t31 => 
 rd Try.prog (Instr.loadAt 104 t31) (fun t32 => 
 Q t32 w_3) w_3) (World.drew w_2)) (World.drew w_2)) (World.drew w_2)) (World.drew w_1)) (World.drew w_1)) (World.drew w_1)) (World.drew w)) (World.drew w)) (World.drew w)
theorem eq69 (v_r : Value) (Q : Value → World → Prop) (w : World) : semF Try.prog 69 [v_r] Q w = S69 v_r Q w := by kernel_rfl
theorem ref69 {v_r : Value} {Q : Value → World → Prop} {w : World} (h : S69 v_r Q w) : callS Try.prog 69 #[v_r] Q w :=
  callS_of mix (fun a w => Try.call69 a w) (by kernel_rfl) (by rw [eq69]; exact h)
-- slices.medianAdjacentCmpFunc[*commons/heap.item[string]]
def S70 (v_data v_a v_swaps v_cmp : Value) (Q : Value → World → Prop) (w : World) : Prop :=
 pur Try.prog (binS .sub 3 false true v_a (.int .i64 1)) fun t11 => 
 pur Try.prog (binS .add 3 false true v_a (.int .i64 1)) fun t14 => 
 callS Try.prog 71 #[v_data, t11, v_a, t14, v_swaps, v_cmp] (fun t17 w_1 => 
 Q t17 w_1) w
theorem eq70 (v_data v_a v_swaps v_cmp : Value) (Q : Value → World → Prop) (w : World) : semF Try.prog 70 [v_data, v_a, v_swaps, v_cmp] Q w = S70 v_data v_a v_swaps v_cmp Q w := by kernel_rfl
theorem ref70 {v_data v_a v_swaps v_cmp : Value} {Q : Value → World → Prop} {w : World} (h : S70 v_data v_a v_swaps v_cmp Q w) : callS Try.prog 70 #[v_data, v_a, v_swaps, v_cmp] Q w :=
  callS_of mix (fun a w => Try.call70 a w) (by kernel_rfl) (by rw [eq70]; exact h)
-- slices.medianCmpFunc[*commons/heap.item[string]]
def S71 (v_data v_a v_b v_c v_swaps v_cmp : Value) (Q : Value → World → Prop) (w : World) : Prop :=
 callS Try.prog 75 #[v_data, v_a, v_b, v_swaps, v_cmp] (fun t19 w_1 => 
 pur Try.prog (Instr.extract t19 0) fun t20 => 
 pur Try.prog (Instr.extract t19 1) fun t21 => 
 callS Try.prog 75 #[v_data, t21, v_c, v_swaps, v_cmp] (fun t28 w_2 => 
 pur Try.prog (Instr.extract t28 0) fun t29 => 
 pur Try.prog (Instr.extract t28 1) fun _ => 
 callS Try.prog 75 #[v_data, t20, t29, v_swaps, v_cmp] (fun t37 w_3 => 
 pur Try.prog (Instr.extract t37 0) fun _ => 
 pur Try.prog (Instr.extract t37 1) fun t39 => 
 Q t39 w_3) w_2) w_1) w
theorem eq71 (v_data v_a v_b v_c v_swaps v_cmp : Value) (Q : Value → World → Prop) (w : World) : semF Try.prog 71 [v_data, v_a, v_b, v_c, v_swaps, v_cmp] Q w = S71 v_data v_a v_b v_c v_swaps v_cmp Q w := by kernel_rfl
theorem ref71 {v_data v_a v_b v_c v_swaps v_cmp : Value} {Q : Value → World → Prop} {w : World} (h : S71 v_data v_a v_b v_c v_swaps v_cmp Q w) : callS Try.prog 71 #[v_data, v_a, v_b, v_c, v_swaps, v_cmp] Q w :=
  callS_of mix (fun a w => Try.call71 a w) (by kernel_rfl) (by rw [eq71]; exact h)
-- slices.siftDownCmpFunc[*commons/heap.item[int]]
def S72 (v_data v_lo v_hi v_first v_cmp : Value) (Q : Value → World → Prop) (w : World) : Prop :=
 lp 1 (fun J => fun v_root w_1 => ∀ _j : Fr, 
  pur Try.prog (binS .mul 3 true false (.int .i64 2) v_root) fun t14 => 
  pur Try.prog (binS .add 3 false true t14 (.int .i64 1)) fun t15 => 
  pur Try.prog (binS .geq 3 false false t15 v_hi) fun t18 => 
  condS t18
   (Q (.tuple #[]) w_1)
   (jn 1 (fun J_1 => 
   pur Try.prog (binS .add 3 false true t15 (.int .i64 1)) fun t20 => 
   pur Try.prog (binS .lss 3 false false t20 v_hi) fun t22 => 
   gd t22 true (fun k w_2 => k v_cmp w_2) (fun t24_1 w_3 => 
   gd t22 true (fun k_1 w_4 => k_1 v_data w_4) (fun t25_1 w_5 => 
   gd t22 true (fun k_2 w_6 => k_2 v_first w_6) (fun t26_1 w_7 => 
   gd t22 true (fun k_3 w_8 => k_3 t15 w_8) (fun t27_1 w_9 => 
   gd t22 true (fun k_4 w_10 => pur Try.prog (binS .add 3 false false t26_1 t27_1) fun t28 => k_4 t28 w_10) (fun t28_1 w_11 => 
   gd t22 true (fun k_5 w_12 => pur Try.prog (Instr.indexAt 49 t25_1 t28_1) fun t29 => k_5 t29 w_12) (fun t29_1 w_13 => 
   gd t22 true (fun k_6 w_14 => rd Try.prog (Instr.loadAt 53 t29_1) (fun t30 => k_6 t30 w_14) w_14) (fun t30_1 w_15 => 
   gd t22 true (fun k_7 w_16 => k_7 v_data w_16) (fun t31_1 w_17 => 
   gd t22 true (fun k_8 w_18 => k_8 v_first w_18) (fun t32_1 w_19 => 
   gd t22 true (fun k_9 w_20 => k_9 t15 w_20) (fun t33_1 w_21 => 
   gd t22 true (fun k_10 w_22 => pur Try.prog (binS .add 3 false false t32_1 t33_1) fun t34 => k_10 t34 w_22) (fun t34_1 w_23 => 
   gd t22 true (fun k_11 w_24 => pur Try.prog (binS .add 3 false true t34_1 (.int .i64 1)) fun t35 => k_11 t35 w_24) (fun t35_1 w_25 => 
   gd t22 true (fun k_12 w_26 => pur Try.prog (Instr.indexAt 49 t31_1 t35_1) fun t36 => k_12 t36 w_26) (fun t36_1 w_27 => 
   gd t22 true (fun k_13 w_28 => rd Try.prog (Instr.loadAt 53 t36_1) (fun t37 => k_13 t37 w_28) w_28) (fun t37_1 w_29 => 
   gd t22 true (fun k_14 w_30 => callF Try.prog t24_1 #[t30_1, t37_1] (fun t38 w_31 => k_14 t38 w_31) w_30) (fun t38_1 w_32 => 
   gd t22 true (fun k_15 w_33 => pur Try.prog (binS .lss 3 false true t38_1 (.int .i64 0)) fun t39 => k_15 t39 w_33) (fun t39_1 w_34 => 
   pur Try.prog (pickS t22 t39_1 (.bool false)) fun t40 => 
   condS t40
    (pur Try.prog (binS .add 3 false true t15 (.int .i64 1)) fun t42 => 
    J_1 t42 w_34)
    (J_1 t15 w_34)) w_32) w_29) w_27) w_25) w_23) w_21) w_19) w_17) w_15) w_13) w_11) w_9) w_7) w_5) w_3) (World.drew w_1))
  (fun v_child w_35 => ∀ _j : Fr, 
   pur Try.prog (binS .add 3 false false v_first v_root) fun t47 => 
   pur Try.prog (Instr.indexAt 49 v_data t47) fun t48 => 
   rd Try.prog (Instr.loadAt 53 t48) (fun t49 => 
   pur Try.prog (binS .add 3 false false v_first v_child) fun t53 => 
   pur Try.prog (Instr.indexAt 49 v_data t53) fun t54 => 
   rd Try.prog (Instr.loadAt 53 t54) (fun t55 => 
   callF Try.prog v_cmp #[t49, t55] (fun t56 w_36 => 
   pur Try.prog (binS .lss 3 false true t56 (.int .i64 0)) fun t57 => 
   pur Try.prog (Op.unary .not t57) fun t58 => 
   condS t58
    (Q (.tuple #[]) w_36)
    (pur Try.prog (binS .add 3 false false v_first v_root) fun t62 => 
   pur Try.prog (binS .add 3 false false v_first v_child) fun t66 => 
   pur Try.prog (binS .add 3 false false v_first v_child) fun t70 => 
   pur Try.prog (Instr.indexAt 49 v_data t70) fun t71 => 
   rd Try.prog (Instr.loadAt 53 t71) (fun t72 => 
   pur Try.prog (binS .add 3 false false v_first v_root) fun t76 => 
   pur Try.prog (Instr.indexAt 49 v_data t76) fun t77 => 
   rd Try.prog (Instr.loadAt 53 t77) (fun t78 => 
   pur Try.prog (Instr.indexAt 49 v_data t62) fun t79 => 
   act Try.prog (thenU (Instr.storeAt 53 t79 t72)) (fun _ w_37 => 
   pur Try.prog (Instr.indexAt 49 v_data t66) fun t80 => 
   act Try.prog (thenU (Instr.storeAt 53 t80 t78)) (fun _ w_38 => 
   J v_child w_38) w_37) (World.drew w_36)) (World.drew w_36)) (World.drew w_36))) (World.drew w_35)) (World.drew w_35)) (World.drew w_35)))) [v_lo] w
theorem eq72 (v_data v_lo v_hi v_first v_cmp : Value) (Q : Value → World → Prop) (w : World) : semF Try.prog 72 [v_data, v_lo, v_hi, v_first, v_cmp] Q w = S72 v_data v_lo v_hi v_first v_cmp Q w := by kernel_rfl
theorem ref72 {v_data v_lo v_hi v_first v_cmp : Value} {Q : Value → World → Prop} {w : World} (h : S72 v_data v_lo v_hi v_first v_cmp Q w) : callS Try.prog 72 #[v_data, v_lo, v_hi, v_first, v_cmp] Q w :=
  callS_of mix (fun a w => Try.call72 a w) (by kernel_rfl) (by rw [eq72]; exact h)
-- slices.medianAdjacentCmpFunc[*commons/heap.item[int]]
def S73 (v_data v_a v_swaps v_cmp : Value) (Q : Value → World → Prop) (w : World) : Prop :=
 pur Try.prog (binS .sub 3 false true v_a (.int .i64 1)) fun t11 => 
 pur Try.prog (binS .add 3 false true v_a (.int .i64 1)) fun t14 => 
 callS Try.prog 74 #[v_data, t11, v_a, t14, v_swaps, v_cmp] (fun t17 w_1 => 
 Q t17 w_1) w
theorem eq73 (v_data v_a v_swaps v_cmp : Value) (Q : Value → World → Prop) (w : World) : semF Try.prog 73 [v_data, v_a, v_swaps, v_cmp] Q w = S73 v_data v_a v_swaps v_cmp Q w := by kernel_rfl
theorem ref73 {v_data v_a v_swaps v_cmp : Value} {Q : Value → World → Prop} {w : World} (h : S73 v_data v_a v_swaps v_cmp Q w) : callS Try.prog 73 #[v_data, v_a, v_swaps, v_cmp] Q w :=
  callS_of mix (fun a w => Try.call73 a w) (by kernel_rfl) (by rw [eq73]; exact h)
-- slices.medianCmpFunc[*commons/heap.item[int]]
def S74 (v_data v_a v_b v_c v_swaps v_cmp : Value) (Q : Value → World → Prop) (w : World) : Prop :=
 callS Try.prog 76 #[v_data, v_a, v_b, v_swaps, v_cmp] (fun t19 w_1 => 
 pur Try.prog (Instr.extract t19 0) fun t20 => 
 pur Try.prog (Instr.extract t19 1) fun t21 => 
 callS Try.prog 76 #[v_data, t21, v_c, v_swaps, v_cmp] (fun t28 w_2 => 
 pur Try.prog (Instr.extract t28 0) fun t29 => 
 pur Try.prog (Instr.extract t28 1) fun _ => 
 callS Try.prog 76 #[v_data, t20, t29, v_swaps, v_cmp] (fun t37 w_3 => 
 pur Try.prog (Instr.extract t37 0) fun _ => 
 pur Try.prog (Instr.extract t37 1) fun t39 => 
 Q t39 w_3) w_2) w_1) w
theorem eq74 (v_data v_a v_b v_c v_swaps v_cmp : Value) (Q : Value → World → Prop) (w : World) : semF Try.prog 74 [v_data, v_a, v_b, v_c, v_swaps, v_cmp] Q w = S74 v_data v_a v_b v_c v_swaps v_cmp Q w := by kernel_rfl
theorem ref74 {v_data v_a v_b v_c v_swaps v_cmp : Value} {Q : Value → World → Prop} {w : World} (h : S74 v_data v_a v_b v_c v_swaps v_cmp Q w) : callS Try.prog 74 #[v_data, v_a, v_b, v_c, v_swaps, v_cmp] Q w :=
  callS_of mix (fun a w => Try.call74 a w) (by kernel_rfl) (by rw [eq74]; exact h)
-- slices.order2CmpFunc[*commons/heap.item[string]]
def S75 (v_data v_a v_b v_swaps v_cmp : Value) (Q : Value → World → Prop) (w : World) : Prop :=
 pur Try.prog (Instr.indexAt 58 v_data v_b) fun t15 => 
 rd Try.prog (Instr.loadAt 62 t15) (fun t16 => 
 pur Try.prog (Instr.indexAt 58 v_data v_a) fun t19 => 
 rd Try.prog (Instr.loadAt 62 t19) (fun t20 => 
 callF Try.prog v_cmp #[t16, t20] (fun t21 w_1 => 
 pur Try.prog (binS .lss 3 false true t21 (.int .i64 0)) fun t22 => 
 condS t22
  (pur Try.prog (nilV v_swaps) fun t24 => 
  rd Try.prog (Instr.loadAt 3 t24) (fun t25 => 
  pur Try.prog (binS .add 3 false true t25 (.int .i64 1)) fun t26 => 
  pur Try.prog (nilV v_swaps) fun t27 => 
  act Try.prog (thenU (Instr.storeAt 3 t27 t26)) (fun _ w_2 => 
  Q (.tuple #[v_b, v_a]) w_2) w_1) w_1)
  (Q (.tuple #[v_a, v_b]) w_1)) (World.drew w)) (World.drew w)) (World.drew w)
theorem eq75 (v_data v_a v_b v_swaps v_cmp : Value) (Q : Value → World → Prop) (w : World) : semF Try.prog 75 [v_data, v_a, v_b, v_swaps, v_cmp] Q w = S75 v_data v_a v_b v_swaps v_cmp Q w := by kernel_rfl
theorem ref75 {v_data v_a v_b v_swaps v_cmp : Value} {Q : Value → World → Prop} {w : World} (h : S75 v_data v_a v_b v_swaps v_cmp Q w) : callS Try.prog 75 #[v_data, v_a, v_b, v_swaps, v_cmp] Q w :=
  callS_of mix (fun a w => Try.call75 a w) (by kernel_rfl) (by rw [eq75]; exact h)
-- slices.order2CmpFunc[*commons/heap.item[int]]
def S76 (v_data v_a v_b v_swaps v_cmp : Value) (Q : Value → World → Prop) (w : World) : Prop :=
 pur Try.prog (Instr.indexAt 49 v_data v_b) fun t15 => 
 rd Try.prog (Instr.loadAt 53 t15) (fun t16 => 
 pur Try.prog (Instr.indexAt 49 v_data v_a) fun t19 => 
 rd Try.prog (Instr.loadAt 53 t19) (fun t20 => 
 callF Try.prog v_cmp #[t16, t20] (fun t21 w_1 => 
 pur Try.prog (binS .lss 3 false true t21 (.int .i64 0)) fun t22 => 
 condS t22
  (pur Try.prog (nilV v_swaps) fun t24 => 
  rd Try.prog (Instr.loadAt 3 t24) (fun t25 => 
  pur Try.prog (binS .add 3 false true t25 (.int .i64 1)) fun t26 => 
  pur Try.prog (nilV v_swaps) fun t27 => 
  act Try.prog (thenU (Instr.storeAt 3 t27 t26)) (fun _ w_2 => 
  Q (.tuple #[v_b, v_a]) w_2) w_1) w_1)
  (Q (.tuple #[v_a, v_b]) w_1)) (World.drew w)) (World.drew w)) (World.drew w)
theorem eq76 (v_data v_a v_b v_swaps v_cmp : Value) (Q : Value → World → Prop) (w : World) : semF Try.prog 76 [v_data, v_a, v_b, v_swaps, v_cmp] Q w = S76 v_data v_a v_b v_swaps v_cmp Q w := by kernel_rfl
theorem ref76 {v_data v_a v_b v_swaps v_cmp : Value} {Q : Value → World → Prop} {w : World} (h : S76 v_data v_a v_b v_swaps v_cmp Q w) : callS Try.prog 76 #[v_data, v_a, v_b, v_swaps, v_cmp] Q w :=
  callS_of mix (fun a w => Try.call76 a w) (by kernel_rfl) (by rw [eq76]; exact h)
end Go.Proofs.Ytfepcgjkjofgoaa
