/- The readings of the functions' code, printed by a program, each held equal to the one that is computed: for all arguments, all worlds.
   Conditions: none. -/
import Derived.Test.YtfdfgpcefmghgaaShC
import Derived.Test.YtfdfgpcefmghgaaProg
import Derived.KernelRfl
set_option linter.unusedSimpArgs false
set_option linter.unusedVariables false
namespace Go.Proofs.Ytfdfgpcefmghgaa
open Go.Sh
set_option maxRecDepth 100000
theorem mix : Try.prog.follows .mixedOrders = true := by kernel_rfl

-- gosem.cut.init
def S2 (Q : Value → World → Prop) (w : World) : Prop :=
 callS Try.prog 1 #[] (fun _ w_1 => 
 Q (.tuple #[]) w_1) w
theorem eq2 (Q : Value → World → Prop) (w : World) : semF Try.prog 2 [] Q w = S2 Q w := by kernel_rfl
theorem ref2 {Q : Value → World → Prop} {w : World} (h : S2 Q w) : callS Try.prog 2 #[] Q w :=
  callS_of mix (fun a w => Try.call2 a w) (by kernel_rfl) (by rw [eq2]; exact h)
-- commons/commonslaw4.HeapFirst
def S3 (v_l v_now : Value) (Q : Value → World → Prop) (w : World) : Prop :=
 pur Try.prog (Builtin.len_ #[22] 3 #[v_l]) fun t19 => 
 pur Try.prog (binS .gtr 3 false true t19 (.int .i64 60)) fun t20 => 
 condS t20
  (callS Try.prog 4 #[] (fun t21 w_1 => 
  Q t21 w_1) w)
  (callS Try.prog 5 #[] (fun t22 w_2 => 
 rd Try.prog (binS .eql 24 false true t22 (.pointer none)) (fun t24 => 
 condS t24
  (Q (.bool false) w_2)
  (lp 1 (fun J => fun v_i w_3 => ∀ _j : Fr, 
  pur Try.prog (Builtin.len_ #[22] 3 #[v_l]) fun t27 => 
  pur Try.prog (binS .lss 3 false false v_i t27) fun t28 => 
  condS t28
   (∃ S : World → Prop, S (World.drew w_3) ∧ 
  pur Try.prog (Instr.indexAt 22 v_l v_i) fun t34 => 
  hld Try.prog S (Instr.loadAt 3 t34) fun t35 => 
  pur Try.prog (binS .rem 3 false true v_i (.int .i64 26)) fun t37 => 
  pur Try.prog (binS .add 3 true false (.int .i64 97) t37) fun t38 => 
  pur Try.prog (convert 3 5 t38) fun t39 => 
  pur Try.prog (binS .quo 3 false true v_i (.int .i64 26)) fun t41 => 
  pur Try.prog (binS .add 3 true false (.int .i64 97) t41) fun t42 => 
  pur Try.prog (convert 3 5 t42) fun t43 => 
  act Try.prog (Instr.buildSlice 27 2 #[(0, t39), (1, t43)]) (fun t44 w_4 => S w_4 ∧ 
  act Try.prog (convert 27 9 t44) (fun t45 w_5 => S w_5 ∧ 
  callS Try.prog 6 #[t22, t35, t45] (fun _ w_6 => S w_6 ∧ 
  pur Try.prog (binS .add 3 false true v_i (.int .i64 1)) fun t30 => 
  J t30 w_6) w_5) w_4) (World.drew w_3))
   (jn 0 (fun J_1 => 
  lp 1 (fun J_2 => fun v_k w_7 => ∀ _j : Fr, 
   pur Try.prog (Builtin.len_ #[22] 3 #[v_l]) fun t49 => 
   pur Try.prog (binS .leq 3 false false v_k t49) fun t50 => 
   condS t50
    (callS Try.prog 7 #[t22] (fun t55 w_8 => 
   pur Try.prog (Instr.extract t55 0) fun t56 => 
   pur Try.prog (Instr.extract t55 1) fun t57 => 
   pur Try.prog (Instr.extract t55 2) fun t58 => 
   callS Try.prog 8 #[t22] (fun t60 w_9 => 
   callS Try.prog 9 #[t22, v_now] (fun t64 w_10 => 
   pur Try.prog (Instr.extract t64 0) fun t65 => 
   pur Try.prog (Instr.extract t64 1) fun t66 => 
   gd t58 true (fun k w_11 => k t56 w_11) (fun t70_1 w_12 => 
   gd t58 true (fun k_1 w_13 => k_1 v_now w_13) (fun t71_1 w_14 => 
   gd t58 true (fun k_2 w_15 => pur Try.prog (binS .leq 3 false false t70_1 t71_1) fun t72 => k_2 t72 w_15) (fun t72_1 w_16 => 
   pur Try.prog (pickS t58 t72_1 (.bool false)) fun t73 => 
   pur Try.prog (binS .neq 4 false false t66 t73) fun t74 => 
   gd t74 false (fun k_3 w_17 => k_3 t66 w_17) (fun t76_1 w_18 => 
   gd t74 false (fun k_4 w_19 => k_4 t76_1 w_19) (fun t77_1 w_20 => 
   gd t77_1 true (fun k_5 w_21 => k_5 t65 w_21) (fun t78_1 w_22 => 
   gd t77_1 true (fun k_6 w_23 => k_6 t57 w_23) (fun t79_1 w_24 => 
   gd t77_1 true (fun k_7 w_25 => pur Try.prog (binS .neq 9 false false t78_1 t79_1) fun t80 => k_7 t80 w_25) (fun t80_1 w_26 => 
   gd t74 false (fun k_8 w_27 => pur Try.prog (pickS t77_1 t80_1 (.bool false)) fun t81 => k_8 t81 w_27) (fun t81_1 w_28 => 
   pur Try.prog (pickS t74 (.bool true) t81_1) fun t82 => 
   gd t82 false (fun k_9 w_29 => k_9 t66 w_29) (fun t84_1 w_30 => 
   gd t82 false (fun k_10 w_31 => pur Try.prog (Op.unary .not t84_1) fun t85 => k_10 t85 w_31) (fun t85_1 w_32 => 
   gd t82 false (fun k_11 w_33 => k_11 t85_1 w_33) (fun t86_1 w_34 => 
   gd t86_1 true (fun k_12 w_35 => k_12 t22 w_35) (fun t87_1 w_36 => 
   gd t86_1 true (fun k_13 w_37 => callS Try.prog 8 #[t87_1] (fun t88 w_38 => k_13 t88 w_38) w_37) (fun t88_1 w_39 => 
   gd t86_1 true (fun k_14 w_40 => k_14 t60 w_40) (fun t89_1 w_41 => 
   gd t86_1 true (fun k_15 w_42 => pur Try.prog (binS .neq 3 false false t88_1 t89_1) fun t90 => k_15 t90 w_42) (fun t90_1 w_43 => 
   gd t82 false (fun k_16 w_44 => pur Try.prog (pickS t86_1 t90_1 (.bool false)) fun t91 => k_16 t91 w_44) (fun t91_1 w_45 => 
   pur Try.prog (pickS t82 (.bool true) t91_1) fun t92 => 
   gd t92 false (fun k_17 w_46 => k_17 t66 w_46) (fun t94_1 w_47 => 
   gd t92 false (fun k_18 w_48 => k_18 t94_1 w_48) (fun t95_1 w_49 => 
   gd t95_1 true (fun k_19 w_50 => k_19 t22 w_50) (fun t96_1 w_51 => 
   gd t95_1 true (fun k_20 w_52 => callS Try.prog 8 #[t96_1] (fun t97 w_53 => k_20 t97 w_53) w_52) (fun t97_1 w_54 => 
   gd t95_1 true (fun k_21 w_55 => k_21 t60 w_55) (fun t98_1 w_56 => 
   gd t95_1 true (fun k_22 w_57 => pur Try.prog (binS .sub 3 false true t98_1 (.int .i64 1)) fun t99 => k_22 t99 w_57) (fun t99_1 w_58 => 
   gd t95_1 true (fun k_23 w_59 => pur Try.prog (binS .neq 3 false false t97_1 t99_1) fun t100 => k_23 t100 w_59) (fun t100_1 w_60 => 
   gd t92 false (fun k_24 w_61 => pur Try.prog (pickS t95_1 t100_1 (.bool false)) fun t101 => k_24 t101 w_61) (fun t101_1 w_62 => 
   pur Try.prog (pickS t92 (.bool true) t101_1) fun t102 => 
   condS t102
    (Q (.bool false) w_62)
    (pur Try.prog (Op.unary .not t66) fun t104 => 
   condS t104
    (J_1  w_62)
    (pur Try.prog (binS .add 3 false true v_k (.int .i64 1)) fun t52 => 
   J_2 t52 w_62))) w_60) w_58) w_56) w_54) w_51) w_49) w_47) w_45) w_43) w_41) w_39) w_36) w_34) w_32) w_30) w_28) w_26) w_24) w_22) w_20) w_18) w_16) w_14) w_12) w_10) w_9) w_8) w_7)
    (J_1  w_7)) [(.int .i64 0)] w_3)
 (fun  w_63 => ∀ _j : Fr, 
  lp 1 (fun J_3 => fun v_i_1 w_64 => ∀ _j : Fr, 
   callS Try.prog 10 #[t22] (fun t107 w_65 => 
   pur Try.prog (Builtin.len_ #[33] 3 #[t107]) fun t108 => 
   pur Try.prog (binS .lss 3 false false v_i_1 t108) fun t109 => 
   condS t109
    (callS Try.prog 7 #[t22] (fun t114 w_66 => 
   pur Try.prog (Instr.extract t114 0) fun t115 => 
   pur Try.prog (Instr.extract t114 1) fun _ => 
   pur Try.prog (Instr.extract t114 2) fun _ => 
   pur Try.prog (binS .leq 3 false false t115 v_now) fun t120 => 
   condS t120
    (Q (.bool false) w_66)
    (pur Try.prog (binS .add 3 false true v_i_1 (.int .i64 1)) fun t111 => 
   J_3 t111 w_66)) w_65)
    (callS Try.prog 4 #[] (fun t121 w_67 => 
  Q t121 w_67) w_65)) w_64) [(.int .i64 0)] w_63))) [(.int .i64 0)] w_2)) w_2) w)
theorem eq3 (v_l v_now : Value) (Q : Value → World → Prop) (w : World) : semF Try.prog 3 [v_l, v_now] Q w = S3 v_l v_now Q w := by kernel_rfl
theorem ref3 {v_l v_now : Value} {Q : Value → World → Prop} {w : World} (h : S3 v_l v_now Q w) : callS Try.prog 3 #[v_l, v_now] Q w :=
  callS_of mix (fun a w => Try.call3 a w) (by kernel_rfl) (by rw [eq3]; exact h)
-- commons/commonslaw4.alive
def S4 (Q : Value → World → Prop) (w : World) : Prop :=
 callS Try.prog 11 #[] (fun t6 w_1 => 
 rd Try.prog (binS .eql 36 false true t6 (.pointer none)) (fun t8 => 
 gd t8 false (fun k w_2 => k t6 w_2) (fun t10_1 w_3 => 
 gd t8 false (fun k_1 w_4 => callS Try.prog 12 #[t10_1, (.int .i64 5), (.int .i64 50)] (fun t11 w_5 => k_1 t11 w_5) w_4) (fun t11_1 w_6 => 
 gd t8 false (fun k_2 w_7 => pur Try.prog (binS .neq 3 false true t11_1 (.int .i64 1)) fun t12 => k_2 t12 w_7) (fun t12_1 w_8 => 
 pur Try.prog (pickS t8 (.bool true) t12_1) fun t13 => 
 gd t13 false (fun k_3 w_9 => k_3 t6 w_9) (fun t15_1 w_10 => 
 gd t13 false (fun k_4 w_11 => callS Try.prog 12 #[t15_1, (.int .i64 3), (.int .i64 30)] (fun t16 w_12 => k_4 t16 w_12) w_11) (fun t16_1 w_13 => 
 gd t13 false (fun k_5 w_14 => pur Try.prog (binS .neq 3 false true t16_1 (.int .i64 2)) fun t17 => k_5 t17 w_14) (fun t17_1 w_15 => 
 pur Try.prog (pickS t13 (.bool true) t17_1) fun t18 => 
 condS t18
  (Q (.bool false) w_15)
  (callS Try.prog 13 #[t6, (.int .i64 4)] (fun t21 w_16 => 
 pur Try.prog (Instr.extract t21 0) fun t22 => 
 pur Try.prog (Instr.extract t21 1) fun t23 => 
 callS Try.prog 13 #[t6, (.int .i64 4)] (fun t26 w_17 => 
 pur Try.prog (Instr.extract t26 0) fun _ => 
 pur Try.prog (Instr.extract t26 1) fun t28 => 
 gd t23 true (fun k_6 w_18 => k_6 t22 w_18) (fun t31_1 w_19 => 
 gd t23 true (fun k_7 w_20 => pur Try.prog (binS .eql 3 false true t31_1 (.int .i64 30)) fun t32 => k_7 t32 w_20) (fun t32_1 w_21 => 
 pur Try.prog (pickS t23 t32_1 (.bool false)) fun t33 => 
 gd t33 true (fun k_8 w_22 => k_8 t28 w_22) (fun t35_1 w_23 => 
 gd t33 true (fun k_9 w_24 => pur Try.prog (Op.unary .not t35_1) fun t36 => k_9 t36 w_24) (fun t36_1 w_25 => 
 pur Try.prog (pickS t33 t36_1 (.bool false)) fun t37 => 
 gd t37 true (fun k_10 w_26 => k_10 t6 w_26) (fun t39_1 w_27 => 
 gd t37 true (fun k_11 w_28 => callS Try.prog 14 #[t39_1] (fun t40 w_29 => k_11 t40 w_29) w_28) (fun t40_1 w_30 => 
 gd t37 true (fun k_12 w_31 => pur Try.prog (binS .eql 3 false true t40_1 (.int .i64 1)) fun t41 => k_12 t41 w_31) (fun t41_1 w_32 => 
 pur Try.prog (pickS t37 t41_1 (.bool false)) fun t42 => 
 Q t42 w_32) w_30) w_27) w_25) w_23) w_21) w_19) w_17) w_16) w_15)) w_13) w_10) w_8) w_6) w_3) w_1) w_1) w
theorem eq4 (Q : Value → World → Prop) (w : World) : semF Try.prog 4 [] Q w = S4 Q w := by kernel_rfl
theorem ref4 {Q : Value → World → Prop} {w : World} (h : S4 Q w) : callS Try.prog 4 #[] Q w :=
  callS_of mix (fun a w => Try.call4 a w) (by kernel_rfl) (by rw [eq4]; exact h)
-- commons/heap.New[string]
def S5 (Q : Value → World → Prop) (w : World) : Prop :=
 pur Try.prog (Instr.build 44 #[]) fun t1 => 
 act Try.prog (Instr.box 44 t1) (fun t2 w_1 => 
 Q t2 w_1) w
theorem eq5 (Q : Value → World → Prop) (w : World) : semF Try.prog 5 [] Q w = S5 Q w := by kernel_rfl
theorem ref5 {Q : Value → World → Prop} {w : World} (h : S5 Q w) : callS Try.prog 5 #[] Q w :=
  callS_of mix (fun a w => Try.call5 a w) (by kernel_rfl) (by rw [eq5]; exact h)
-- (*commons/heap.Heap[string]).Put
def S6 (v_h v_at v_v : Value) (Q : Value → World → Prop) (w : World) : Prop :=
 rd Try.prog (binS .eql 24 false true v_h (.pointer none)) (fun t9 => 
 condS t9
  (Q (.int .i64 0) w)
  (jn 0 (fun J => 
  pur Try.prog (nilV v_h) fun t11 => 
  pur Try.prog (Instr.fieldAt 44 t11 1) fun t12 => 
  rd Try.prog (Instr.loadAt 42 t12) (fun t13 => 
  rd Try.prog (binS .eql 42 false true t13 (.map none)) (fun t14 => 
  condS t14
   (act Try.prog (Instr.makeMap 42 none) (fun t16 w_1 => 
   pur Try.prog (nilV v_h) fun t17 => 
   pur Try.prog (Instr.fieldAt 44 t17 1) fun t18 => 
   act Try.prog (thenU (Instr.storeAt 42 t18 t16)) (fun _ w_2 => 
   J  w_2) w_1) w)
   (J  w)) w) w)
 (fun  w_3 => ∀ _j : Fr, 
  pur Try.prog (nilV v_h) fun t20 => 
  pur Try.prog (Instr.fieldAt 44 t20 2) fun t21 => 
  rd Try.prog (Instr.loadAt 3 t21) (fun t22 => 
  pur Try.prog (binS .add 3 false true t22 (.int .i64 1)) fun t23 => 
  pur Try.prog (nilV v_h) fun t24 => 
  pur Try.prog (Instr.fieldAt 44 t24 2) fun t25 => 
  act Try.prog (thenU (Instr.storeAt 3 t25 t23)) (fun _ w_4 => 
  pur Try.prog (nilV v_h) fun t28 => 
  pur Try.prog (Instr.fieldAt 44 t28 2) fun t29 => 
  rd Try.prog (Instr.loadAt 3 t29) (fun t30 => 
  pur Try.prog (nilV v_h) fun t33 => 
  pur Try.prog (Instr.fieldAt 44 t33 0) fun t34 => 
  rd Try.prog (Instr.loadAt 41 t34) (fun t35 => 
  pur Try.prog (Builtin.len_ #[41] 3 #[t35]) fun t36 => 
  pur Try.prog (Instr.build 47 #[(0, v_at), (1, t30), (2, v_v), (3, t36)]) fun t37 => 
  act Try.prog (Instr.box 47 t37) (fun t38 w_5 => 
  pur Try.prog (nilV v_h) fun t41 => 
  pur Try.prog (Instr.fieldAt 44 t41 0) fun t42 => 
  rd Try.prog (Instr.loadAt 41 t42) (fun t43 => 
  act Try.prog (Instr.buildSlice 41 1 #[(0, t38)]) (fun t45 w_6 => 
  act Try.prog (Builtin.append_ #[41, 41] 41 #[t43, t45]) (fun t46 w_7 => 
  pur Try.prog (nilV v_h) fun t47 => 
  pur Try.prog (Instr.fieldAt 44 t47 0) fun t48 => 
  act Try.prog (thenU (Instr.storeAt 41 t48 t46)) (fun _ w_8 => 
  pur Try.prog (nilV v_h) fun t50 => 
  pur Try.prog (Instr.fieldAt 44 t50 1) fun t51 => 
  rd Try.prog (Instr.loadAt 42 t51) (fun t52 => 
  pur Try.prog (nilV t38) fun t54 => 
  pur Try.prog (Instr.fieldAt 47 t54 1) fun t55 => 
  rd Try.prog (Instr.loadAt 3 t55) (fun t56 => 
  act Try.prog (thenU (Instr.mapUpdate 42 t52 t56 t38)) (fun _ w_9 => 
  pur Try.prog (nilV t38) fun t60 => 
  pur Try.prog (Instr.fieldAt 47 t60 3) fun t61 => 
  rd Try.prog (Instr.loadAt 3 t61) (fun t62 => 
  callS Try.prog 15 #[v_h, t62] (fun _ w_10 => 
  pur Try.prog (nilV t38) fun t65 => 
  pur Try.prog (Instr.fieldAt 47 t65 1) fun t66 => 
  rd Try.prog (Instr.loadAt 3 t66) (fun t67 => 
  Q t67 w_10) w_10) w_9) w_9) (World.drew w_8)) (World.drew w_8)) (World.drew w_8)) w_7) w_6) w_5) w_5) (World.drew w_4)) (World.drew w_4)) (World.drew w_4)) w_3) w_3))) w
theorem eq6 (v_h v_at v_v : Value) (Q : Value → World → Prop) (w : World) : semF Try.prog 6 [v_h, v_at, v_v] Q w = S6 v_h v_at v_v Q w := by kernel_rfl
theorem ref6 {v_h v_at v_v : Value} {Q : Value → World → Prop} {w : World} (h : S6 v_h v_at v_v Q w) : callS Try.prog 6 #[v_h, v_at, v_v] Q w :=
  callS_of mix (fun a w => Try.call6 a w) (by kernel_rfl) (by rw [eq6]; exact h)
-- (*commons/heap.Heap[string]).First
def S7 (v_h : Value) (Q : Value → World → Prop) (w : World) : Prop :=
 callS Try.prog 8 #[v_h] (fun t7 w_1 => 
 pur Try.prog (binS .eql 3 false true t7 (.int .i64 0)) fun t8 => 
 condS t8
  (Q (.tuple #[(.int .i64 0), (.string ⟨#[]⟩), (.bool false)]) w_1)
  (pur Try.prog (nilV v_h) fun t11 => 
 pur Try.prog (Instr.fieldAt 44 t11 0) fun t12 => 
 rd Try.prog (Instr.loadAt 41 t12) (fun t13 => 
 pur Try.prog (Instr.indexAt 41 t13 (.int .i64 0)) fun t14 => 
 rd Try.prog (Instr.loadAt 45 t14) (fun t15 => 
 pur Try.prog (nilV t15) fun t16 => 
 pur Try.prog (Instr.fieldAt 47 t16 0) fun t17 => 
 rd Try.prog (Instr.loadAt 3 t17) (fun t18 => 
 pur Try.prog (nilV v_h) fun t20 => 
 pur Try.prog (Instr.fieldAt 44 t20 0) fun t21 => 
 rd Try.prog (Instr.loadAt 41 t21) (fun t22 => 
 pur Try.prog (Instr.indexAt 41 t22 (.int .i64 0)) fun t23 => 
 rd Try.prog (Instr.loadAt 45 t23) (fun t24 => 
 pur Try.prog (nilV t24) fun t25 => 
 pur Try.prog (Instr.fieldAt 47 t25 2) fun t26 => 
 rd Try.prog (Instr.loadAt 9 t26) (fun t27 => 
 Q (.tuple #[t18, t27, (.bool true)]) (World.drew w_1)) (World.drew w_1)) (World.drew w_1)) (World.drew w_1)) (World.drew w_1)) (World.drew w_1)) (World.drew w_1))) w
theorem eq7 (v_h : Value) (Q : Value → World → Prop) (w : World) : semF Try.prog 7 [v_h] Q w = S7 v_h Q w := by kernel_rfl
theorem ref7 {v_h : Value} {Q : Value → World → Prop} {w : World} (h : S7 v_h Q w) : callS Try.prog 7 #[v_h] Q w :=
  callS_of mix (fun a w => Try.call7 a w) (by kernel_rfl) (by rw [eq7]; exact h)
-- (*commons/heap.Heap[string]).Len
def S8 (v_h : Value) (Q : Value → World → Prop) (w : World) : Prop :=
 rd Try.prog (binS .eql 24 false true v_h (.pointer none)) (fun t4 => 
 condS t4
  (Q (.int .i64 0) w)
  (pur Try.prog (nilV v_h) fun t6 => 
 pur Try.prog (Instr.fieldAt 44 t6 0) fun t7 => 
 rd Try.prog (Instr.loadAt 41 t7) (fun t8 => 
 pur Try.prog (Builtin.len_ #[41] 3 #[t8]) fun t9 => 
 Q t9 w) w)) w
theorem eq8 (v_h : Value) (Q : Value → World → Prop) (w : World) : semF Try.prog 8 [v_h] Q w = S8 v_h Q w := by kernel_rfl
theorem ref8 {v_h : Value} {Q : Value → World → Prop} {w : World} (h : S8 v_h Q w) : callS Try.prog 8 #[v_h] Q w :=
  callS_of mix (fun a w => Try.call8 a w) (by kernel_rfl) (by rw [eq8]; exact h)
-- (*commons/heap.Heap[string]).Take
def S9 (v_h v_now : Value) (Q : Value → World → Prop) (w : World) : Prop :=
 callS Try.prog 7 #[v_h] (fun t12 w_1 => 
 pur Try.prog (Instr.extract t12 0) fun t13 => 
 pur Try.prog (Instr.extract t12 1) fun t14 => 
 pur Try.prog (Instr.extract t12 2) fun t15 => 
 pur Try.prog (Op.unary .not t15) fun t17 => 
 gd t17 false (fun k w_2 => k t13 w_2) (fun t19_1 w_3 => 
 gd t17 false (fun k_1 w_4 => k_1 v_now w_4) (fun t20_1 w_5 => 
 gd t17 false (fun k_2 w_6 => pur Try.prog (binS .gtr 3 false false t19_1 t20_1) fun t21 => k_2 t21 w_6) (fun t21_1 w_7 => 
 pur Try.prog (pickS t17 (.bool true) t21_1) fun t22 => 
 condS t22
  (Q (.tuple #[(.string ⟨#[]⟩), (.bool false)]) w_7)
  (pur Try.prog (nilV v_h) fun t26 => 
 pur Try.prog (Instr.fieldAt 44 t26 0) fun t27 => 
 rd Try.prog (Instr.loadAt 41 t27) (fun t28 => 
 pur Try.prog (Instr.indexAt 41 t28 (.int .i64 0)) fun t29 => 
 rd Try.prog (Instr.loadAt 45 t29) (fun t30 => 
 pur Try.prog (nilV t30) fun t31 => 
 pur Try.prog (Instr.fieldAt 47 t31 1) fun t32 => 
 rd Try.prog (Instr.loadAt 3 t32) (fun t33 => 
 callS Try.prog 16 #[v_h, t33] (fun _ w_8 => 
 Q (.tuple #[t14, (.bool true)]) w_8) w_7) w_7) w_7) w_7)) w_5) w_3) w_1) w
theorem eq9 (v_h v_now : Value) (Q : Value → World → Prop) (w : World) : semF Try.prog 9 [v_h, v_now] Q w = S9 v_h v_now Q w := by kernel_rfl
theorem ref9 {v_h v_now : Value} {Q : Value → World → Prop} {w : World} (h : S9 v_h v_now Q w) : callS Try.prog 9 #[v_h, v_now] Q w :=
  callS_of mix (fun a w => Try.call9 a w) (by kernel_rfl) (by rw [eq9]; exact h)
-- (*commons/heap.Heap[string]).List
def S10 (v_h : Value) (Q : Value → World → Prop) (w : World) : Prop :=
 rd Try.prog (binS .eql 24 false true v_h (.pointer none)) (fun t7 => 
 condS t7
  (Q (.slice none 0 0) w)
  (pur Try.prog (nilV v_h) fun t9 => 
 pur Try.prog (Instr.fieldAt 44 t9 0) fun t10 => 
 rd Try.prog (Instr.loadAt 41 t10) (fun t11 => 
 callS Try.prog 18 #[t11] (fun t12 w_1 => 
 callS Try.prog 17 #[t12, (.func (.func 19) #[] #[])] (fun t13 w_2 => 
 pur Try.prog (Builtin.len_ #[41] 3 #[t13]) fun t14 => 
 lp 2 (fun J => fun v_out t15 w_3 => ∀ _j : Fr, 
  pur Try.prog (binS .lss 3 false false t15 t14) fun t16 => 
  condS t16
   (pur Try.prog (Instr.indexAt 41 t13 t15) fun t17 => 
  rd Try.prog (Instr.loadAt 45 t17) (fun t18 => 
  pur Try.prog (nilV t18) fun t21 => 
  pur Try.prog (Instr.fieldAt 47 t21 2) fun t22 => 
  rd Try.prog (Instr.loadAt 9 t22) (fun t23 => 
  act Try.prog (Instr.buildSlice 33 1 #[(0, t23)]) (fun t24 w_4 => 
  act Try.prog (Builtin.append_ #[33, 33] 33 #[v_out, t24]) (fun t25 w_5 => 
  pur Try.prog (binS .add 3 false true t15 (.int .i64 1)) fun t26 => 
  J t25 t26 w_5) w_4) w_3) w_3) w_3)
   (Q v_out w_3)) [(.slice none 0 0), (.int .i64 0)] w_2) w_1) w) w)) w
theorem eq10 (v_h : Value) (Q : Value → World → Prop) (w : World) : semF Try.prog 10 [v_h] Q w = S10 v_h Q w := by kernel_rfl
theorem ref10 {v_h : Value} {Q : Value → World → Prop} {w : World} (h : S10 v_h Q w) : callS Try.prog 10 #[v_h] Q w :=
  callS_of mix (fun a w => Try.call10 a w) (by kernel_rfl) (by rw [eq10]; exact h)
-- commons/heap.New[int]
def S11 (Q : Value → World → Prop) (w : World) : Prop :=
 pur Try.prog (Instr.build 58 #[]) fun t1 => 
 act Try.prog (Instr.box 58 t1) (fun t2 w_1 => 
 Q t2 w_1) w
theorem eq11 (Q : Value → World → Prop) (w : World) : semF Try.prog 11 [] Q w = S11 Q w := by kernel_rfl
theorem ref11 {Q : Value → World → Prop} {w : World} (h : S11 Q w) : callS Try.prog 11 #[] Q w :=
  callS_of mix (fun a w => Try.call11 a w) (by kernel_rfl) (by rw [eq11]; exact h)
-- (*commons/heap.Heap[int]).Put
def S12 (v_h v_at v_v : Value) (Q : Value → World → Prop) (w : World) : Prop :=
 rd Try.prog (binS .eql 36 false true v_h (.pointer none)) (fun t9 => 
 condS t9
  (Q (.int .i64 0) w)
  (jn 0 (fun J => 
  pur Try.prog (nilV v_h) fun t11 => 
  pur Try.prog (Instr.fieldAt 58 t11 1) fun t12 => 
  rd Try.prog (Instr.loadAt 56 t12) (fun t13 => 
  rd Try.prog (binS .eql 56 false true t13 (.map none)) (fun t14 => 
  condS t14
   (act Try.prog (Instr.makeMap 56 none) (fun t16 w_1 => 
   pur Try.prog (nilV v_h) fun t17 => 
   pur Try.prog (Instr.fieldAt 58 t17 1) fun t18 => 
   act Try.prog (thenU (Instr.storeAt 56 t18 t16)) (fun _ w_2 => 
   J  w_2) w_1) w)
   (J  w)) w) w)
 (fun  w_3 => ∀ _j : Fr, 
  pur Try.prog (nilV v_h) fun t20 => 
  pur Try.prog (Instr.fieldAt 58 t20 2) fun t21 => 
  rd Try.prog (Instr.loadAt 3 t21) (fun t22 => 
  pur Try.prog (binS .add 3 false true t22 (.int .i64 1)) fun t23 => 
  pur Try.prog (nilV v_h) fun t24 => 
  pur Try.prog (Instr.fieldAt 58 t24 2) fun t25 => 
  act Try.prog (thenU (Instr.storeAt 3 t25 t23)) (fun _ w_4 => 
  pur Try.prog (nilV v_h) fun t28 => 
  pur Try.prog (Instr.fieldAt 58 t28 2) fun t29 => 
  rd Try.prog (Instr.loadAt 3 t29) (fun t30 => 
  pur Try.prog (nilV v_h) fun t33 => 
  pur Try.prog (Instr.fieldAt 58 t33 0) fun t34 => 
  rd Try.prog (Instr.loadAt 55 t34) (fun t35 => 
  pur Try.prog (Builtin.len_ #[55] 3 #[t35]) fun t36 => 
  pur Try.prog (Instr.build 61 #[(0, v_at), (1, t30), (2, v_v), (3, t36)]) fun t37 => 
  act Try.prog (Instr.box 61 t37) (fun t38 w_5 => 
  pur Try.prog (nilV v_h) fun t41 => 
  pur Try.prog (Instr.fieldAt 58 t41 0) fun t42 => 
  rd Try.prog (Instr.loadAt 55 t42) (fun t43 => 
  act Try.prog (Instr.buildSlice 55 1 #[(0, t38)]) (fun t45 w_6 => 
  act Try.prog (Builtin.append_ #[55, 55] 55 #[t43, t45]) (fun t46 w_7 => 
  pur Try.prog (nilV v_h) fun t47 => 
  pur Try.prog (Instr.fieldAt 58 t47 0) fun t48 => 
  act Try.prog (thenU (Instr.storeAt 55 t48 t46)) (fun _ w_8 => 
  pur Try.prog (nilV v_h) fun t50 => 
  pur Try.prog (Instr.fieldAt 58 t50 1) fun t51 => 
  rd Try.prog (Instr.loadAt 56 t51) (fun t52 => 
  pur Try.prog (nilV t38) fun t54 => 
  pur Try.prog (Instr.fieldAt 61 t54 1) fun t55 => 
  rd Try.prog (Instr.loadAt 3 t55) (fun t56 => 
  act Try.prog (thenU (Instr.mapUpdate 56 t52 t56 t38)) (fun _ w_9 => 
  pur Try.prog (nilV t38) fun t60 => 
  pur Try.prog (Instr.fieldAt 61 t60 3) fun t61 => 
  rd Try.prog (Instr.loadAt 3 t61) (fun t62 => 
  callS Try.prog 20 #[v_h, t62] (fun _ w_10 => 
  pur Try.prog (nilV t38) fun t65 => 
  pur Try.prog (Instr.fieldAt 61 t65 1) fun t66 => 
  rd Try.prog (Instr.loadAt 3 t66) (fun t67 => 
  Q t67 w_10) w_10) w_9) w_9) (World.drew w_8)) (World.drew w_8)) (World.drew w_8)) w_7) w_6) w_5) w_5) (World.drew w_4)) (World.drew w_4)) (World.drew w_4)) w_3) w_3))) w
theorem eq12 (v_h v_at v_v : Value) (Q : Value → World → Prop) (w : World) : semF Try.prog 12 [v_h, v_at, v_v] Q w = S12 v_h v_at v_v Q w := by kernel_rfl
theorem ref12 {v_h v_at v_v : Value} {Q : Value → World → Prop} {w : World} (h : S12 v_h v_at v_v Q w) : callS Try.prog 12 #[v_h, v_at, v_v] Q w :=
  callS_of mix (fun a w => Try.call12 a w) (by kernel_rfl) (by rw [eq12]; exact h)
-- (*commons/heap.Heap[int]).Take
def S13 (v_h v_now : Value) (Q : Value → World → Prop) (w : World) : Prop :=
 callS Try.prog 21 #[v_h] (fun t12 w_1 => 
 pur Try.prog (Instr.extract t12 0) fun t13 => 
 pur Try.prog (Instr.extract t12 1) fun t14 => 
 pur Try.prog (Instr.extract t12 2) fun t15 => 
 pur Try.prog (Op.unary .not t15) fun t17 => 
 gd t17 false (fun k w_2 => k t13 w_2) (fun t19_1 w_3 => 
 gd t17 false (fun k_1 w_4 => k_1 v_now w_4) (fun t20_1 w_5 => 
 gd t17 false (fun k_2 w_6 => pur Try.prog (binS .gtr 3 false false t19_1 t20_1) fun t21 => k_2 t21 w_6) (fun t21_1 w_7 => 
 pur Try.prog (pickS t17 (.bool true) t21_1) fun t22 => 
 condS t22
  (Q (.tuple #[(.int .i64 0), (.bool false)]) w_7)
  (pur Try.prog (nilV v_h) fun t26 => 
 pur Try.prog (Instr.fieldAt 58 t26 0) fun t27 => 
 rd Try.prog (Instr.loadAt 55 t27) (fun t28 => 
 pur Try.prog (Instr.indexAt 55 t28 (.int .i64 0)) fun t29 => 
 rd Try.prog (Instr.loadAt 59 t29) (fun t30 => 
 pur Try.prog (nilV t30) fun t31 => 
 pur Try.prog (Instr.fieldAt 61 t31 1) fun t32 => 
 rd Try.prog (Instr.loadAt 3 t32) (fun t33 => 
 callS Try.prog 22 #[v_h, t33] (fun _ w_8 => 
 Q (.tuple #[t14, (.bool true)]) w_8) w_7) w_7) w_7) w_7)) w_5) w_3) w_1) w
theorem eq13 (v_h v_now : Value) (Q : Value → World → Prop) (w : World) : semF Try.prog 13 [v_h, v_now] Q w = S13 v_h v_now Q w := by kernel_rfl
theorem ref13 {v_h v_now : Value} {Q : Value → World → Prop} {w : World} (h : S13 v_h v_now Q w) : callS Try.prog 13 #[v_h, v_now] Q w :=
  callS_of mix (fun a w => Try.call13 a w) (by kernel_rfl) (by rw [eq13]; exact h)
-- (*commons/heap.Heap[int]).Len
def S14 (v_h : Value) (Q : Value → World → Prop) (w : World) : Prop :=
 rd Try.prog (binS .eql 36 false true v_h (.pointer none)) (fun t4 => 
 condS t4
  (Q (.int .i64 0) w)
  (pur Try.prog (nilV v_h) fun t6 => 
 pur Try.prog (Instr.fieldAt 58 t6 0) fun t7 => 
 rd Try.prog (Instr.loadAt 55 t7) (fun t8 => 
 pur Try.prog (Builtin.len_ #[55] 3 #[t8]) fun t9 => 
 Q t9 w) w)) w
theorem eq14 (v_h : Value) (Q : Value → World → Prop) (w : World) : semF Try.prog 14 [v_h] Q w = S14 v_h Q w := by kernel_rfl
theorem ref14 {v_h : Value} {Q : Value → World → Prop} {w : World} (h : S14 v_h Q w) : callS Try.prog 14 #[v_h] Q w :=
  callS_of mix (fun a w => Try.call14 a w) (by kernel_rfl) (by rw [eq14]; exact h)
-- (*commons/heap.Heap[string]).up
def S15 (v_h v_i : Value) (Q : Value → World → Prop) (w : World) : Prop :=
 lp 1 (fun J => fun v_i_1 w_1 => ∀ _j : Fr, 
  pur Try.prog (binS .gtr 3 false true v_i_1 (.int .i64 0)) fun t5 => 
  gd t5 true (fun k w_2 => k v_h w_2) (fun t7_1 w_3 => 
  gd t5 true (fun k_1 w_4 => pur Try.prog (nilV t7_1) fun t8 => k_1 t8 w_4) (fun t8_1 w_5 => 
  gd t5 true (fun k_2 w_6 => pur Try.prog (Instr.fieldAt 44 t8_1 0) fun t9 => k_2 t9 w_6) (fun t9_1 w_7 => 
  gd t5 true (fun k_3 w_8 => rd Try.prog (Instr.loadAt 41 t9_1) (fun t10 => k_3 t10 w_8) w_8) (fun t10_1 w_9 => 
  gd t5 true (fun k_4 w_10 => k_4 v_i_1 w_10) (fun t11_1 w_11 => 
  gd t5 true (fun k_5 w_12 => pur Try.prog (Instr.indexAt 41 t10_1 t11_1) fun t12 => k_5 t12 w_12) (fun t12_1 w_13 => 
  gd t5 true (fun k_6 w_14 => rd Try.prog (Instr.loadAt 45 t12_1) (fun t13 => k_6 t13 w_14) w_14) (fun t13_1 w_15 => 
  gd t5 true (fun k_7 w_16 => k_7 v_h w_16) (fun t14_1 w_17 => 
  gd t5 true (fun k_8 w_18 => pur Try.prog (nilV t14_1) fun t15 => k_8 t15 w_18) (fun t15_1 w_19 => 
  gd t5 true (fun k_9 w_20 => pur Try.prog (Instr.fieldAt 44 t15_1 0) fun t16 => k_9 t16 w_20) (fun t16_1 w_21 => 
  gd t5 true (fun k_10 w_22 => rd Try.prog (Instr.loadAt 41 t16_1) (fun t17 => k_10 t17 w_22) w_22) (fun t17_1 w_23 => 
  gd t5 true (fun k_11 w_24 => k_11 v_i_1 w_24) (fun t18_1 w_25 => 
  gd t5 true (fun k_12 w_26 => pur Try.prog (binS .sub 3 false true t18_1 (.int .i64 1)) fun t19 => k_12 t19 w_26) (fun t19_1 w_27 => 
  gd t5 true (fun k_13 w_28 => pur Try.prog (binS .quo 3 false true t19_1 (.int .i64 2)) fun t20 => k_13 t20 w_28) (fun t20_1 w_29 => 
  gd t5 true (fun k_14 w_30 => pur Try.prog (Instr.indexAt 41 t17_1 t20_1) fun t21 => k_14 t21 w_30) (fun t21_1 w_31 => 
  gd t5 true (fun k_15 w_32 => rd Try.prog (Instr.loadAt 45 t21_1) (fun t22 => k_15 t22 w_32) w_32) (fun t22_1 w_33 => 
  gd t5 true (fun k_16 w_34 => callS Try.prog 19 #[t13_1, t22_1] (fun t23 w_35 => k_16 t23 w_35) w_34) (fun t23_1 w_36 => 
  gd t5 true (fun k_17 w_37 => pur Try.prog (binS .lss 3 false true t23_1 (.int .i64 0)) fun t24 => k_17 t24 w_37) (fun t24_1 w_38 => 
  pur Try.prog (pickS t5 t24_1 (.bool false)) fun t25 => 
  condS t25
   (pur Try.prog (binS .sub 3 false true v_i_1 (.int .i64 1)) fun t29 => 
  pur Try.prog (binS .quo 3 false true t29 (.int .i64 2)) fun t30 => 
  callS Try.prog 23 #[v_h, v_i_1, t30] (fun _ w_39 => 
  pur Try.prog (binS .sub 3 false true v_i_1 (.int .i64 1)) fun t33 => 
  pur Try.prog (binS .quo 3 false true t33 (.int .i64 2)) fun t34 => 
  J t34 w_39) w_38)
   (Q (.tuple #[]) w_38)) w_36) w_33) w_31) w_29) w_27) w_25) w_23) w_21) w_19) w_17) w_15) w_13) w_11) w_9) w_7) w_5) w_3) (World.drew w_1)) [v_i] w
theorem eq15 (v_h v_i : Value) (Q : Value → World → Prop) (w : World) : semF Try.prog 15 [v_h, v_i] Q w = S15 v_h v_i Q w := by kernel_rfl
theorem ref15 {v_h v_i : Value} {Q : Value → World → Prop} {w : World} (h : S15 v_h v_i Q w) : callS Try.prog 15 #[v_h, v_i] Q w :=
  callS_of mix (fun a w => Try.call15 a w) (by kernel_rfl) (by rw [eq15]; exact h)
-- (*commons/heap.Heap[string]).Cancel
def S16 (v_h v_id : Value) (Q : Value → World → Prop) (w : World) : Prop :=
 rd Try.prog (binS .eql 24 false true v_h (.pointer none)) (fun t8 => 
 gd t8 false (fun k w_1 => k v_h w_1) (fun t10_1 w_2 => 
 gd t8 false (fun k_1 w_3 => pur Try.prog (nilV t10_1) fun t11 => k_1 t11 w_3) (fun t11_1 w_4 => 
 gd t8 false (fun k_2 w_5 => pur Try.prog (Instr.fieldAt 44 t11_1 1) fun t12 => k_2 t12 w_5) (fun t12_1 w_6 => 
 gd t8 false (fun k_3 w_7 => rd Try.prog (Instr.loadAt 42 t12_1) (fun t13 => k_3 t13 w_7) w_7) (fun t13_1 w_8 => 
 gd t8 false (fun k_4 w_9 => k_4 v_id w_9) (fun t14_1 w_10 => 
 gd t8 false (fun k_5 w_11 => rd Try.prog (Instr.lookup 42 t13_1 t14_1 false) (fun t15 => k_5 t15 w_11) w_11) (fun t15_1 w_12 => 
 gd t8 false (fun k_6 w_13 => rd Try.prog (binS .eql 45 false true t15_1 (.pointer none)) (fun t16 => k_6 t16 w_13) w_13) (fun t16_1 w_14 => 
 pur Try.prog (pickS t8 (.bool true) t16_1) fun t17 => 
 condS t17
  (Q (.bool false) w_14)
  (pur Try.prog (nilV v_h) fun t19 => 
 pur Try.prog (Instr.fieldAt 44 t19 1) fun t20 => 
 rd Try.prog (Instr.loadAt 42 t20) (fun t21 => 
 rd Try.prog (Instr.lookup 42 t21 v_id false) (fun t23 => 
 pur Try.prog (nilV t23) fun t24 => 
 pur Try.prog (Instr.fieldAt 47 t24 3) fun t25 => 
 rd Try.prog (Instr.loadAt 3 t25) (fun t26 => 
 pur Try.prog (nilV v_h) fun t28 => 
 pur Try.prog (Instr.fieldAt 44 t28 0) fun t29 => 
 rd Try.prog (Instr.loadAt 41 t29) (fun t30 => 
 pur Try.prog (Builtin.len_ #[41] 3 #[t30]) fun t31 => 
 pur Try.prog (binS .sub 3 false true t31 (.int .i64 1)) fun t32 => 
 callS Try.prog 23 #[v_h, t26, t32] (fun _ w_15 => 
 pur Try.prog (nilV v_h) fun t38 => 
 pur Try.prog (Instr.fieldAt 44 t38 0) fun t39 => 
 rd Try.prog (Instr.loadAt 41 t39) (fun t40 => 
 pur Try.prog (Instr.indexAt 41 t40 t32) fun t42 => 
 act Try.prog (thenU (Instr.storeAt 45 t42 (.pointer none))) (fun _ w_16 => 
 pur Try.prog (nilV v_h) fun t45 => 
 pur Try.prog (Instr.fieldAt 44 t45 0) fun t46 => 
 rd Try.prog (Instr.loadAt 41 t46) (fun t47 => 
 pur Try.prog (Instr.sliceAt 41 t47 none (some t32) none) fun t49 => 
 pur Try.prog (nilV v_h) fun t50 => 
 pur Try.prog (Instr.fieldAt 44 t50 0) fun t51 => 
 act Try.prog (thenU (Instr.storeAt 41 t51 t49)) (fun _ w_17 => 
 pur Try.prog (nilV v_h) fun t53 => 
 pur Try.prog (Instr.fieldAt 44 t53 1) fun t54 => 
 rd Try.prog (Instr.loadAt 42 t54) (fun t55 => 
 act Try.prog (Builtin.delete_ #[42, 3] 0 #[t55, v_id]) (fun _ w_18 => 
 jn 0 (fun J => 
  pur Try.prog (binS .lss 3 false false t26 t32) fun t59 => 
  condS t59
   (callS Try.prog 15 #[v_h, t26] (fun _ w_19 => 
   callS Try.prog 24 #[v_h, t26] (fun _ w_20 => 
   J  w_20) w_19) w_18)
   (J  w_18))
 (fun  w_21 => ∀ _j : Fr, 
  Q (.bool true) w_21)) w_17) w_17) w_16) w_16) w_15) w_15) (World.drew w_14)) (World.drew w_14)) (World.drew w_14)) (World.drew w_14)) (World.drew w_14))) w_12) w_10) w_8) w_6) w_4) w_2) w) w
theorem eq16 (v_h v_id : Value) (Q : Value → World → Prop) (w : World) : semF Try.prog 16 [v_h, v_id] Q w = S16 v_h v_id Q w := by kernel_rfl
theorem ref16 {v_h v_id : Value} {Q : Value → World → Prop} {w : World} (h : S16 v_h v_id Q w) : callS Try.prog 16 #[v_h, v_id] Q w :=
  callS_of mix (fun a w => Try.call16 a w) (by kernel_rfl) (by rw [eq16]; exact h)
-- slices.SortedFunc[*commons/heap.item[string]]
def S17 (v_seq v_cmp : Value) (Q : Value → World → Prop) (w : World) : Prop :=
 callS Try.prog 25 #[v_seq] (fun t7 w_1 => 
 callS Try.prog 26 #[t7, v_cmp] (fun _ w_2 => 
 Q t7 w_2) w_1) w
theorem eq17 (v_seq v_cmp : Value) (Q : Value → World → Prop) (w : World) : semF Try.prog 17 [v_seq, v_cmp] Q w = S17 v_seq v_cmp Q w := by kernel_rfl
theorem ref17 {v_seq v_cmp : Value} {Q : Value → World → Prop} {w : World} (h : S17 v_seq v_cmp Q w) : callS Try.prog 17 #[v_seq, v_cmp] Q w :=
  callS_of mix (fun a w => Try.call17 a w) (by kernel_rfl) (by rw [eq17]; exact h)
-- slices.Values[[]*commons/heap.item[string],*commons/heap.item[string]]
def S18 (v_s : Value) (Q : Value → World → Prop) (w : World) : Prop :=
 act Try.prog (Instr.box 41 v_s) (fun t1 w_1 => 
 pur Try.prog (pure (.func (.func 27) #[] #[t1])) fun t3 => 
 Q t3 w_1) w
theorem eq18 (v_s : Value) (Q : Value → World → Prop) (w : World) : semF Try.prog 18 [v_s] Q w = S18 v_s Q w := by kernel_rfl
theorem ref18 {v_s : Value} {Q : Value → World → Prop} {w : World} (h : S18 v_s Q w) : callS Try.prog 18 #[v_s] Q w :=
  callS_of mix (fun a w => Try.call18 a w) (by kernel_rfl) (by rw [eq18]; exact h)
-- commons/heap.compare[string]
def S19 (v_a v_b : Value) (Q : Value → World → Prop) (w : World) : Prop :=
 ∃ S : World → Prop, S (World.drew w) ∧ 
 pur Try.prog (nilV v_a) fun t6 => 
 pur Try.prog (Instr.fieldAt 47 t6 0) fun t7 => 
 hld Try.prog S (Instr.loadAt 3 t7) fun t8 => 
 pur Try.prog (nilV v_b) fun t10 => 
 pur Try.prog (Instr.fieldAt 47 t10 0) fun t11 => 
 hld Try.prog S (Instr.loadAt 3 t11) fun t12 => 
 callS Try.prog 29 #[t8, t12] (fun t13 w_1 => S w_1 ∧ 
 pur Try.prog (nilV v_a) fun t15 => 
 pur Try.prog (Instr.fieldAt 47 t15 1) fun t16 => 
 hld Try.prog S (Instr.loadAt 3 t16) fun t17 => 
 pur Try.prog (nilV v_b) fun t19 => 
 pur Try.prog (Instr.fieldAt 47 t19 1) fun t20 => 
 hld Try.prog S (Instr.loadAt 3 t20) fun t21 => 
 callS Try.prog 29 #[t17, t21] (fun t22 w_2 => S w_2 ∧ 
 act Try.prog (Instr.buildSlice 22 2 #[(0, t13), (1, t22)]) (fun t23 w_3 => S w_3 ∧ 
 callS Try.prog 28 #[t23] (fun t24 w_4 => S w_4 ∧ 
 Q t24 w_4) w_3) w_2) w_1) (World.drew w)
theorem eq19 (v_a v_b : Value) (Q : Value → World → Prop) (w : World) : semF Try.prog 19 [v_a, v_b] Q w = S19 v_a v_b Q w := by kernel_rfl
theorem ref19 {v_a v_b : Value} {Q : Value → World → Prop} {w : World} (h : S19 v_a v_b Q w) : callS Try.prog 19 #[v_a, v_b] Q w :=
  callS_of mix (fun a w => Try.call19 a w) (by kernel_rfl) (by rw [eq19]; exact h)
-- (*commons/heap.Heap[int]).up
def S20 (v_h v_i : Value) (Q : Value → World → Prop) (w : World) : Prop :=
 lp 1 (fun J => fun v_i_1 w_1 => ∀ _j : Fr, 
  pur Try.prog (binS .gtr 3 false true v_i_1 (.int .i64 0)) fun t5 => 
  gd t5 true (fun k w_2 => k v_h w_2) (fun t7_1 w_3 => 
  gd t5 true (fun k_1 w_4 => pur Try.prog (nilV t7_1) fun t8 => k_1 t8 w_4) (fun t8_1 w_5 => 
  gd t5 true (fun k_2 w_6 => pur Try.prog (Instr.fieldAt 58 t8_1 0) fun t9 => k_2 t9 w_6) (fun t9_1 w_7 => 
  gd t5 true (fun k_3 w_8 => rd Try.prog (Instr.loadAt 55 t9_1) (fun t10 => k_3 t10 w_8) w_8) (fun t10_1 w_9 => 
  gd t5 true (fun k_4 w_10 => k_4 v_i_1 w_10) (fun t11_1 w_11 => 
  gd t5 true (fun k_5 w_12 => pur Try.prog (Instr.indexAt 55 t10_1 t11_1) fun t12 => k_5 t12 w_12) (fun t12_1 w_13 => 
  gd t5 true (fun k_6 w_14 => rd Try.prog (Instr.loadAt 59 t12_1) (fun t13 => k_6 t13 w_14) w_14) (fun t13_1 w_15 => 
  gd t5 true (fun k_7 w_16 => k_7 v_h w_16) (fun t14_1 w_17 => 
  gd t5 true (fun k_8 w_18 => pur Try.prog (nilV t14_1) fun t15 => k_8 t15 w_18) (fun t15_1 w_19 => 
  gd t5 true (fun k_9 w_20 => pur Try.prog (Instr.fieldAt 58 t15_1 0) fun t16 => k_9 t16 w_20) (fun t16_1 w_21 => 
  gd t5 true (fun k_10 w_22 => rd Try.prog (Instr.loadAt 55 t16_1) (fun t17 => k_10 t17 w_22) w_22) (fun t17_1 w_23 => 
  gd t5 true (fun k_11 w_24 => k_11 v_i_1 w_24) (fun t18_1 w_25 => 
  gd t5 true (fun k_12 w_26 => pur Try.prog (binS .sub 3 false true t18_1 (.int .i64 1)) fun t19 => k_12 t19 w_26) (fun t19_1 w_27 => 
  gd t5 true (fun k_13 w_28 => pur Try.prog (binS .quo 3 false true t19_1 (.int .i64 2)) fun t20 => k_13 t20 w_28) (fun t20_1 w_29 => 
  gd t5 true (fun k_14 w_30 => pur Try.prog (Instr.indexAt 55 t17_1 t20_1) fun t21 => k_14 t21 w_30) (fun t21_1 w_31 => 
  gd t5 true (fun k_15 w_32 => rd Try.prog (Instr.loadAt 59 t21_1) (fun t22 => k_15 t22 w_32) w_32) (fun t22_1 w_33 => 
  gd t5 true (fun k_16 w_34 => callS Try.prog 30 #[t13_1, t22_1] (fun t23 w_35 => k_16 t23 w_35) w_34) (fun t23_1 w_36 => 
  gd t5 true (fun k_17 w_37 => pur Try.prog (binS .lss 3 false true t23_1 (.int .i64 0)) fun t24 => k_17 t24 w_37) (fun t24_1 w_38 => 
  pur Try.prog (pickS t5 t24_1 (.bool false)) fun t25 => 
  condS t25
   (pur Try.prog (binS .sub 3 false true v_i_1 (.int .i64 1)) fun t29 => 
  pur Try.prog (binS .quo 3 false true t29 (.int .i64 2)) fun t30 => 
  callS Try.prog 31 #[v_h, v_i_1, t30] (fun _ w_39 => 
  pur Try.prog (binS .sub 3 false true v_i_1 (.int .i64 1)) fun t33 => 
  pur Try.prog (binS .quo 3 false true t33 (.int .i64 2)) fun t34 => 
  J t34 w_39) w_38)
   (Q (.tuple #[]) w_38)) w_36) w_33) w_31) w_29) w_27) w_25) w_23) w_21) w_19) w_17) w_15) w_13) w_11) w_9) w_7) w_5) w_3) (World.drew w_1)) [v_i] w
theorem eq20 (v_h v_i : Value) (Q : Value → World → Prop) (w : World) : semF Try.prog 20 [v_h, v_i] Q w = S20 v_h v_i Q w := by kernel_rfl
theorem ref20 {v_h v_i : Value} {Q : Value → World → Prop} {w : World} (h : S20 v_h v_i Q w) : callS Try.prog 20 #[v_h, v_i] Q w :=
  callS_of mix (fun a w => Try.call20 a w) (by kernel_rfl) (by rw [eq20]; exact h)
-- (*commons/heap.Heap[int]).First
def S21 (v_h : Value) (Q : Value → World → Prop) (w : World) : Prop :=
 callS Try.prog 14 #[v_h] (fun t7 w_1 => 
 pur Try.prog (binS .eql 3 false true t7 (.int .i64 0)) fun t8 => 
 condS t8
  (Q (.tuple #[(.int .i64 0), (.int .i64 0), (.bool false)]) w_1)
  (pur Try.prog (nilV v_h) fun t11 => 
 pur Try.prog (Instr.fieldAt 58 t11 0) fun t12 => 
 rd Try.prog (Instr.loadAt 55 t12) (fun t13 => 
 pur Try.prog (Instr.indexAt 55 t13 (.int .i64 0)) fun t14 => 
 rd Try.prog (Instr.loadAt 59 t14) (fun t15 => 
 pur Try.prog (nilV t15) fun t16 => 
 pur Try.prog (Instr.fieldAt 61 t16 0) fun t17 => 
 rd Try.prog (Instr.loadAt 3 t17) (fun t18 => 
 pur Try.prog (nilV v_h) fun t20 => 
 pur Try.prog (Instr.fieldAt 58 t20 0) fun t21 => 
 rd Try.prog (Instr.loadAt 55 t21) (fun t22 => 
 pur Try.prog (Instr.indexAt 55 t22 (.int .i64 0)) fun t23 => 
 rd Try.prog (Instr.loadAt 59 t23) (fun t24 => 
 pur Try.prog (nilV t24) fun t25 => 
 pur Try.prog (Instr.fieldAt 61 t25 2) fun t26 => 
 rd Try.prog (Instr.loadAt 3 t26) (fun t27 => 
 Q (.tuple #[t18, t27, (.bool true)]) (World.drew w_1)) (World.drew w_1)) (World.drew w_1)) (World.drew w_1)) (World.drew w_1)) (World.drew w_1)) (World.drew w_1))) w
theorem eq21 (v_h : Value) (Q : Value → World → Prop) (w : World) : semF Try.prog 21 [v_h] Q w = S21 v_h Q w := by kernel_rfl
theorem ref21 {v_h : Value} {Q : Value → World → Prop} {w : World} (h : S21 v_h Q w) : callS Try.prog 21 #[v_h] Q w :=
  callS_of mix (fun a w => Try.call21 a w) (by kernel_rfl) (by rw [eq21]; exact h)
-- (*commons/heap.Heap[int]).Cancel
def S22 (v_h v_id : Value) (Q : Value → World → Prop) (w : World) : Prop :=
 rd Try.prog (binS .eql 36 false true v_h (.pointer none)) (fun t8 => 
 gd t8 false (fun k w_1 => k v_h w_1) (fun t10_1 w_2 => 
 gd t8 false (fun k_1 w_3 => pur Try.prog (nilV t10_1) fun t11 => k_1 t11 w_3) (fun t11_1 w_4 => 
 gd t8 false (fun k_2 w_5 => pur Try.prog (Instr.fieldAt 58 t11_1 1) fun t12 => k_2 t12 w_5) (fun t12_1 w_6 => 
 gd t8 false (fun k_3 w_7 => rd Try.prog (Instr.loadAt 56 t12_1) (fun t13 => k_3 t13 w_7) w_7) (fun t13_1 w_8 => 
 gd t8 false (fun k_4 w_9 => k_4 v_id w_9) (fun t14_1 w_10 => 
 gd t8 false (fun k_5 w_11 => rd Try.prog (Instr.lookup 56 t13_1 t14_1 false) (fun t15 => k_5 t15 w_11) w_11) (fun t15_1 w_12 => 
 gd t8 false (fun k_6 w_13 => rd Try.prog (binS .eql 59 false true t15_1 (.pointer none)) (fun t16 => k_6 t16 w_13) w_13) (fun t16_1 w_14 => 
 pur Try.prog (pickS t8 (.bool true) t16_1) fun t17 => 
 condS t17
  (Q (.bool false) w_14)
  (pur Try.prog (nilV v_h) fun t19 => 
 pur Try.prog (Instr.fieldAt 58 t19 1) fun t20 => 
 rd Try.prog (Instr.loadAt 56 t20) (fun t21 => 
 rd Try.prog (Instr.lookup 56 t21 v_id false) (fun t23 => 
 pur Try.prog (nilV t23) fun t24 => 
 pur Try.prog (Instr.fieldAt 61 t24 3) fun t25 => 
 rd Try.prog (Instr.loadAt 3 t25) (fun t26 => 
 pur Try.prog (nilV v_h) fun t28 => 
 pur Try.prog (Instr.fieldAt 58 t28 0) fun t29 => 
 rd Try.prog (Instr.loadAt 55 t29) (fun t30 => 
 pur Try.prog (Builtin.len_ #[55] 3 #[t30]) fun t31 => 
 pur Try.prog (binS .sub 3 false true t31 (.int .i64 1)) fun t32 => 
 callS Try.prog 31 #[v_h, t26, t32] (fun _ w_15 => 
 pur Try.prog (nilV v_h) fun t38 => 
 pur Try.prog (Instr.fieldAt 58 t38 0) fun t39 => 
 rd Try.prog (Instr.loadAt 55 t39) (fun t40 => 
 pur Try.prog (Instr.indexAt 55 t40 t32) fun t42 => 
 act Try.prog (thenU (Instr.storeAt 59 t42 (.pointer none))) (fun _ w_16 => 
 pur Try.prog (nilV v_h) fun t45 => 
 pur Try.prog (Instr.fieldAt 58 t45 0) fun t46 => 
 rd Try.prog (Instr.loadAt 55 t46) (fun t47 => 
 pur Try.prog (Instr.sliceAt 55 t47 none (some t32) none) fun t49 => 
 pur Try.prog (nilV v_h) fun t50 => 
 pur Try.prog (Instr.fieldAt 58 t50 0) fun t51 => 
 act Try.prog (thenU (Instr.storeAt 55 t51 t49)) (fun _ w_17 => 
 pur Try.prog (nilV v_h) fun t53 => 
 pur Try.prog (Instr.fieldAt 58 t53 1) fun t54 => 
 rd Try.prog (Instr.loadAt 56 t54) (fun t55 => 
 act Try.prog (Builtin.delete_ #[56, 3] 0 #[t55, v_id]) (fun _ w_18 => 
 jn 0 (fun J => 
  pur Try.prog (binS .lss 3 false false t26 t32) fun t59 => 
  condS t59
   (callS Try.prog 20 #[v_h, t26] (fun _ w_19 => 
   callS Try.prog 32 #[v_h, t26] (fun _ w_20 => 
   J  w_20) w_19) w_18)
   (J  w_18))
 (fun  w_21 => ∀ _j : Fr, 
  Q (.bool true) w_21)) w_17) w_17) w_16) w_16) w_15) w_15) (World.drew w_14)) (World.drew w_14)) (World.drew w_14)) (World.drew w_14)) (World.drew w_14))) w_12) w_10) w_8) w_6) w_4) w_2) w) w
theorem eq22 (v_h v_id : Value) (Q : Value → World → Prop) (w : World) : semF Try.prog 22 [v_h, v_id] Q w = S22 v_h v_id Q w := by kernel_rfl
theorem ref22 {v_h v_id : Value} {Q : Value → World → Prop} {w : World} (h : S22 v_h v_id Q w) : callS Try.prog 22 #[v_h, v_id] Q w :=
  callS_of mix (fun a w => Try.call22 a w) (by kernel_rfl) (by rw [eq22]; exact h)
-- (*commons/heap.Heap[string]).swap
def S23 (v_h v_i v_j : Value) (Q : Value → World → Prop) (w : World) : Prop :=
 pur Try.prog (nilV v_h) fun t7 => 
 pur Try.prog (Instr.fieldAt 44 t7 0) fun t8 => 
 rd Try.prog (Instr.loadAt 41 t8) (fun t9 => 
 pur Try.prog (nilV v_h) fun t12 => 
 pur Try.prog (Instr.fieldAt 44 t12 0) fun t13 => 
 rd Try.prog (Instr.loadAt 41 t13) (fun t14 => 
 pur Try.prog (nilV v_h) fun t17 => 
 pur Try.prog (Instr.fieldAt 44 t17 0) fun t18 => 
 rd Try.prog (Instr.loadAt 41 t18) (fun t19 => 
 pur Try.prog (Instr.indexAt 41 t19 v_j) fun t21 => 
 rd Try.prog (Instr.loadAt 45 t21) (fun t22 => 
 pur Try.prog (nilV v_h) fun t24 => 
 pur Try.prog (Instr.fieldAt 44 t24 0) fun t25 => 
 rd Try.prog (Instr.loadAt 41 t25) (fun t26 => 
 pur Try.prog (Instr.indexAt 41 t26 v_i) fun t28 => 
 rd Try.prog (Instr.loadAt 45 t28) (fun t29 => 
 pur Try.prog (Instr.indexAt 41 t9 v_i) fun t30 => 
 act Try.prog (thenU (Instr.storeAt 45 t30 t22)) (fun _ w_1 => 
 pur Try.prog (Instr.indexAt 41 t14 v_j) fun t31 => 
 act Try.prog (thenU (Instr.storeAt 45 t31 t29)) (fun _ w_2 => 
 pur Try.prog (nilV v_h) fun t33 => 
 pur Try.prog (Instr.fieldAt 44 t33 0) fun t34 => 
 rd Try.prog (Instr.loadAt 41 t34) (fun t35 => 
 pur Try.prog (Instr.indexAt 41 t35 v_i) fun t37 => 
 rd Try.prog (Instr.loadAt 45 t37) (fun t38 => 
 pur Try.prog (nilV v_h) fun t40 => 
 pur Try.prog (Instr.fieldAt 44 t40 0) fun t41 => 
 rd Try.prog (Instr.loadAt 41 t41) (fun t42 => 
 pur Try.prog (Instr.indexAt 41 t42 v_j) fun t44 => 
 rd Try.prog (Instr.loadAt 45 t44) (fun t45 => 
 pur Try.prog (nilV t38) fun t48 => 
 pur Try.prog (Instr.fieldAt 47 t48 3) fun t49 => 
 act Try.prog (thenU (Instr.storeAt 3 t49 v_i)) (fun _ w_3 => 
 pur Try.prog (nilV t45) fun t50 => 
 pur Try.prog (Instr.fieldAt 47 t50 3) fun t51 => 
 act Try.prog (thenU (Instr.storeAt 3 t51 v_j)) (fun _ w_4 => 
 Q (.tuple #[]) w_4) w_3) (World.drew w_2)) (World.drew w_2)) (World.drew w_2)) (World.drew w_2)) (World.drew w_2)) w_1) (World.drew w)) (World.drew w)) (World.drew w)) (World.drew w)) (World.drew w)) (World.drew w)) (World.drew w)
theorem eq23 (v_h v_i v_j : Value) (Q : Value → World → Prop) (w : World) : semF Try.prog 23 [v_h, v_i, v_j] Q w = S23 v_h v_i v_j Q w := by kernel_rfl
theorem ref23 {v_h v_i v_j : Value} {Q : Value → World → Prop} {w : World} (h : S23 v_h v_i v_j Q w) : callS Try.prog 23 #[v_h, v_i, v_j] Q w :=
  callS_of mix (fun a w => Try.call23 a w) (by kernel_rfl) (by rw [eq23]; exact h)
-- (*commons/heap.Heap[string]).down
def S24 (v_h v_i : Value) (Q : Value → World → Prop) (w : World) : Prop :=
 lp 1 (fun J => fun v_i_1 w_1 => ∀ _j : Fr, 
  pur Try.prog (binS .mul 3 true false (.int .i64 2) v_i_1) fun t9 => 
  pur Try.prog (binS .add 3 false true t9 (.int .i64 1)) fun t10 => 
  pur Try.prog (binS .mul 3 true false (.int .i64 2) v_i_1) fun t12 => 
  pur Try.prog (binS .add 3 false true t12 (.int .i64 2)) fun t13 => 
  act Try.prog (Instr.buildSlice 22 2 #[(0, t10), (1, t13)]) (fun t14 w_2 => 
  pur Try.prog (Builtin.len_ #[22] 3 #[t14]) fun t15 => 
  lp 2 (fun J_1 => fun v_least t16 w_3 => ∀ _j : Fr, 
   pur Try.prog (binS .lss 3 false false t16 t15) fun t17 => 
   condS t17
    (jn 1 (fun J_2 => 
    pur Try.prog (Instr.indexAt 22 t14 t16) fun t18 => 
    rd Try.prog (Instr.loadAt 3 t18) (fun t19 => 
    pur Try.prog (nilV v_h) fun t22 => 
    pur Try.prog (Instr.fieldAt 44 t22 0) fun t23 => 
    rd Try.prog (Instr.loadAt 41 t23) (fun t24 => 
    pur Try.prog (Builtin.len_ #[41] 3 #[t24]) fun t25 => 
    pur Try.prog (binS .lss 3 false false t19 t25) fun t26 => 
    gd t26 true (fun k w_4 => k v_h w_4) (fun t28_1 w_5 => 
    gd t26 true (fun k_1 w_6 => pur Try.prog (nilV t28_1) fun t29 => k_1 t29 w_6) (fun t29_1 w_7 => 
    gd t26 true (fun k_2 w_8 => pur Try.prog (Instr.fieldAt 44 t29_1 0) fun t30 => k_2 t30 w_8) (fun t30_1 w_9 => 
    gd t26 true (fun k_3 w_10 => rd Try.prog (Instr.loadAt 41 t30_1) (fun t31 => k_3 t31 w_10) w_10) (fun t31_1 w_11 => 
    gd t26 true (fun k_4 w_12 => k_4 t19 w_12) (fun t32_1 w_13 => 
    gd t26 true (fun k_5 w_14 => pur Try.prog (Instr.indexAt 41 t31_1 t32_1) fun t33 => k_5 t33 w_14) (fun t33_1 w_15 => 
    gd t26 true (fun k_6 w_16 => rd Try.prog (Instr.loadAt 45 t33_1) (fun t34 => k_6 t34 w_16) w_16) (fun t34_1 w_17 => 
    gd t26 true (fun k_7 w_18 => k_7 v_h w_18) (fun t35_1 w_19 => 
    gd t26 true (fun k_8 w_20 => pur Try.prog (nilV t35_1) fun t36 => k_8 t36 w_20) (fun t36_1 w_21 => 
    gd t26 true (fun k_9 w_22 => pur Try.prog (Instr.fieldAt 44 t36_1 0) fun t37 => k_9 t37 w_22) (fun t37_1 w_23 => 
    gd t26 true (fun k_10 w_24 => rd Try.prog (Instr.loadAt 41 t37_1) (fun t38 => k_10 t38 w_24) w_24) (fun t38_1 w_25 => 
    gd t26 true (fun k_11 w_26 => k_11 v_least w_26) (fun t39_1 w_27 => 
    gd t26 true (fun k_12 w_28 => pur Try.prog (Instr.indexAt 41 t38_1 t39_1) fun t40 => k_12 t40 w_28) (fun t40_1 w_29 => 
    gd t26 true (fun k_13 w_30 => rd Try.prog (Instr.loadAt 45 t40_1) (fun t41 => k_13 t41 w_30) w_30) (fun t41_1 w_31 => 
    gd t26 true (fun k_14 w_32 => callS Try.prog 19 #[t34_1, t41_1] (fun t42 w_33 => k_14 t42 w_33) w_32) (fun t42_1 w_34 => 
    gd t26 true (fun k_15 w_35 => pur Try.prog (binS .lss 3 false true t42_1 (.int .i64 0)) fun t43 => k_15 t43 w_35) (fun t43_1 w_36 => 
    pur Try.prog (pickS t26 t43_1 (.bool false)) fun t44 => 
    condS t44
     (J_2 t19 w_36)
     (J_2 v_least w_36)) w_34) w_31) w_29) w_27) w_25) w_23) w_21) w_19) w_17) w_15) w_13) w_11) w_9) w_7) w_5) (World.drew w_3)) (World.drew w_3)) w_3)
   (fun v_least_1 w_37 => ∀ _j : Fr, 
    pur Try.prog (binS .add 3 false true t16 (.int .i64 1)) fun t46 => 
    J_1 v_least_1 t46 w_37))
    (pur Try.prog (binS .eql 3 false false v_least v_i_1) fun t49 => 
  condS t49
   (Q (.tuple #[]) w_3)
   (callS Try.prog 23 #[v_h, v_i_1, v_least] (fun _ w_38 => 
  J v_least w_38) w_3))) [v_i_1, (.int .i64 0)] w_2) w_1) [v_i] w
theorem eq24 (v_h v_i : Value) (Q : Value → World → Prop) (w : World) : semF Try.prog 24 [v_h, v_i] Q w = S24 v_h v_i Q w := by kernel_rfl
theorem ref24 {v_h v_i : Value} {Q : Value → World → Prop} {w : World} (h : S24 v_h v_i Q w) : callS Try.prog 24 #[v_h, v_i] Q w :=
  callS_of mix (fun a w => Try.call24 a w) (by kernel_rfl) (by rw [eq24]; exact h)
-- slices.Collect[*commons/heap.item[string]]
def S25 (v_seq : Value) (Q : Value → World → Prop) (w : World) : Prop :=
 callS Try.prog 33 #[(.slice none 0 0), v_seq] (fun t4 w_1 => 
 Q t4 w_1) w
theorem eq25 (v_seq : Value) (Q : Value → World → Prop) (w : World) : semF Try.prog 25 [v_seq] Q w = S25 v_seq Q w := by kernel_rfl
theorem ref25 {v_seq : Value} {Q : Value → World → Prop} {w : World} (h : S25 v_seq Q w) : callS Try.prog 25 #[v_seq] Q w :=
  callS_of mix (fun a w => Try.call25 a w) (by kernel_rfl) (by rw [eq25]; exact h)
-- slices.SortFunc[[]*commons/heap.item[string],*commons/heap.item[string]]
def S26 (v_x v_cmp : Value) (Q : Value → World → Prop) (w : World) : Prop :=
 pur Try.prog (Builtin.len_ #[41] 3 #[v_x]) fun t6 => 
 pur Try.prog (convert 3 73 t6) fun t10 => 
 callS Try.prog 35 #[t10] (fun t11 w_1 => 
 callS Try.prog 34 #[v_x, (.int .i64 0), t6, t11, v_cmp] (fun _ w_2 => 
 Q (.tuple #[]) w_2) w_1) w
theorem eq26 (v_x v_cmp : Value) (Q : Value → World → Prop) (w : World) : semF Try.prog 26 [v_x, v_cmp] Q w = S26 v_x v_cmp Q w := by kernel_rfl
theorem ref26 {v_x v_cmp : Value} {Q : Value → World → Prop} {w : World} (h : S26 v_x v_cmp Q w) : callS Try.prog 26 #[v_x, v_cmp] Q w :=
  callS_of mix (fun a w => Try.call26 a w) (by kernel_rfl) (by rw [eq26]; exact h)
-- slices.Values[[]*commons/heap.item[string],*commons/heap.item[string]]$1
def S27 (v_yield t1 : Value) (Q : Value → World → Prop) (w : World) : Prop :=
 rd Try.prog (Instr.loadAt 41 t1) (fun t5 => 
 pur Try.prog (Builtin.len_ #[41] 3 #[t5]) fun t6 => 
 lp 1 (fun J => fun t7 w_1 => ∀ _j : Fr, 
  pur Try.prog (binS .lss 3 false false t7 t6) fun t8 => 
  condS t8
   (pur Try.prog (Instr.indexAt 41 t5 t7) fun t9 => 
  rd Try.prog (Instr.loadAt 45 t9) (fun t10 => 
  callF Try.prog v_yield #[t10] (fun t13 w_2 => 
  pur Try.prog (Op.unary .not t13) fun t14 => 
  condS t14
   (Q (.tuple #[]) w_2)
   (pur Try.prog (binS .add 3 false true t7 (.int .i64 1)) fun t15 => 
  J t15 w_2)) w_1) w_1)
   (Q (.tuple #[]) w_1)) [(.int .i64 0)] w) w
theorem eq27 (v_yield t1 : Value) (Q : Value → World → Prop) (w : World) : semF Try.prog 27 [v_yield, t1] Q w = S27 v_yield t1 Q w := by kernel_rfl
theorem ref27 {v_yield t1 : Value} {Q : Value → World → Prop} {w : World} (h : S27 v_yield t1 Q w) : callS Try.prog 27 #[v_yield, t1] Q w :=
  callS_of mix (fun a w => Try.call27 a w) (by kernel_rfl) (by rw [eq27]; exact h)
-- cmp.Or[int]
def S28 (v_vals : Value) (Q : Value → World → Prop) (w : World) : Prop :=
 pur Try.prog (Builtin.len_ #[22] 3 #[v_vals]) fun t7 => 
 lp 1 (fun J => fun t8 w_1 => ∀ _j : Fr, 
  pur Try.prog (binS .lss 3 false false t8 t7) fun t9 => 
  condS t9
   (pur Try.prog (Instr.indexAt 22 v_vals t8) fun t10 => 
  rd Try.prog (Instr.loadAt 3 t10) (fun t11 => 
  pur Try.prog (binS .neq 3 false false t11 (.int .i64 0)) fun t14 => 
  condS t14
   (Q t11 w_1)
   (pur Try.prog (binS .add 3 false true t8 (.int .i64 1)) fun t16 => 
  J t16 w_1)) w_1)
   (Q (.int .i64 0) w_1)) [(.int .i64 0)] w
theorem eq28 (v_vals : Value) (Q : Value → World → Prop) (w : World) : semF Try.prog 28 [v_vals] Q w = S28 v_vals Q w := by kernel_rfl
theorem ref28 {v_vals : Value} {Q : Value → World → Prop} {w : World} (h : S28 v_vals Q w) : callS Try.prog 28 #[v_vals] Q w :=
  callS_of mix (fun a w => Try.call28 a w) (by kernel_rfl) (by rw [eq28]; exact h)
-- cmp.Compare[int]
def S29 (v_x v_y : Value) (Q : Value → World → Prop) (w : World) : Prop :=
 callS Try.prog 36 #[v_x] (fun t8 w_1 => 
 callS Try.prog 36 #[v_y] (fun t10 w_2 => 
 condS t8
  (condS t10
   (Q (.int .i64 0) w_2)
   (Q (.int .i64 (-1)) w_2))
  (condS t10
  (Q (.int .i64 1) w_2)
  (pur Try.prog (binS .lss 3 false false v_x v_y) fun t16 => 
 condS t16
  (Q (.int .i64 (-1)) w_2)
  (pur Try.prog (binS .gtr 3 false false v_x v_y) fun t19 => 
 condS t19
  (Q (.int .i64 1) w_2)
  (Q (.int .i64 0) w_2))))) w_1) w
theorem eq29 (v_x v_y : Value) (Q : Value → World → Prop) (w : World) : semF Try.prog 29 [v_x, v_y] Q w = S29 v_x v_y Q w := by kernel_rfl
theorem ref29 {v_x v_y : Value} {Q : Value → World → Prop} {w : World} (h : S29 v_x v_y Q w) : callS Try.prog 29 #[v_x, v_y] Q w :=
  callS_of mix (fun a w => Try.call29 a w) (by kernel_rfl) (by rw [eq29]; exact h)
-- commons/heap.compare[int]
def S30 (v_a v_b : Value) (Q : Value → World → Prop) (w : World) : Prop :=
 ∃ S : World → Prop, S (World.drew w) ∧ 
 pur Try.prog (nilV v_a) fun t6 => 
 pur Try.prog (Instr.fieldAt 61 t6 0) fun t7 => 
 hld Try.prog S (Instr.loadAt 3 t7) fun t8 => 
 pur Try.prog (nilV v_b) fun t10 => 
 pur Try.prog (Instr.fieldAt 61 t10 0) fun t11 => 
 hld Try.prog S (Instr.loadAt 3 t11) fun t12 => 
 callS Try.prog 29 #[t8, t12] (fun t13 w_1 => S w_1 ∧ 
 pur Try.prog (nilV v_a) fun t15 => 
 pur Try.prog (Instr.fieldAt 61 t15 1) fun t16 => 
 hld Try.prog S (Instr.loadAt 3 t16) fun t17 => 
 pur Try.prog (nilV v_b) fun t19 => 
 pur Try.prog (Instr.fieldAt 61 t19 1) fun t20 => 
 hld Try.prog S (Instr.loadAt 3 t20) fun t21 => 
 callS Try.prog 29 #[t17, t21] (fun t22 w_2 => S w_2 ∧ 
 act Try.prog (Instr.buildSlice 22 2 #[(0, t13), (1, t22)]) (fun t23 w_3 => S w_3 ∧ 
 callS Try.prog 28 #[t23] (fun t24 w_4 => S w_4 ∧ 
 Q t24 w_4) w_3) w_2) w_1) (World.drew w)
theorem eq30 (v_a v_b : Value) (Q : Value → World → Prop) (w : World) : semF Try.prog 30 [v_a, v_b] Q w = S30 v_a v_b Q w := by kernel_rfl
theorem ref30 {v_a v_b : Value} {Q : Value → World → Prop} {w : World} (h : S30 v_a v_b Q w) : callS Try.prog 30 #[v_a, v_b] Q w :=
  callS_of mix (fun a w => Try.call30 a w) (by kernel_rfl) (by rw [eq30]; exact h)
-- (*commons/heap.Heap[int]).swap
def S31 (v_h v_i v_j : Value) (Q : Value → World → Prop) (w : World) : Prop :=
 pur Try.prog (nilV v_h) fun t7 => 
 pur Try.prog (Instr.fieldAt 58 t7 0) fun t8 => 
 rd Try.prog (Instr.loadAt 55 t8) (fun t9 => 
 pur Try.prog (nilV v_h) fun t12 => 
 pur Try.prog (Instr.fieldAt 58 t12 0) fun t13 => 
 rd Try.prog (Instr.loadAt 55 t13) (fun t14 => 
 pur Try.prog (nilV v_h) fun t17 => 
 pur Try.prog (Instr.fieldAt 58 t17 0) fun t18 => 
 rd Try.prog (Instr.loadAt 55 t18) (fun t19 => 
 pur Try.prog (Instr.indexAt 55 t19 v_j) fun t21 => 
 rd Try.prog (Instr.loadAt 59 t21) (fun t22 => 
 pur Try.prog (nilV v_h) fun t24 => 
 pur Try.prog (Instr.fieldAt 58 t24 0) fun t25 => 
 rd Try.prog (Instr.loadAt 55 t25) (fun t26 => 
 pur Try.prog (Instr.indexAt 55 t26 v_i) fun t28 => 
 rd Try.prog (Instr.loadAt 59 t28) (fun t29 => 
 pur Try.prog (Instr.indexAt 55 t9 v_i) fun t30 => 
 act Try.prog (thenU (Instr.storeAt 59 t30 t22)) (fun _ w_1 => 
 pur Try.prog (Instr.indexAt 55 t14 v_j) fun t31 => 
 act Try.prog (thenU (Instr.storeAt 59 t31 t29)) (fun _ w_2 => 
 pur Try.prog (nilV v_h) fun t33 => 
 pur Try.prog (Instr.fieldAt 58 t33 0) fun t34 => 
 rd Try.prog (Instr.loadAt 55 t34) (fun t35 => 
 pur Try.prog (Instr.indexAt 55 t35 v_i) fun t37 => 
 rd Try.prog (Instr.loadAt 59 t37) (fun t38 => 
 pur Try.prog (nilV v_h) fun t40 => 
 pur Try.prog (Instr.fieldAt 58 t40 0) fun t41 => 
 rd Try.prog (Instr.loadAt 55 t41) (fun t42 => 
 pur Try.prog (Instr.indexAt 55 t42 v_j) fun t44 => 
 rd Try.prog (Instr.loadAt 59 t44) (fun t45 => 
 pur Try.prog (nilV t38) fun t48 => 
 pur Try.prog (Instr.fieldAt 61 t48 3) fun t49 => 
 act Try.prog (thenU (Instr.storeAt 3 t49 v_i)) (fun _ w_3 => 
 pur Try.prog (nilV t45) fun t50 => 
 pur Try.prog (Instr.fieldAt 61 t50 3) fun t51 => 
 act Try.prog (thenU (Instr.storeAt 3 t51 v_j)) (fun _ w_4 => 
 Q (.tuple #[]) w_4) w_3) (World.drew w_2)) (World.drew w_2)) (World.drew w_2)) (World.drew w_2)) (World.drew w_2)) w_1) (World.drew w)) (World.drew w)) (World.drew w)) (World.drew w)) (World.drew w)) (World.drew w)) (World.drew w)
theorem eq31 (v_h v_i v_j : Value) (Q : Value → World → Prop) (w : World) : semF Try.prog 31 [v_h, v_i, v_j] Q w = S31 v_h v_i v_j Q w := by kernel_rfl
theorem ref31 {v_h v_i v_j : Value} {Q : Value → World → Prop} {w : World} (h : S31 v_h v_i v_j Q w) : callS Try.prog 31 #[v_h, v_i, v_j] Q w :=
  callS_of mix (fun a w => Try.call31 a w) (by kernel_rfl) (by rw [eq31]; exact h)
-- (*commons/heap.Heap[int]).down
def S32 (v_h v_i : Value) (Q : Value → World → Prop) (w : World) : Prop :=
 lp 1 (fun J => fun v_i_1 w_1 => ∀ _j : Fr, 
  pur Try.prog (binS .mul 3 true false (.int .i64 2) v_i_1) fun t9 => 
  pur Try.prog (binS .add 3 false true t9 (.int .i64 1)) fun t10 => 
  pur Try.prog (binS .mul 3 true false (.int .i64 2) v_i_1) fun t12 => 
  pur Try.prog (binS .add 3 false true t12 (.int .i64 2)) fun t13 => 
  act Try.prog (Instr.buildSlice 22 2 #[(0, t10), (1, t13)]) (fun t14 w_2 => 
  pur Try.prog (Builtin.len_ #[22] 3 #[t14]) fun t15 => 
  lp 2 (fun J_1 => fun v_least t16 w_3 => ∀ _j : Fr, 
   pur Try.prog (binS .lss 3 false false t16 t15) fun t17 => 
   condS t17
    (jn 1 (fun J_2 => 
    pur Try.prog (Instr.indexAt 22 t14 t16) fun t18 => 
    rd Try.prog (Instr.loadAt 3 t18) (fun t19 => 
    pur Try.prog (nilV v_h) fun t22 => 
    pur Try.prog (Instr.fieldAt 58 t22 0) fun t23 => 
    rd Try.prog (Instr.loadAt 55 t23) (fun t24 => 
    pur Try.prog (Builtin.len_ #[55] 3 #[t24]) fun t25 => 
    pur Try.prog (binS .lss 3 false false t19 t25) fun t26 => 
    gd t26 true (fun k w_4 => k v_h w_4) (fun t28_1 w_5 => 
    gd t26 true (fun k_1 w_6 => pur Try.prog (nilV t28_1) fun t29 => k_1 t29 w_6) (fun t29_1 w_7 => 
    gd t26 true (fun k_2 w_8 => pur Try.prog (Instr.fieldAt 58 t29_1 0) fun t30 => k_2 t30 w_8) (fun t30_1 w_9 => 
    gd t26 true (fun k_3 w_10 => rd Try.prog (Instr.loadAt 55 t30_1) (fun t31 => k_3 t31 w_10) w_10) (fun t31_1 w_11 => 
    gd t26 true (fun k_4 w_12 => k_4 t19 w_12) (fun t32_1 w_13 => 
    gd t26 true (fun k_5 w_14 => pur Try.prog (Instr.indexAt 55 t31_1 t32_1) fun t33 => k_5 t33 w_14) (fun t33_1 w_15 => 
    gd t26 true (fun k_6 w_16 => rd Try.prog (Instr.loadAt 59 t33_1) (fun t34 => k_6 t34 w_16) w_16) (fun t34_1 w_17 => 
    gd t26 true (fun k_7 w_18 => k_7 v_h w_18) (fun t35_1 w_19 => 
    gd t26 true (fun k_8 w_20 => pur Try.prog (nilV t35_1) fun t36 => k_8 t36 w_20) (fun t36_1 w_21 => 
    gd t26 true (fun k_9 w_22 => pur Try.prog (Instr.fieldAt 58 t36_1 0) fun t37 => k_9 t37 w_22) (fun t37_1 w_23 => 
    gd t26 true (fun k_10 w_24 => rd Try.prog (Instr.loadAt 55 t37_1) (fun t38 => k_10 t38 w_24) w_24) (fun t38_1 w_25 => 
    gd t26 true (fun k_11 w_26 => k_11 v_least w_26) (fun t39_1 w_27 => 
    gd t26 true (fun k_12 w_28 => pur Try.prog (Instr.indexAt 55 t38_1 t39_1) fun t40 => k_12 t40 w_28) (fun t40_1 w_29 => 
    gd t26 true (fun k_13 w_30 => rd Try.prog (Instr.loadAt 59 t40_1) (fun t41 => k_13 t41 w_30) w_30) (fun t41_1 w_31 => 
    gd t26 true (fun k_14 w_32 => callS Try.prog 30 #[t34_1, t41_1] (fun t42 w_33 => k_14 t42 w_33) w_32) (fun t42_1 w_34 => 
    gd t26 true (fun k_15 w_35 => pur Try.prog (binS .lss 3 false true t42_1 (.int .i64 0)) fun t43 => k_15 t43 w_35) (fun t43_1 w_36 => 
    pur Try.prog (pickS t26 t43_1 (.bool false)) fun t44 => 
    condS t44
     (J_2 t19 w_36)
     (J_2 v_least w_36)) w_34) w_31) w_29) w_27) w_25) w_23) w_21) w_19) w_17) w_15) w_13) w_11) w_9) w_7) w_5) (World.drew w_3)) (World.drew w_3)) w_3)
   (fun v_least_1 w_37 => ∀ _j : Fr, 
    pur Try.prog (binS .add 3 false true t16 (.int .i64 1)) fun t46 => 
    J_1 v_least_1 t46 w_37))
    (pur Try.prog (binS .eql 3 false false v_least v_i_1) fun t49 => 
  condS t49
   (Q (.tuple #[]) w_3)
   (callS Try.prog 31 #[v_h, v_i_1, v_least] (fun _ w_38 => 
  J v_least w_38) w_3))) [v_i_1, (.int .i64 0)] w_2) w_1) [v_i] w
theorem eq32 (v_h v_i : Value) (Q : Value → World → Prop) (w : World) : semF Try.prog 32 [v_h, v_i] Q w = S32 v_h v_i Q w := by kernel_rfl
theorem ref32 {v_h v_i : Value} {Q : Value → World → Prop} {w : World} (h : S32 v_h v_i Q w) : callS Try.prog 32 #[v_h, v_i] Q w :=
  callS_of mix (fun a w => Try.call32 a w) (by kernel_rfl) (by rw [eq32]; exact h)
-- cmp.isNaN[int]
def S36 (v_x : Value) (Q : Value → World → Prop) (w : World) : Prop :=
 pur Try.prog (binS .neq 3 false false v_x v_x) fun t5 => 
 Q t5 w
theorem eq36 (v_x : Value) (Q : Value → World → Prop) (w : World) : semF Try.prog 36 [v_x] Q w = S36 v_x Q w := by kernel_rfl
theorem ref36 {v_x : Value} {Q : Value → World → Prop} {w : World} (h : S36 v_x Q w) : callS Try.prog 36 #[v_x] Q w :=
  callS_of mix (fun a w => Try.call36 a w) (by kernel_rfl) (by rw [eq36]; exact h)
end Go.Proofs.Ytfdfgpcefmghgaa
