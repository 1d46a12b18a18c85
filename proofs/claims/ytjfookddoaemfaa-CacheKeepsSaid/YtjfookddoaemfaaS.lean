/- The readings of the functions' code, printed by a program, each held equal to the one that is computed: for all arguments, all worlds.
   Conditions: none. -/
import Derived.Test.YtjfookddoaemfaaShC
import Derived.Test.YtjfookddoaemfaaProg
import Derived.KernelRfl
set_option linter.unusedSimpArgs false
set_option linter.unusedVariables false
namespace Go.Proofs.Ytjfookddoaemfaa
open Go.Sh
set_option maxRecDepth 100000
theorem mix : Try.prog.follows .mixedOrders = true := by kernel_rfl

-- gosem.cut.init
def S2 (Q : Value → World → Prop) (w : World) : Prop :=
 callS Try.prog 1 #[] (fun _ w_1 => 
 Q (.tuple #[]) w_1) w
theorem eq2 (Q : Value → World → Prop) (w : World) : semF Try.prog 2 [] Q w = S2 Q w := by kernel_rfl
theorem ref2 {Q : Value → World → Prop} {w : World} (h : S2 Q w) : callS Try.prog 2 #[] Q w :=
  callS_of mix (fun a w => Try.call2 a w) (by kernel_rfl) (by rw [eq2]; exact h)
-- commons/commonslaw23.CacheRoom
def S3 (v_n : Value) (Q : Value → World → Prop) (w : World) : Prop :=
 pur Try.prog (binS .lss 3 false true v_n (.int .i64 1)) fun t13 => 
 gd t13 false (fun k w_1 => k v_n w_1) (fun t15_1 w_2 => 
 gd t13 false (fun k_1 w_3 => pur Try.prog (binS .gtr 3 false true t15_1 (.int .i64 40)) fun t16 => k_1 t16 w_3) (fun t16_1 w_4 => 
 pur Try.prog (pickS t13 (.bool true) t16_1) fun t17 => 
 condS t17
  (callS Try.prog 7 #[] (fun t18 w_5 => 
  Q t18 w_5) w_4)
  (callS Try.prog 8 #[v_n] (fun t20 w_6 => 
 rd Try.prog (binS .eql 23 false true t20 (.pointer none)) (fun t22 => 
 condS t22
  (Q (.bool false) w_6)
  (lp 1 (fun J => fun v_i w_7 => ∀ _j : Fr, 
  pur Try.prog (binS .lss 3 false false v_i v_n) fun t25 => 
  condS t25
   (callS Try.prog 9 #[t20] (fun t29 w_8 => 
  pur Try.prog (binS .sub 3 false false v_n v_i) fun t32 => 
  pur Try.prog (binS .neq 3 false false t29 t32) fun t33 => 
  gd t33 false (fun k_2 w_9 => k_2 t20 w_9) (fun t35_1 w_10 => 
  gd t33 false (fun k_3 w_11 => k_3 v_i w_11) (fun t36_1 w_12 => 
  gd t33 false (fun k_4 w_13 => pur Try.prog (Instr.build 30 #[(0, t36_1), (1, (.int .u64 1))]) fun t37 => k_4 t37 w_13) (fun t37_1 w_14 => 
  gd t33 false (fun k_5 w_15 => k_5 v_i w_15) (fun t38_1 w_16 => 
  gd t33 false (fun k_6 w_17 => pur Try.prog (binS .add 3 false true t38_1 (.int .i64 1)) fun t39 => k_6 t39 w_17) (fun t39_1 w_18 => 
  gd t33 false (fun k_7 w_19 => pur Try.prog (convert 3 28 t39_1) fun t40 => k_7 t40 w_19) (fun t40_1 w_20 => 
  gd t33 false (fun k_8 w_21 => callS Try.prog 10 #[t35_1, t37_1, t40_1] (fun t41 w_22 => k_8 t41 w_22) w_21) (fun t41_1 w_23 => 
  gd t33 false (fun k_9 w_24 => pur Try.prog (binS .neq 26 false true t41_1 (.int .i64 0)) fun t42 => k_9 t42 w_24) (fun t42_1 w_25 => 
  pur Try.prog (pickS t33 (.bool true) t42_1) fun t43 => 
  condS t43
   (Q (.bool false) w_25)
   (pur Try.prog (binS .add 3 false true v_i (.int .i64 1)) fun t27 => 
  J t27 w_25)) w_23) w_20) w_18) w_16) w_14) w_12) w_10) w_8) w_7)
   (pur Try.prog (Instr.build 30 #[(0, v_n)]) fun t46 => 
 callS Try.prog 11 #[t20, t46] (fun t47 w_26 => 
 pur Try.prog (Instr.build 30 #[(0, v_n), (1, (.int .u64 1))]) fun t50 => 
 callS Try.prog 10 #[t20, t50, (.int .u64 9)] (fun t51 w_27 => 
 pur Try.prog (binS .sub 3 false true v_n (.int .i64 1)) fun t54 => 
 callS Try.prog 12 #[t20, t54, (.int .u64 1)] (fun t55 w_28 => 
 callS Try.prog 9 #[t20] (fun t57 w_29 => 
 pur Try.prog (Instr.build 30 #[(0, v_n)]) fun t60 => 
 callS Try.prog 11 #[t20, t60] (fun t61 w_30 => 
 pur Try.prog (binS .sub 3 false true v_n (.int .i64 1)) fun t65 => 
 callS Try.prog 13 #[t20, t65] (fun t66 w_31 => 
 pur Try.prog (Instr.extract t66 0) fun t67 => 
 pur Try.prog (Instr.extract t66 1) fun t68 => 
 act Try.prog (Instr.alloc 30 true (.tuple #[])) (fun t10 w_32 => 
 act Try.prog (thenU (Instr.storeAt 30 t10 t67)) (fun _ w_33 => 
 callS Try.prog 7 #[] (fun t69 w_34 => 
 gd t69 true (fun k_10 w_35 => k_10 t47 w_35) (fun t71_1 w_36 => 
 gd t69 true (fun k_11 w_37 => pur Try.prog (Op.unary .not t71_1) fun t72 => k_11 t72 w_37) (fun t72_1 w_38 => 
 pur Try.prog (pickS t69 t72_1 (.bool false)) fun t73 => 
 gd t73 true (fun k_12 w_39 => k_12 t51 w_39) (fun t75_1 w_40 => 
 gd t73 true (fun k_13 w_41 => pur Try.prog (binS .eql 26 false true t75_1 (.int .i64 10)) fun t76 => k_13 t76 w_41) (fun t76_1 w_42 => 
 pur Try.prog (pickS t73 t76_1 (.bool false)) fun t77 => 
 gd t77 true (fun k_14 w_43 => k_14 t55 w_43) (fun t79_1 w_44 => 
 pur Try.prog (pickS t77 t79_1 (.bool false)) fun t80 => 
 gd t80 true (fun k_15 w_45 => k_15 t57 w_45) (fun t82_1 w_46 => 
 gd t80 true (fun k_16 w_47 => pur Try.prog (binS .eql 3 false true t82_1 (.int .i64 1)) fun t83 => k_16 t83 w_47) (fun t83_1 w_48 => 
 pur Try.prog (pickS t80 t83_1 (.bool false)) fun t84 => 
 gd t84 true (fun k_17 w_49 => k_17 t61 w_49) (fun t86_1 w_50 => 
 pur Try.prog (pickS t84 t86_1 (.bool false)) fun t87 => 
 gd t87 true (fun k_18 w_51 => k_18 t68 w_51) (fun t89_1 w_52 => 
 gd t87 true (fun k_19 w_53 => pur Try.prog (Op.unary .not t89_1) fun t90 => k_19 t90 w_53) (fun t90_1 w_54 => 
 pur Try.prog (pickS t87 t90_1 (.bool false)) fun t91 => 
 gd t91 true (fun k_20 w_55 => k_20 t20 w_55) (fun t93_1 w_56 => 
 gd t91 true (fun k_21 w_57 => callS Try.prog 14 #[t93_1] (fun t94 w_58 => k_21 t94 w_58) w_57) (fun t94_1 w_59 => 
 gd t91 true (fun k_22 w_60 => k_22 v_n w_60) (fun t95_1 w_61 => 
 gd t91 true (fun k_23 w_62 => pur Try.prog (binS .eql 3 false false t94_1 t95_1) fun t96 => k_23 t96 w_62) (fun t96_1 w_63 => 
 pur Try.prog (pickS t91 t96_1 (.bool false)) fun t97 => 
 gd t97 true (fun k_24 w_64 => k_24 t20 w_64) (fun t99_1 w_65 => 
 gd t97 true (fun k_25 w_66 => callS Try.prog 15 #[t99_1, (.slice none 0 0)] (fun t100 w_67 => k_25 t100 w_67) w_66) (fun t100_1 w_68 => 
 gd t97 true (fun k_26 w_69 => pur Try.prog (Builtin.len_ #[35] 3 #[t100_1]) fun t101 => k_26 t101 w_69) (fun t101_1 w_70 => 
 gd t97 true (fun k_27 w_71 => k_27 v_n w_71) (fun t102_1 w_72 => 
 gd t97 true (fun k_28 w_73 => pur Try.prog (binS .sub 3 false true t102_1 (.int .i64 1)) fun t103 => k_28 t103 w_73) (fun t103_1 w_74 => 
 gd t97 true (fun k_29 w_75 => pur Try.prog (binS .eql 3 false false t101_1 t103_1) fun t104 => k_29 t104 w_75) (fun t104_1 w_76 => 
 pur Try.prog (pickS t97 t104_1 (.bool false)) fun t105 => 
 Q t105 w_76) w_74) w_72) w_70) w_68) w_65) w_63) w_61) w_59) w_56) w_54) w_52) w_50) w_48) w_46) w_44) w_42) w_40) w_38) w_36) w_34) w_33) w_32) w_31) w_30) w_29) w_28) w_27) w_26) w_7)) [(.int .i64 0)] w_6)) w_6) w_4)) w_2) w
theorem eq3 (v_n : Value) (Q : Value → World → Prop) (w : World) : semF Try.prog 3 [v_n] Q w = S3 v_n Q w := by kernel_rfl
theorem ref3 {v_n : Value} {Q : Value → World → Prop} {w : World} (h : S3 v_n Q w) : callS Try.prog 3 #[v_n] Q w :=
  callS_of mix (fun a w => Try.call3 a w) (by kernel_rfl) (by rw [eq3]; exact h)
-- commons/commonslaw23.CacheKeeps
def S4 (v_room v_l : Value) (Q : Value → World → Prop) (w : World) : Prop :=
 pur Try.prog (binS .lss 3 false true v_room (.int .i64 1)) fun t15 => 
 gd t15 false (fun k w_1 => k v_room w_1) (fun t17_1 w_2 => 
 gd t15 false (fun k_1 w_3 => pur Try.prog (binS .gtr 3 false true t17_1 (.int .i64 60)) fun t18 => k_1 t18 w_3) (fun t18_1 w_4 => 
 pur Try.prog (pickS t15 (.bool true) t18_1) fun t19 => 
 gd t19 false (fun k_2 w_5 => k_2 v_l w_5) (fun t21_1 w_6 => 
 gd t19 false (fun k_3 w_7 => pur Try.prog (Builtin.len_ #[38] 3 #[t21_1]) fun t22 => k_3 t22 w_7) (fun t22_1 w_8 => 
 gd t19 false (fun k_4 w_9 => pur Try.prog (binS .gtr 3 false true t22_1 (.int .i64 100)) fun t23 => k_4 t23 w_9) (fun t23_1 w_10 => 
 pur Try.prog (pickS t19 (.bool true) t23_1) fun t24 => 
 condS t24
  (callS Try.prog 7 #[] (fun t25 w_11 => 
  Q t25 w_11) w_10)
  (callS Try.prog 8 #[v_room] (fun t27 w_12 => 
 rd Try.prog (binS .eql 23 false true t27 (.pointer none)) (fun t29 => 
 condS t29
  (Q (.bool false) w_12)
  (lp 2 (fun J => fun v_held v_i w_13 => ∀ _j : Fr, 
  pur Try.prog (Builtin.len_ #[38] 3 #[v_l]) fun t32 => 
  pur Try.prog (binS .lss 3 false false v_i t32) fun t33 => 
  condS t33
   (pur Try.prog (Instr.indexAt 38 v_l v_i) fun t38 => 
  rd Try.prog (Instr.loadAt 43 t38) (fun t39 => 
  act Try.prog (Instr.alloc 43 true (.tuple #[])) (fun t8 w_14 => 
  act Try.prog (thenU (Instr.storeAt 43 t8 t39)) (fun _ w_15 => 
  pur Try.prog (Instr.fieldAt 43 t8 3) fun t40 => 
  pur Try.prog (Instr.fieldAt 30 t40 2) fun t41 => 
  rd Try.prog (Instr.loadAt 9 t41) (fun t42 => 
  pur Try.prog (Builtin.len_ #[9] 3 #[t42]) fun t43 => 
  pur Try.prog (binS .gtr 3 false true t43 (.int .i64 300)) fun t44 => 
  condS t44
   (Q (.bool true) w_15)
   (jn 1 (fun J_1 => 
   pur Try.prog (Instr.fieldAt 43 t8 0) fun t45 => 
   rd Try.prog (Instr.loadAt 3 t45) (fun t46 => 
   pur Try.prog (binS .eql 3 false true t46 (.int .i64 3)) fun t47 => 
   condS t47
    (pur Try.prog (Instr.fieldAt 43 t8 3) fun t49 => 
    rd Try.prog (Instr.loadAt 30 t49) (fun t50 => 
    pur Try.prog (Instr.fieldAt 43 t8 2) fun t51 => 
    rd Try.prog (Instr.loadAt 28 t51) (fun t52 => 
    callS Try.prog 10 #[t27, t50, t52] (fun t53 w_16 => 
    pur Try.prog (binS .eql 26 false true t53 (.int .i64 0)) fun t54 => 
    condS t54
     (lp 2 (fun J_2 => fun v_h v_k w_17 => ∀ _j : Fr, 
      pur Try.prog (Builtin.len_ #[39] 3 #[v_held]) fun t57 => 
      pur Try.prog (binS .lss 3 false false v_k t57) fun t58 => 
      condS t58
       (jn 1 (fun J_3 => 
       pur Try.prog (Instr.indexAt 39 v_held v_k) fun t63 => 
       pur Try.prog (Instr.fieldAt 30 t63 0) fun t64 => 
       rd Try.prog (Instr.loadAt 3 t64) (fun t65 => 
       pur Try.prog (Instr.fieldAt 43 t8 3) fun t66 => 
       pur Try.prog (Instr.fieldAt 30 t66 0) fun t67 => 
       rd Try.prog (Instr.loadAt 3 t67) (fun t68 => 
       pur Try.prog (binS .neq 3 false false t65 t68) fun t69 => 
       condS t69
        (pur Try.prog (Instr.indexAt 39 v_held v_k) fun t73 => 
        rd Try.prog (Instr.loadAt 30 t73) (fun t74 => 
        act Try.prog (Instr.buildSlice 39 1 #[(0, t74)]) (fun t75 w_18 => 
        act Try.prog (Builtin.append_ #[39, 39] 39 #[v_h, t75]) (fun t76 w_19 => 
        J_3 t76 w_19) w_18) (World.drew w_17)) (World.drew w_17))
        (J_3 v_h (World.drew w_17))) (World.drew w_17)) (World.drew w_17))
      (fun v_h_1 w_20 => ∀ _j : Fr, 
       pur Try.prog (binS .add 3 false true v_k (.int .i64 1)) fun t60 => 
       J_2 v_h_1 t60 w_20))
       (pur Try.prog (Instr.fieldAt 43 t8 3) fun t78 => 
     rd Try.prog (Instr.loadAt 30 t78) (fun t79 => 
     act Try.prog (Instr.buildSlice 39 1 #[(0, t79)]) (fun t80 w_21 => 
     act Try.prog (Builtin.append_ #[39, 39] 39 #[v_h, t80]) (fun t81 w_22 => 
     J_1 t81 w_22) w_21) w_17) w_17)) [(.slice none 0 0), (.int .i64 0)] w_16)
     (J_1 v_held w_16)) w_15) w_15) w_15)
    (pur Try.prog (Instr.fieldAt 43 t8 0) fun t82 => 
    rd Try.prog (Instr.loadAt 3 t82) (fun t83 => 
    pur Try.prog (binS .eql 3 false true t83 (.int .i64 2)) fun t84 => 
    condS t84
     (pur Try.prog (Instr.fieldAt 43 t8 3) fun t86 => 
     rd Try.prog (Instr.loadAt 30 t86) (fun t87 => 
     callS Try.prog 11 #[t27, t87] (fun _ w_23 => 
     J_1 v_held w_23) w_15) w_15)
     (pur Try.prog (Instr.fieldAt 43 t8 4) fun t90 => 
     rd Try.prog (Instr.loadAt 41 t90) (fun t91 => 
     callS Try.prog 16 #[t27, t91] (fun _ w_24 => 
     J_1 v_held w_24) w_15) w_15)) w_15)) w_15)
  (fun v_held_1 w_25 => ∀ _j : Fr, 
   callS Try.prog 14 #[t27] (fun t94 w_26 => 
   pur Try.prog (binS .gtr 3 false false t94 v_room) fun t96 => 
   gd t96 false (fun k_5 w_27 => k_5 t27 w_27) (fun t98_1 w_28 => 
   gd t96 false (fun k_6 w_29 => callS Try.prog 15 #[t98_1, (.slice none 0 0)] (fun t99 w_30 => k_6 t99 w_30) w_29) (fun t99_1 w_31 => 
   gd t96 false (fun k_7 w_32 => pur Try.prog (Builtin.len_ #[35] 3 #[t99_1]) fun t100 => k_7 t100 w_32) (fun t100_1 w_33 => 
   gd t96 false (fun k_8 w_34 => k_8 v_held_1 w_34) (fun t101_1 w_35 => 
   gd t96 false (fun k_9 w_36 => pur Try.prog (Builtin.len_ #[39] 3 #[t101_1]) fun t102 => k_9 t102 w_36) (fun t102_1 w_37 => 
   gd t96 false (fun k_10 w_38 => pur Try.prog (binS .neq 3 false false t100_1 t102_1) fun t103 => k_10 t103 w_38) (fun t103_1 w_39 => 
   pur Try.prog (pickS t96 (.bool true) t103_1) fun t104 => 
   condS t104
    (Q (.bool false) w_39)
    (lp 1 (fun J_4 => fun v_k_1 w_40 => ∀ _j : Fr, 
    pur Try.prog (Builtin.len_ #[39] 3 #[v_held_1]) fun t107 => 
    pur Try.prog (binS .lss 3 false false v_k_1 t107) fun t108 => 
    condS t108
     (pur Try.prog (Instr.indexAt 39 v_held_1 v_k_1) fun t115 => 
    pur Try.prog (Instr.fieldAt 30 t115 0) fun t116 => 
    rd Try.prog (Instr.loadAt 3 t116) (fun t117 => 
    callS Try.prog 13 #[t27, t117] (fun t118 w_41 => 
    pur Try.prog (Instr.extract t118 0) fun t119 => 
    pur Try.prog (Instr.extract t118 1) fun t120 => 
    act Try.prog (Instr.alloc 30 true (.tuple #[])) (fun t12 w_42 => 
    act Try.prog (thenU (Instr.storeAt 30 t12 t119)) (fun _ w_43 => 
    pur Try.prog (Op.unary .not t120) fun t122 => 
    gd t122 false (fun k_11 w_44 => rd Try.prog (Instr.loadAt 30 t12) (fun t124 => k_11 t124 w_44) w_44) (fun t124_1 w_45 => 
    gd t122 false (fun k_12 w_46 => k_12 v_held_1 w_46) (fun t125_1 w_47 => 
    gd t122 false (fun k_13 w_48 => k_13 v_k_1 w_48) (fun t126_1 w_49 => 
    gd t122 false (fun k_14 w_50 => pur Try.prog (Instr.indexAt 39 t125_1 t126_1) fun t127 => k_14 t127 w_50) (fun t127_1 w_51 => 
    gd t122 false (fun k_15 w_52 => rd Try.prog (Instr.loadAt 30 t127_1) (fun t128 => k_15 t128 w_52) w_52) (fun t128_1 w_53 => 
    gd t122 false (fun k_16 w_54 => rd Try.prog (binS .neq 30 false false t124_1 t128_1) (fun t129 => k_16 t129 w_54) w_54) (fun t129_1 w_55 => 
    pur Try.prog (pickS t122 (.bool true) t129_1) fun t130 => 
    condS t130
     (Q (.bool false) w_55)
     (pur Try.prog (binS .add 3 false true v_k_1 (.int .i64 1)) fun t110 => 
    J_4 t110 w_55)) w_53) w_51) w_49) w_47) w_45) (World.drew w_43)) w_42) w_41) w_40) w_40)
     (pur Try.prog (binS .add 3 false true v_i (.int .i64 1)) fun t35 => 
  J v_held_1 t35 w_40)) [(.int .i64 0)] w_39)) w_37) w_35) w_33) w_31) w_28) w_26) w_25))) w_15) w_14) w_13) w_13)
   (callS Try.prog 7 #[] (fun t131 w_56 => 
 Q t131 w_56) w_13)) [(.slice none 0 0), (.int .i64 0)] w_12)) w_12) w_10)) w_8) w_6) w_4) w_2) w
theorem eq4 (v_room v_l : Value) (Q : Value → World → Prop) (w : World) : semF Try.prog 4 [v_room, v_l] Q w = S4 v_room v_l Q w := by kernel_rfl
theorem ref4 {v_room v_l : Value} {Q : Value → World → Prop} {w : World} (h : S4 v_room v_l Q w) : callS Try.prog 4 #[v_room, v_l] Q w :=
  callS_of mix (fun a w => Try.call4 a w) (by kernel_rfl) (by rw [eq4]; exact h)
-- commons/commonslaw23.CacheOrder
def S5 (v_l : Value) (Q : Value → World → Prop) (w : World) : Prop :=
 pur Try.prog (Builtin.len_ #[46] 3 #[v_l]) fun t11 => 
 pur Try.prog (binS .gtr 3 false true t11 (.int .i64 60)) fun t12 => 
 condS t12
  (callS Try.prog 7 #[] (fun t13 w_1 => 
  Q t13 w_1) w)
  (callS Try.prog 8 #[(.int .i64 100)] (fun t14 w_2 => 
 rd Try.prog (binS .eql 23 false true t14 (.pointer none)) (fun t16 => 
 condS t16
  (Q (.bool false) w_2)
  (act Try.prog (Instr.makeSlice 47 (.int .i64 16) (.int .i64 16)) (fun t17 w_3 => 
 lp 1 (fun J => fun v_i w_4 => ∀ _j : Fr, 
  pur Try.prog (Builtin.len_ #[46] 3 #[v_l]) fun t20 => 
  pur Try.prog (binS .lss 3 false false v_i t20) fun t21 => 
  condS t21
   (jn 0 (fun J_1 => 
   pur Try.prog (Instr.indexAt 46 v_l v_i) fun t26 => 
   rd Try.prog (Instr.loadAt 3 t26) (fun t27 => 
   pur Try.prog (binS .and 3 false true t27 (.int .i64 15)) fun t28 => 
   pur Try.prog (binS .add 3 false true v_i (.int .i64 1)) fun t32 => 
   pur Try.prog (convert 3 28 t32) fun t33 => 
   pur Try.prog (Instr.build 30 #[(0, t28), (1, t33)]) fun t34 => 
   pur Try.prog (binS .add 3 false true v_i (.int .i64 1)) fun t36 => 
   pur Try.prog (convert 3 28 t36) fun t37 => 
   callS Try.prog 10 #[t14, t34, t37] (fun t38 w_5 => 
   pur Try.prog (binS .neq 26 false true t38 (.int .i64 0)) fun t39 => 
   condS t39
    (Q (.bool false) w_5)
    (pur Try.prog (Instr.indexAt 47 t17 t28) fun t42 => 
   rd Try.prog (Instr.loadAt 28 t42) (fun t43 => 
   pur Try.prog (binS .eql 28 false true t43 (.int .u64 0)) fun t44 => 
   condS t44
    (pur Try.prog (binS .add 3 false true v_i (.int .i64 1)) fun t48 => 
    pur Try.prog (convert 3 28 t48) fun t49 => 
    pur Try.prog (Instr.indexAt 47 t17 t28) fun t50 => 
    act Try.prog (thenU (Instr.storeAt 28 t50 t49)) (fun _ w_6 => 
    J_1  w_6) w_5)
    (J_1  w_5)) w_5)) w_4) w_4)
  (fun  w_7 => ∀ _j : Fr, 
   pur Try.prog (binS .add 3 false true v_i (.int .i64 1)) fun t23 => 
   J t23 w_7))
   (callS Try.prog 15 #[t14, (.slice none 0 0)] (fun t52 w_8 => 
 lp 2 (fun J_2 => fun v_last v_i_1 w_9 => ∀ _j : Fr, 
  pur Try.prog (Builtin.len_ #[35] 3 #[t52]) fun t55 => 
  pur Try.prog (binS .lss 3 false false v_i_1 t55) fun t56 => 
  condS t56
   (∃ S : World → Prop, S (World.drew w_9) ∧ 
  pur Try.prog (Instr.indexAt 35 t52 v_i_1) fun t61 => 
  pur Try.prog (Instr.fieldAt 49 t61 2) fun t62 => 
  hld Try.prog S (Instr.loadAt 28 t62) fun t63 => 
  pur Try.prog (Instr.indexAt 35 t52 v_i_1) fun t67 => 
  pur Try.prog (Instr.fieldAt 49 t67 0) fun t68 => 
  pur Try.prog (Instr.fieldAt 30 t68 0) fun t69 => 
  hld Try.prog S (Instr.loadAt 3 t69) fun t70 => 
  pur Try.prog (Instr.indexAt 47 t17 t70) fun t71 => 
  hld Try.prog S (Instr.loadAt 28 t71) fun t72 => 
  pur Try.prog (binS .neq 28 false false t63 t72) fun t73 => 
  gd t73 false (fun k w_10 => k t52 w_10) (fun t75_1 w_11 => 
  gd t73 false (fun k_1 w_12 => k_1 v_i_1 w_12) (fun t76_1 w_13 => 
  gd t73 false (fun k_2 w_14 => pur Try.prog (Instr.indexAt 35 t75_1 t76_1) fun t77 => k_2 t77 w_14) (fun t77_1 w_15 => 
  gd t73 false (fun k_3 w_16 => pur Try.prog (Instr.fieldAt 49 t77_1 2) fun t78 => k_3 t78 w_16) (fun t78_1 w_17 => 
  gd t73 false (fun k_4 w_18 => hld Try.prog S (Instr.loadAt 28 t78_1) fun t79 => k_4 t79 w_18) (fun t79_1 w_19 => 
  gd t73 false (fun k_5 w_20 => k_5 v_last w_20) (fun t80_1 w_21 => 
  gd t73 false (fun k_6 w_22 => pur Try.prog (binS .leq 28 false false t79_1 t80_1) fun t81 => k_6 t81 w_22) (fun t81_1 w_23 => 
  pur Try.prog (pickS t73 (.bool true) t81_1) fun t82 => 
  gd t82 false (fun k_7 w_24 => k_7 t14 w_24) (fun t84_1 w_25 => 
  gd t82 false (fun k_8 w_26 => callS Try.prog 17 #[t84_1] (fun t85 w_27 => S w_27 ∧ k_8 t85 w_27) w_26) (fun t85_1 w_28 => 
  gd t82 false (fun k_9 w_29 => k_9 t52 w_29) (fun t86_1 w_30 => 
  gd t82 false (fun k_10 w_31 => k_10 v_i_1 w_31) (fun t87_1 w_32 => 
  gd t82 false (fun k_11 w_33 => pur Try.prog (Instr.indexAt 35 t86_1 t87_1) fun t88 => k_11 t88 w_33) (fun t88_1 w_34 => 
  gd t82 false (fun k_12 w_35 => pur Try.prog (Instr.fieldAt 49 t88_1 2) fun t89 => k_12 t89 w_35) (fun t89_1 w_36 => 
  gd t82 false (fun k_13 w_37 => hld Try.prog S (Instr.loadAt 28 t89_1) fun t90 => k_13 t90 w_37) (fun t90_1 w_38 => 
  gd t82 false (fun k_14 w_39 => pur Try.prog (binS .neq 28 false false t85_1 t90_1) fun t91 => k_14 t91 w_39) (fun t91_1 w_40 => 
  pur Try.prog (pickS t82 (.bool true) t91_1) fun t92 => 
  condS t92
   (Q (.bool false) w_40)
   (pur Try.prog (Instr.indexAt 35 t52 v_i_1) fun t95 => 
  pur Try.prog (Instr.fieldAt 49 t95 2) fun t96 => 
  rd Try.prog (Instr.loadAt 28 t96) (fun t97 => 
  pur Try.prog (Instr.indexAt 35 t52 v_i_1) fun t101 => 
  pur Try.prog (Instr.fieldAt 49 t101 0) fun t102 => 
  pur Try.prog (Instr.fieldAt 30 t102 0) fun t103 => 
  rd Try.prog (Instr.loadAt 3 t103) (fun t104 => 
  pur Try.prog (Instr.indexAt 35 t52 v_i_1) fun t107 => 
  pur Try.prog (Instr.fieldAt 49 t107 0) fun t108 => 
  pur Try.prog (Instr.fieldAt 30 t108 1) fun t109 => 
  rd Try.prog (Instr.loadAt 28 t109) (fun t110 => 
  pur Try.prog (binS .add 28 false true t110 (.int .u64 1)) fun t111 => 
  callS Try.prog 12 #[t14, t104, t111] (fun t112 w_41 => 
  gd t112 false (fun k_15 w_42 => k_15 t14 w_42) (fun t114_1 w_43 => 
  gd t112 false (fun k_16 w_44 => k_16 t52 w_44) (fun t115_1 w_45 => 
  gd t112 false (fun k_17 w_46 => k_17 v_i_1 w_46) (fun t116_1 w_47 => 
  gd t112 false (fun k_18 w_48 => pur Try.prog (Instr.indexAt 35 t115_1 t116_1) fun t117 => k_18 t117 w_48) (fun t117_1 w_49 => 
  gd t112 false (fun k_19 w_50 => pur Try.prog (Instr.fieldAt 49 t117_1 0) fun t118 => k_19 t118 w_50) (fun t118_1 w_51 => 
  gd t112 false (fun k_20 w_52 => pur Try.prog (Instr.fieldAt 30 t118_1 0) fun t119 => k_20 t119 w_52) (fun t119_1 w_53 => 
  gd t112 false (fun k_21 w_54 => rd Try.prog (Instr.loadAt 3 t119_1) (fun t120 => k_21 t120 w_54) w_54) (fun t120_1 w_55 => 
  gd t112 false (fun k_22 w_56 => k_22 t52 w_56) (fun t121_1 w_57 => 
  gd t112 false (fun k_23 w_58 => k_23 v_i_1 w_58) (fun t122_1 w_59 => 
  gd t112 false (fun k_24 w_60 => pur Try.prog (Instr.indexAt 35 t121_1 t122_1) fun t123 => k_24 t123 w_60) (fun t123_1 w_61 => 
  gd t112 false (fun k_25 w_62 => pur Try.prog (Instr.fieldAt 49 t123_1 0) fun t124 => k_25 t124 w_62) (fun t124_1 w_63 => 
  gd t112 false (fun k_26 w_64 => pur Try.prog (Instr.fieldAt 30 t124_1 1) fun t125 => k_26 t125 w_64) (fun t125_1 w_65 => 
  gd t112 false (fun k_27 w_66 => rd Try.prog (Instr.loadAt 28 t125_1) (fun t126 => k_27 t126 w_66) w_66) (fun t126_1 w_67 => 
  gd t112 false (fun k_28 w_68 => callS Try.prog 12 #[t114_1, t120_1, t126_1] (fun t127 w_69 => k_28 t127 w_69) w_68) (fun t127_1 w_70 => 
  gd t112 false (fun k_29 w_71 => pur Try.prog (Op.unary .not t127_1) fun t128 => k_29 t128 w_71) (fun t128_1 w_72 => 
  pur Try.prog (pickS t112 (.bool true) t128_1) fun t129 => 
  gd t129 false (fun k_30 w_73 => k_30 t14 w_73) (fun t131_1 w_74 => 
  gd t129 false (fun k_31 w_75 => k_31 t52 w_75) (fun t132_1 w_76 => 
  gd t129 false (fun k_32 w_77 => k_32 v_i_1 w_77) (fun t133_1 w_78 => 
  gd t129 false (fun k_33 w_79 => pur Try.prog (Instr.indexAt 35 t132_1 t133_1) fun t134 => k_33 t134 w_79) (fun t134_1 w_80 => 
  gd t129 false (fun k_34 w_81 => pur Try.prog (Instr.fieldAt 49 t134_1 0) fun t135 => k_34 t135 w_81) (fun t135_1 w_82 => 
  gd t129 false (fun k_35 w_83 => pur Try.prog (Instr.fieldAt 30 t135_1 0) fun t136 => k_35 t136 w_83) (fun t136_1 w_84 => 
  gd t129 false (fun k_36 w_85 => rd Try.prog (Instr.loadAt 3 t136_1) (fun t137 => k_36 t137 w_85) w_85) (fun t137_1 w_86 => 
  gd t129 false (fun k_37 w_87 => k_37 t52 w_87) (fun t138_1 w_88 => 
  gd t129 false (fun k_38 w_89 => k_38 v_i_1 w_89) (fun t139_1 w_90 => 
  gd t129 false (fun k_39 w_91 => pur Try.prog (Instr.indexAt 35 t138_1 t139_1) fun t140 => k_39 t140 w_91) (fun t140_1 w_92 => 
  gd t129 false (fun k_40 w_93 => pur Try.prog (Instr.fieldAt 49 t140_1 0) fun t141 => k_40 t141 w_93) (fun t141_1 w_94 => 
  gd t129 false (fun k_41 w_95 => pur Try.prog (Instr.fieldAt 30 t141_1 1) fun t142 => k_41 t142 w_95) (fun t142_1 w_96 => 
  gd t129 false (fun k_42 w_97 => rd Try.prog (Instr.loadAt 28 t142_1) (fun t143 => k_42 t143 w_97) w_97) (fun t143_1 w_98 => 
  gd t129 false (fun k_43 w_99 => callS Try.prog 12 #[t131_1, t137_1, t143_1] (fun t144 w_100 => k_43 t144 w_100) w_99) (fun t144_1 w_101 => 
  pur Try.prog (pickS t129 (.bool true) t144_1) fun t145 => 
  condS t145
   (Q (.bool false) w_101)
   (pur Try.prog (binS .add 3 false true v_i_1 (.int .i64 1)) fun t58 => 
  J_2 t97 t58 w_101)) w_98) w_96) w_94) w_92) w_90) w_88) w_86) w_84) w_82) w_80) w_78) w_76) w_74) w_72) w_70) w_67) w_65) w_63) w_61) w_59) w_57) w_55) w_53) w_51) w_49) w_47) w_45) w_43) w_41) (World.drew w_40)) (World.drew w_40)) (World.drew w_40)) w_40)) w_38) w_36) w_34) w_32) w_30) w_28) w_25) w_23) w_21) w_19) w_17) w_15) w_13) w_11) (World.drew w_9))
   (callS Try.prog 7 #[] (fun t146 w_102 => 
 gd t146 true (fun k_44 w_103 => k_44 t14 w_103) (fun t148_1 w_104 => 
 gd t146 true (fun k_45 w_105 => callS Try.prog 17 #[t148_1] (fun t149 w_106 => k_45 t149 w_106) w_105) (fun t149_1 w_107 => 
 gd t146 true (fun k_46 w_108 => pur Try.prog (binS .eql 28 false true t149_1 (.int .u64 0)) fun t150 => k_46 t150 w_108) (fun t150_1 w_109 => 
 pur Try.prog (pickS t146 t150_1 (.bool false)) fun t151 => 
 gd t151 true (fun k_47 w_110 => k_47 t14 w_110) (fun t153_1 w_111 => 
 gd t151 true (fun k_48 w_112 => callS Try.prog 15 #[t153_1, (.slice none 0 0)] (fun t154 w_113 => k_48 t154 w_113) w_112) (fun t154_1 w_114 => 
 gd t151 true (fun k_49 w_115 => pur Try.prog (Builtin.len_ #[35] 3 #[t154_1]) fun t155 => k_49 t155 w_115) (fun t155_1 w_116 => 
 gd t151 true (fun k_50 w_117 => pur Try.prog (binS .eql 3 false true t155_1 (.int .i64 0)) fun t156 => k_50 t156 w_117) (fun t156_1 w_118 => 
 pur Try.prog (pickS t151 t156_1 (.bool false)) fun t157 => 
 gd t157 true (fun k_51 w_119 => k_51 t14 w_119) (fun t159_1 w_120 => 
 gd t157 true (fun k_52 w_121 => callS Try.prog 14 #[t159_1] (fun t160 w_122 => k_52 t160 w_122) w_121) (fun t160_1 w_123 => 
 gd t157 true (fun k_53 w_124 => k_53 t52 w_124) (fun t161_1 w_125 => 
 gd t157 true (fun k_54 w_126 => pur Try.prog (Builtin.len_ #[35] 3 #[t161_1]) fun t162 => k_54 t162 w_126) (fun t162_1 w_127 => 
 gd t157 true (fun k_55 w_128 => pur Try.prog (binS .eql 3 false false t160_1 t162_1) fun t163 => k_55 t163 w_128) (fun t163_1 w_129 => 
 pur Try.prog (pickS t157 t163_1 (.bool false)) fun t164 => 
 gd t164 true (fun k_56 w_130 => k_56 t14 w_130) (fun t166_1 w_131 => 
 gd t164 true (fun k_57 w_132 => pur Try.prog (Instr.build 41 #[(1, (.int .i64 16))]) fun t167 => k_57 t167 w_132) (fun t167_1 w_133 => 
 gd t164 true (fun k_58 w_134 => callS Try.prog 16 #[t166_1, t167_1] (fun t168 w_135 => k_58 t168 w_135) w_134) (fun t168_1 w_136 => 
 gd t164 true (fun k_59 w_137 => k_59 t52 w_137) (fun t169_1 w_138 => 
 gd t164 true (fun k_60 w_139 => pur Try.prog (Builtin.len_ #[35] 3 #[t169_1]) fun t170 => k_60 t170 w_139) (fun t170_1 w_140 => 
 gd t164 true (fun k_61 w_141 => pur Try.prog (binS .eql 3 false false t168_1 t170_1) fun t171 => k_61 t171 w_141) (fun t171_1 w_142 => 
 pur Try.prog (pickS t164 t171_1 (.bool false)) fun t172 => 
 Q t172 w_142) w_140) w_138) w_136) w_133) w_131) w_129) w_127) w_125) w_123) w_120) w_118) w_116) w_114) w_111) w_109) w_107) w_104) w_102) w_9)) [(.int .u64 0), (.int .i64 0)] w_8) w_4)) [(.int .i64 0)] w_3) w_2)) w_2) w)
theorem eq5 (v_l : Value) (Q : Value → World → Prop) (w : World) : semF Try.prog 5 [v_l] Q w = S5 v_l Q w := by kernel_rfl
theorem ref5 {v_l : Value} {Q : Value → World → Prop} {w : World} (h : S5 v_l Q w) : callS Try.prog 5 #[v_l] Q w :=
  callS_of mix (fun a w => Try.call5 a w) (by kernel_rfl) (by rw [eq5]; exact h)
-- commons/commonslaw23.CacheNone
def S6 (v_i v_n : Value) (Q : Value → World → Prop) (w : World) : Prop :=
 act Try.prog (Instr.box 30 v_i) (fun t2 w_1 => 
 pur Try.prog (Instr.fieldAt 30 t2 2) fun t11 => 
 rd Try.prog (Instr.loadAt 9 t11) (fun t12 => 
 pur Try.prog (Builtin.len_ #[9] 3 #[t12]) fun t13 => 
 pur Try.prog (binS .gtr 3 false true t13 (.int .i64 300)) fun t14 => 
 condS t14
  (callS Try.prog 7 #[] (fun t15 w_2 => 
  Q t15 w_2) w_1)
  (pur Try.prog (Instr.build 54 #[]) fun t16 => 
 act Try.prog (Instr.box 54 t16) (fun t17 w_3 => 
 callS Try.prog 13 #[(.pointer none), v_n] (fun t21 w_4 => 
 pur Try.prog (Instr.extract t21 0) fun t22 => 
 pur Try.prog (Instr.extract t21 1) fun t23 => 
 act Try.prog (Instr.alloc 30 true (.tuple #[])) (fun t7 w_5 => 
 act Try.prog (thenU (Instr.storeAt 30 t7 t22)) (fun _ w_6 => 
 callS Try.prog 13 #[t17, v_n] (fun t27 w_7 => 
 pur Try.prog (Instr.extract t27 0) fun t28 => 
 pur Try.prog (Instr.extract t27 1) fun t29 => 
 act Try.prog (Instr.alloc 30 true (.tuple #[])) (fun t9 w_8 => 
 act Try.prog (thenU (Instr.storeAt 30 t9 t28)) (fun _ w_9 => 
 callS Try.prog 7 #[] (fun t30 w_10 => 
 gd t30 true (fun k w_11 => k t23 w_11) (fun t32_1 w_12 => 
 gd t30 true (fun k_1 w_13 => pur Try.prog (Op.unary .not t32_1) fun t33 => k_1 t33 w_13) (fun t33_1 w_14 => 
 pur Try.prog (pickS t30 t33_1 (.bool false)) fun t34 => 
 gd t34 true (fun k_2 w_15 => k_2 t29 w_15) (fun t36_1 w_16 => 
 gd t34 true (fun k_3 w_17 => pur Try.prog (Op.unary .not t36_1) fun t37 => k_3 t37 w_17) (fun t37_1 w_18 => 
 pur Try.prog (pickS t34 t37_1 (.bool false)) fun t38 => 
 gd t38 true (fun k_4 w_19 => k_4 (.pointer none) w_19) (fun t40_1 w_20 => 
 gd t38 true (fun k_5 w_21 => rd Try.prog (Instr.loadAt 30 t2) (fun t41 => k_5 t41 w_21) w_21) (fun t41_1 w_22 => 
 gd t38 true (fun k_6 w_23 => callS Try.prog 11 #[t40_1, t41_1] (fun t42 w_24 => k_6 t42 w_24) w_23) (fun t42_1 w_25 => 
 gd t38 true (fun k_7 w_26 => pur Try.prog (Op.unary .not t42_1) fun t43 => k_7 t43 w_26) (fun t43_1 w_27 => 
 pur Try.prog (pickS t38 t43_1 (.bool false)) fun t44 => 
 gd t44 true (fun k_8 w_28 => k_8 t17 w_28) (fun t46_1 w_29 => 
 gd t44 true (fun k_9 w_30 => rd Try.prog (Instr.loadAt 30 t2) (fun t47 => k_9 t47 w_30) w_30) (fun t47_1 w_31 => 
 gd t44 true (fun k_10 w_32 => callS Try.prog 11 #[t46_1, t47_1] (fun t48 w_33 => k_10 t48 w_33) w_32) (fun t48_1 w_34 => 
 gd t44 true (fun k_11 w_35 => pur Try.prog (Op.unary .not t48_1) fun t49 => k_11 t49 w_35) (fun t49_1 w_36 => 
 pur Try.prog (pickS t44 t49_1 (.bool false)) fun t50 => 
 gd t50 true (fun k_12 w_37 => k_12 (.pointer none) w_37) (fun t52_1 w_38 => 
 gd t50 true (fun k_13 w_39 => rd Try.prog (Instr.loadAt 30 t2) (fun t53 => k_13 t53 w_39) w_39) (fun t53_1 w_40 => 
 gd t50 true (fun k_14 w_41 => callS Try.prog 10 #[t52_1, t53_1, (.int .u64 1)] (fun t54 w_42 => k_14 t54 w_42) w_41) (fun t54_1 w_43 => 
 gd t50 true (fun k_15 w_44 => pur Try.prog (binS .neq 26 false true t54_1 (.int .i64 0)) fun t55 => k_15 t55 w_44) (fun t55_1 w_45 => 
 pur Try.prog (pickS t50 t55_1 (.bool false)) fun t56 => 
 gd t56 true (fun k_16 w_46 => k_16 t17 w_46) (fun t58_1 w_47 => 
 gd t56 true (fun k_17 w_48 => rd Try.prog (Instr.loadAt 30 t2) (fun t59 => k_17 t59 w_48) w_48) (fun t59_1 w_49 => 
 gd t56 true (fun k_18 w_50 => callS Try.prog 10 #[t58_1, t59_1, (.int .u64 1)] (fun t60 w_51 => k_18 t60 w_51) w_50) (fun t60_1 w_52 => 
 gd t56 true (fun k_19 w_53 => pur Try.prog (binS .neq 26 false true t60_1 (.int .i64 0)) fun t61 => k_19 t61 w_53) (fun t61_1 w_54 => 
 pur Try.prog (pickS t56 t61_1 (.bool false)) fun t62 => 
 gd t62 true (fun k_20 w_55 => k_20 (.pointer none) w_55) (fun t64_1 w_56 => 
 gd t62 true (fun k_21 w_57 => callS Try.prog 15 #[t64_1, (.slice none 0 0)] (fun t65 w_58 => k_21 t65 w_58) w_57) (fun t65_1 w_59 => 
 gd t62 true (fun k_22 w_60 => pur Try.prog (Builtin.len_ #[35] 3 #[t65_1]) fun t66 => k_22 t66 w_60) (fun t66_1 w_61 => 
 gd t62 true (fun k_23 w_62 => k_23 (.pointer none) w_62) (fun t67_1 w_63 => 
 gd t62 true (fun k_24 w_64 => callS Try.prog 18 #[t67_1] (fun t68 w_65 => k_24 t68 w_65) w_64) (fun t68_1 w_66 => 
 gd t62 true (fun k_25 w_67 => pur Try.prog (Builtin.len_ #[35] 3 #[t68_1]) fun t69 => k_25 t69 w_67) (fun t69_1 w_68 => 
 gd t62 true (fun k_26 w_69 => pur Try.prog (binS .add 3 false false t66_1 t69_1) fun t70 => k_26 t70 w_69) (fun t70_1 w_70 => 
 gd t62 true (fun k_27 w_71 => k_27 (.pointer none) w_71) (fun t71_1 w_72 => 
 gd t62 true (fun k_28 w_73 => callS Try.prog 14 #[t71_1] (fun t72 w_74 => k_28 t72 w_74) w_73) (fun t72_1 w_75 => 
 gd t62 true (fun k_29 w_76 => pur Try.prog (binS .add 3 false false t70_1 t72_1) fun t73 => k_29 t73 w_76) (fun t73_1 w_77 => 
 gd t62 true (fun k_30 w_78 => k_30 (.pointer none) w_78) (fun t74_1 w_79 => 
 gd t62 true (fun k_31 w_80 => callS Try.prog 9 #[t74_1] (fun t75 w_81 => k_31 t75 w_81) w_80) (fun t75_1 w_82 => 
 gd t62 true (fun k_32 w_83 => pur Try.prog (binS .add 3 false false t73_1 t75_1) fun t76 => k_32 t76 w_83) (fun t76_1 w_84 => 
 gd t62 true (fun k_33 w_85 => k_33 t17 w_85) (fun t77_1 w_86 => 
 gd t62 true (fun k_34 w_87 => callS Try.prog 14 #[t77_1] (fun t78 w_88 => k_34 t78 w_88) w_87) (fun t78_1 w_89 => 
 gd t62 true (fun k_35 w_90 => pur Try.prog (binS .add 3 false false t76_1 t78_1) fun t79 => k_35 t79 w_90) (fun t79_1 w_91 => 
 gd t62 true (fun k_36 w_92 => k_36 t17 w_92) (fun t80_1 w_93 => 
 gd t62 true (fun k_37 w_94 => callS Try.prog 9 #[t80_1] (fun t81 w_95 => k_37 t81 w_95) w_94) (fun t81_1 w_96 => 
 gd t62 true (fun k_38 w_97 => pur Try.prog (binS .add 3 false false t79_1 t81_1) fun t82 => k_38 t82 w_97) (fun t82_1 w_98 => 
 gd t62 true (fun k_39 w_99 => k_39 (.pointer none) w_99) (fun t83_1 w_100 => 
 gd t62 true (fun k_40 w_101 => pur Try.prog (Instr.build 41 #[(1, (.int .i64 9))]) fun t84 => k_40 t84 w_101) (fun t84_1 w_102 => 
 gd t62 true (fun k_41 w_103 => callS Try.prog 16 #[t83_1, t84_1] (fun t85 w_104 => k_41 t85 w_104) w_103) (fun t85_1 w_105 => 
 gd t62 true (fun k_42 w_106 => pur Try.prog (binS .add 3 false false t82_1 t85_1) fun t86 => k_42 t86 w_106) (fun t86_1 w_107 => 
 gd t62 true (fun k_43 w_108 => pur Try.prog (binS .eql 3 false true t86_1 (.int .i64 0)) fun t87 => k_43 t87 w_108) (fun t87_1 w_109 => 
 pur Try.prog (pickS t62 t87_1 (.bool false)) fun t88 => 
 gd t88 true (fun k_44 w_110 => k_44 (.pointer none) w_110) (fun t90_1 w_111 => 
 gd t88 true (fun k_45 w_112 => k_45 v_n w_112) (fun t91_1 w_113 => 
 gd t88 true (fun k_46 w_114 => callS Try.prog 12 #[t90_1, t91_1, (.int .u64 1)] (fun t92 w_115 => k_46 t92 w_115) w_114) (fun t92_1 w_116 => 
 gd t88 true (fun k_47 w_117 => pur Try.prog (Op.unary .not t92_1) fun t93 => k_47 t93 w_117) (fun t93_1 w_118 => 
 pur Try.prog (pickS t88 t93_1 (.bool false)) fun t94 => 
 gd t94 true (fun k_48 w_119 => k_48 (.pointer none) w_119) (fun t96_1 w_120 => 
 gd t94 true (fun k_49 w_121 => callS Try.prog 17 #[t96_1] (fun t97 w_122 => k_49 t97 w_122) w_121) (fun t97_1 w_123 => 
 gd t94 true (fun k_50 w_124 => k_50 t17 w_124) (fun t98_1 w_125 => 
 gd t94 true (fun k_51 w_126 => callS Try.prog 17 #[t98_1] (fun t99 w_127 => k_51 t99 w_127) w_126) (fun t99_1 w_128 => 
 gd t94 true (fun k_52 w_129 => pur Try.prog (binS .add 28 false false t97_1 t99_1) fun t100 => k_52 t100 w_129) (fun t100_1 w_130 => 
 gd t94 true (fun k_53 w_131 => pur Try.prog (binS .eql 28 false true t100_1 (.int .u64 0)) fun t101 => k_53 t101 w_131) (fun t101_1 w_132 => 
 pur Try.prog (pickS t94 t101_1 (.bool false)) fun t102 => 
 Q t102 w_132) w_130) w_128) w_125) w_123) w_120) w_118) w_116) w_113) w_111) w_109) w_107) w_105) w_102) w_100) w_98) w_96) w_93) w_91) w_89) w_86) w_84) w_82) w_79) w_77) w_75) w_72) w_70) w_68) w_66) w_63) w_61) w_59) w_56) w_54) w_52) w_49) w_47) w_45) w_43) w_40) w_38) w_36) w_34) w_31) w_29) w_27) w_25) w_22) w_20) w_18) w_16) w_14) w_12) w_10) w_9) w_8) w_7) w_6) w_5) w_4) w_3) w_1)) w_1) w
theorem eq6 (v_i v_n : Value) (Q : Value → World → Prop) (w : World) : semF Try.prog 6 [v_i, v_n] Q w = S6 v_i v_n Q w := by kernel_rfl
theorem ref6 {v_i v_n : Value} {Q : Value → World → Prop} {w : World} (h : S6 v_i v_n Q w) : callS Try.prog 6 #[v_i, v_n] Q w :=
  callS_of mix (fun a w => Try.call6 a w) (by kernel_rfl) (by rw [eq6]; exact h)
-- commons/commonslaw23.alive
def S7 (Q : Value → World → Prop) (w : World) : Prop :=
 callS Try.prog 8 #[(.int .i64 2)] (fun t5 w_1 => 
 rd Try.prog (binS .eql 23 false true t5 (.pointer none)) (fun t7 => 
 gd t7 false (fun k w_2 => k t5 w_2) (fun t9_1 w_3 => 
 gd t7 false (fun k_1 w_4 => pur Try.prog (Instr.build 30 #[(0, (.int .i64 1))]) fun t10 => k_1 t10 w_4) (fun t10_1 w_5 => 
 gd t7 false (fun k_2 w_6 => callS Try.prog 11 #[t9_1, t10_1] (fun t11 w_7 => k_2 t11 w_7) w_6) (fun t11_1 w_8 => 
 gd t7 false (fun k_3 w_9 => pur Try.prog (Op.unary .not t11_1) fun t12 => k_3 t12 w_9) (fun t12_1 w_10 => 
 pur Try.prog (pickS t7 (.bool true) t12_1) fun t13 => 
 gd t13 false (fun k_4 w_11 => k_4 t5 w_11) (fun t15_1 w_12 => 
 gd t13 false (fun k_5 w_13 => pur Try.prog (Instr.build 30 #[(0, (.int .i64 2)), (1, (.int .u64 1))]) fun t16 => k_5 t16 w_13) (fun t16_1 w_14 => 
 gd t13 false (fun k_6 w_15 => callS Try.prog 10 #[t15_1, t16_1, (.int .u64 5)] (fun t17 w_16 => k_6 t17 w_16) w_15) (fun t17_1 w_17 => 
 gd t13 false (fun k_7 w_18 => pur Try.prog (binS .neq 26 false true t17_1 (.int .i64 0)) fun t18 => k_7 t18 w_18) (fun t18_1 w_19 => 
 pur Try.prog (pickS t13 (.bool true) t18_1) fun t19 => 
 gd t19 false (fun k_8 w_20 => k_8 t5 w_20) (fun t21_1 w_21 => 
 gd t19 false (fun k_9 w_22 => pur Try.prog (Instr.build 30 #[(0, (.int .i64 3))]) fun t22 => k_9 t22 w_22) (fun t22_1 w_23 => 
 gd t19 false (fun k_10 w_24 => callS Try.prog 11 #[t21_1, t22_1] (fun t23 w_25 => k_10 t23 w_25) w_24) (fun t23_1 w_26 => 
 gd t19 false (fun k_11 w_27 => pur Try.prog (Op.unary .not t23_1) fun t24 => k_11 t24 w_27) (fun t24_1 w_28 => 
 pur Try.prog (pickS t19 (.bool true) t24_1) fun t25 => 
 condS t25
  (Q (.bool false) w_28)
  (callS Try.prog 13 #[t5, (.int .i64 1)] (fun t28 w_29 => 
 pur Try.prog (Instr.extract t28 0) fun t29 => 
 pur Try.prog (Instr.extract t28 1) fun t30 => 
 act Try.prog (Instr.alloc 30 true (.tuple #[])) (fun t2 w_30 => 
 act Try.prog (thenU (Instr.storeAt 30 t2 t29)) (fun _ w_31 => 
 callS Try.prog 15 #[t5, (.slice none 0 0)] (fun t32 w_32 => 
 pur Try.prog (Op.unary .not t30) fun t34 => 
 gd t34 true (fun k_12 w_33 => k_12 t5 w_33) (fun t36_1 w_34 => 
 gd t34 true (fun k_13 w_35 => callS Try.prog 14 #[t36_1] (fun t37 w_36 => k_13 t37 w_36) w_35) (fun t37_1 w_37 => 
 gd t34 true (fun k_14 w_38 => pur Try.prog (binS .eql 3 false true t37_1 (.int .i64 2)) fun t38 => k_14 t38 w_38) (fun t38_1 w_39 => 
 pur Try.prog (pickS t34 t38_1 (.bool false)) fun t39 => 
 gd t39 true (fun k_15 w_40 => k_15 t32 w_40) (fun t41_1 w_41 => 
 gd t39 true (fun k_16 w_42 => pur Try.prog (Builtin.len_ #[35] 3 #[t41_1]) fun t42 => k_16 t42 w_42) (fun t42_1 w_43 => 
 gd t39 true (fun k_17 w_44 => pur Try.prog (binS .eql 3 false true t42_1 (.int .i64 1)) fun t43 => k_17 t43 w_44) (fun t43_1 w_45 => 
 pur Try.prog (pickS t39 t43_1 (.bool false)) fun t44 => 
 gd t44 true (fun k_18 w_46 => k_18 t32 w_46) (fun t46_1 w_47 => 
 gd t44 true (fun k_19 w_48 => pur Try.prog (Instr.indexAt 35 t46_1 (.int .i64 0)) fun t47 => k_19 t47 w_48) (fun t47_1 w_49 => 
 gd t44 true (fun k_20 w_50 => pur Try.prog (Instr.fieldAt 49 t47_1 2) fun t48 => k_20 t48 w_50) (fun t48_1 w_51 => 
 gd t44 true (fun k_21 w_52 => rd Try.prog (Instr.loadAt 28 t48_1) (fun t49 => k_21 t49 w_52) w_52) (fun t49_1 w_53 => 
 gd t44 true (fun k_22 w_54 => pur Try.prog (binS .eql 28 false true t49_1 (.int .u64 5)) fun t50 => k_22 t50 w_54) (fun t50_1 w_55 => 
 pur Try.prog (pickS t44 t50_1 (.bool false)) fun t51 => 
 gd t51 true (fun k_23 w_56 => k_23 t5 w_56) (fun t53_1 w_57 => 
 gd t51 true (fun k_24 w_58 => callS Try.prog 17 #[t53_1] (fun t54 w_59 => k_24 t54 w_59) w_58) (fun t54_1 w_60 => 
 gd t51 true (fun k_25 w_61 => pur Try.prog (binS .eql 28 false true t54_1 (.int .u64 5)) fun t55 => k_25 t55 w_61) (fun t55_1 w_62 => 
 pur Try.prog (pickS t51 t55_1 (.bool false)) fun t56 => 
 gd t56 true (fun k_26 w_63 => k_26 t5 w_63) (fun t58_1 w_64 => 
 gd t56 true (fun k_27 w_65 => callS Try.prog 12 #[t58_1, (.int .i64 2), (.int .u64 1)] (fun t59 w_66 => k_27 t59 w_66) w_65) (fun t59_1 w_67 => 
 pur Try.prog (pickS t56 t59_1 (.bool false)) fun t60 => 
 gd t60 true (fun k_28 w_68 => k_28 t5 w_68) (fun t62_1 w_69 => 
 gd t60 true (fun k_29 w_70 => callS Try.prog 17 #[t62_1] (fun t63 w_71 => k_29 t63 w_71) w_70) (fun t63_1 w_72 => 
 gd t60 true (fun k_30 w_73 => pur Try.prog (binS .eql 28 false true t63_1 (.int .u64 0)) fun t64 => k_30 t64 w_73) (fun t64_1 w_74 => 
 pur Try.prog (pickS t60 t64_1 (.bool false)) fun t65 => 
 Q t65 w_74) w_72) w_69) w_67) w_64) w_62) w_60) w_57) w_55) w_53) w_51) w_49) w_47) w_45) w_43) w_41) w_39) w_37) w_34) w_32) w_31) w_30) w_29) w_28)) w_26) w_23) w_21) w_19) w_17) w_14) w_12) w_10) w_8) w_5) w_3) w_1) w_1) w
theorem eq7 (Q : Value → World → Prop) (w : World) : semF Try.prog 7 [] Q w = S7 Q w := by kernel_rfl
theorem ref7 {Q : Value → World → Prop} {w : World} (h : S7 Q w) : callS Try.prog 7 #[] Q w :=
  callS_of mix (fun a w => Try.call7 a w) (by kernel_rfl) (by rw [eq7]; exact h)
-- commons/cache.New
def S8 (v_room : Value) (Q : Value → World → Prop) (w : World) : Prop :=
 pur Try.prog (Builtin.max_ #[3, 3] 3 #[v_room, (.int .i64 1)]) fun t4 => 
 pur Try.prog (Builtin.min_ #[3, 3] 3 #[t4, (.int .i64 10000)]) fun t5 => 
 callS Try.prog 19 #[t5] (fun t6 w_1 => 
 pur Try.prog (Instr.build 54 #[(0, t6)]) fun t7 => 
 act Try.prog (Instr.box 54 t7) (fun t8 w_2 => 
 Q t8 w_2) w_1) w
theorem eq8 (v_room : Value) (Q : Value → World → Prop) (w : World) : semF Try.prog 8 [v_room] Q w = S8 v_room Q w := by kernel_rfl
theorem ref8 {v_room : Value} {Q : Value → World → Prop} {w : World} (h : S8 v_room Q w) : callS Try.prog 8 #[v_room] Q w :=
  callS_of mix (fun a w => Try.call8 a w) (by kernel_rfl) (by rw [eq8]; exact h)
-- (*commons/cache.Cache).Room
def S9 (v_c : Value) (Q : Value → World → Prop) (w : World) : Prop :=
 callS Try.prog 20 #[v_c] (fun t4 w_1 => 
 callS Try.prog 21 #[t4] (fun t5 w_2 => 
 callS Try.prog 15 #[v_c, (.slice none 0 0)] (fun t7 w_3 => 
 pur Try.prog (Builtin.len_ #[35] 3 #[t7]) fun t8 => 
 pur Try.prog (binS .sub 3 false false t5 t8) fun t9 => 
 Q t9 w_3) w_2) w_1) w
theorem eq9 (v_c : Value) (Q : Value → World → Prop) (w : World) : semF Try.prog 9 [v_c] Q w = S9 v_c Q w := by kernel_rfl
theorem ref9 {v_c : Value} {Q : Value → World → Prop} {w : World} (h : S9 v_c Q w) : callS Try.prog 9 #[v_c] Q w :=
  callS_of mix (fun a w => Try.call9 a w) (by kernel_rfl) (by rw [eq9]; exact h)
-- (*commons/cache.Cache).Change
def S10 (v_c v_i v_lsn : Value) (Q : Value → World → Prop) (w : World) : Prop :=
 act Try.prog (Instr.box 30 v_i) (fun t4 w_1 => 
 jn 2 (fun J => 
  ∃ S : World → Prop, S (World.drew w_1) ∧ 
 pur Try.prog (Instr.fieldAt 30 t4 0) fun t16 => 
  hld Try.prog S (Instr.loadAt 3 t16) fun t17 => 
  (callS Try.prog 20 #[v_c] (fun t15 w_2 => S w_2 ∧ 
  (callS Try.prog 22 #[t15, t17] (fun t18 w_3 => S w_3 ∧ 
  pur Try.prog (Instr.extract t18 0) fun t19 => 
  pur Try.prog (Instr.extract t18 1) fun t20 => 
  act Try.prog (Instr.alloc 49 true (.tuple #[])) (fun t7 w_4 => S w_4 ∧ 
  act Try.prog (thenU (Instr.storeAt 49 t7 t19)) (fun _ w_5 => S w_5 ∧ 
  J t7 t20 w_5) w_4) w_3) w_2
  ) ∧ (act Try.prog (Instr.alloc 49 true (.tuple #[])) (fun t7_1 w_6 => S w_6 ∧ 
  callS Try.prog 22 #[t15, t17] (fun t18_1 w_7 => S w_7 ∧ 
  pur Try.prog (Instr.extract t18_1 0) fun t19_1 => 
  pur Try.prog (Instr.extract t18_1 1) fun t20_1 => 
  act Try.prog (thenU (Instr.storeAt 49 t7_1 t19_1)) (fun _ w_8 => S w_8 ∧ 
  J t7_1 t20_1 w_8) w_7) w_6) w_2)) (World.drew w_1)
  ) ∧ (act Try.prog (Instr.alloc 49 true (.tuple #[])) (fun t7_2 w_9 => S w_9 ∧ 
  callS Try.prog 20 #[v_c] (fun t15_1 w_10 => S w_10 ∧ 
  callS Try.prog 22 #[t15_1, t17] (fun t18_2 w_11 => S w_11 ∧ 
  pur Try.prog (Instr.extract t18_2 0) fun t19_2 => 
  pur Try.prog (Instr.extract t18_2 1) fun t20_2 => 
  act Try.prog (thenU (Instr.storeAt 49 t7_2 t19_2)) (fun _ w_12 => S w_12 ∧ 
  J t7_2 t20_2 w_12) w_11) w_10) w_9) (World.drew w_1)))
 (fun v_was v_is w_13 => ∀ _j : Fr, 
  callS Try.prog 20 #[v_c] (fun t22 w_14 => 
 callS Try.prog 21 #[t22] (fun t23 w_15 => 
 pur Try.prog (binS .eql 3 false true t23 (.int .i64 0)) fun t24 => 
 gd t24 false (fun k w_16 => k v_lsn w_16) (fun t26_1 w_17 => 
 gd t24 false (fun k_1 w_18 => pur Try.prog (binS .eql 28 false true t26_1 (.int .u64 0)) fun t27 => k_1 t27 w_18) (fun t27_1 w_19 => 
 pur Try.prog (pickS t24 (.bool true) t27_1) fun t28 => 
 gd t28 false (fun k_2 w_20 => k_2 v_is w_20) (fun t30_1 w_21 => 
 gd t28 false (fun k_3 w_22 => k_3 t30_1 w_22) (fun t31_1 w_23 => 
 gd t31_1 true (fun k_4 w_24 => pur Try.prog (Instr.fieldAt 30 t4 1) fun t32 => k_4 t32 w_24) (fun t32_1 w_25 => 
 gd t31_1 true (fun k_5 w_26 => rd Try.prog (Instr.loadAt 28 t32_1) (fun t33 => k_5 t33 w_26) w_26) (fun t33_1 w_27 => 
 gd t31_1 true (fun k_6 w_28 => pur Try.prog (Instr.fieldAt 49 v_was 0) fun t34 => k_6 t34 w_28) (fun t34_1 w_29 => 
 gd t31_1 true (fun k_7 w_30 => pur Try.prog (Instr.fieldAt 30 t34_1 1) fun t35 => k_7 t35 w_30) (fun t35_1 w_31 => 
 gd t31_1 true (fun k_8 w_32 => rd Try.prog (Instr.loadAt 28 t35_1) (fun t36 => k_8 t36 w_32) w_32) (fun t36_1 w_33 => 
 gd t31_1 true (fun k_9 w_34 => pur Try.prog (binS .leq 28 false false t33_1 t36_1) fun t37 => k_9 t37 w_34) (fun t37_1 w_35 => 
 gd t28 false (fun k_10 w_36 => pur Try.prog (pickS t31_1 t37_1 (.bool false)) fun t38 => k_10 t38 w_36) (fun t38_1 w_37 => 
 pur Try.prog (pickS t28 (.bool true) t38_1) fun t39 => 
 condS t39
  (Q (.int .i64 1) w_37)
  (jn 1 (fun J_1 => 
  pur Try.prog (Instr.fieldAt 49 v_was 1) fun t40 => 
  rd Try.prog (Instr.loadAt 4 t40) (fun t41 => 
  condS t41
   (pur Try.prog (Instr.fieldAt 49 v_was 2) fun t43 => 
   rd Try.prog (Instr.loadAt 28 t43) (fun t44 => 
   pur Try.prog (Builtin.min_ #[28, 28] 28 #[v_lsn, t44]) fun t45 => 
   J_1 t45 w_37) w_37)
   (J_1 v_lsn w_37)) w_37)
 (fun v_lsn_1 w_38 => ∀ _j : Fr, 
  jn 1 (fun J_2 => 
   ∃ S_1 : World → Prop, S_1 (World.drew w_38) ∧ 
  pur Try.prog (Instr.fieldAt 30 t4 0) fun t49 => 
   hld Try.prog S_1 (Instr.loadAt 3 t49) fun t50 => 
   hld Try.prog S_1 (Instr.loadAt 30 t4) fun t51 => 
   (callS Try.prog 20 #[v_c] (fun t48 w_39 => S_1 w_39 ∧ 
   (callS Try.prog 24 #[t51] (fun t52 w_40 => S_1 w_40 ∧ 
   pur Try.prog (Instr.build 49 #[(0, t52), (1, (.bool true)), (2, v_lsn_1)]) fun t54 => 
   (callS Try.prog 23 #[t48, t50, t54] (fun t55 w_41 => S_1 w_41 ∧ 
   pur Try.prog (Instr.extract t55 0) fun _ => 
   pur Try.prog (Instr.extract t55 1) fun t57 => 
   pur Try.prog (Instr.extract t55 2) fun _ => 
   pur Try.prog (Instr.extract t55 3) fun t59 => 
   act Try.prog (Instr.alloc 49 true (.tuple #[])) (fun t10 w_42 => S_1 w_42 ∧ 
   act Try.prog (thenU (Instr.storeAt 49 t10 t57)) (fun _ w_43 => S_1 w_43 ∧ 
   J_2 t59 w_43) w_42) w_41) w_40
   ) ∧ (act Try.prog (Instr.alloc 49 true (.tuple #[])) (fun t10_1 w_44 => S_1 w_44 ∧ 
   callS Try.prog 23 #[t48, t50, t54] (fun t55_1 w_45 => S_1 w_45 ∧ 
   pur Try.prog (Instr.extract t55_1 0) fun _ => 
   pur Try.prog (Instr.extract t55_1 1) fun t57_1 => 
   pur Try.prog (Instr.extract t55_1 2) fun _ => 
   pur Try.prog (Instr.extract t55_1 3) fun t59_1 => 
   act Try.prog (thenU (Instr.storeAt 49 t10_1 t57_1)) (fun _ w_46 => S_1 w_46 ∧ 
   J_2 t59_1 w_46) w_45) w_44) w_40)) w_39
   ) ∧ (act Try.prog (Instr.alloc 49 true (.tuple #[])) (fun t10_2 w_47 => S_1 w_47 ∧ 
   callS Try.prog 24 #[t51] (fun t52_1 w_48 => S_1 w_48 ∧ 
   pur Try.prog (Instr.build 49 #[(0, t52_1), (1, (.bool true)), (2, v_lsn_1)]) fun t54_1 => 
   callS Try.prog 23 #[t48, t50, t54_1] (fun t55_2 w_49 => S_1 w_49 ∧ 
   pur Try.prog (Instr.extract t55_2 0) fun _ => 
   pur Try.prog (Instr.extract t55_2 1) fun t57_2 => 
   pur Try.prog (Instr.extract t55_2 2) fun _ => 
   pur Try.prog (Instr.extract t55_2 3) fun t59_2 => 
   act Try.prog (thenU (Instr.storeAt 49 t10_2 t57_2)) (fun _ w_50 => S_1 w_50 ∧ 
   J_2 t59_2 w_50) w_49) w_48) w_47) w_39)) (World.drew w_38)
   ) ∧ (act Try.prog (Instr.alloc 49 true (.tuple #[])) (fun t10_3 w_51 => S_1 w_51 ∧ 
   callS Try.prog 20 #[v_c] (fun t48_1 w_52 => S_1 w_52 ∧ 
   callS Try.prog 24 #[t51] (fun t52_2 w_53 => S_1 w_53 ∧ 
   pur Try.prog (Instr.build 49 #[(0, t52_2), (1, (.bool true)), (2, v_lsn_1)]) fun t54_2 => 
   callS Try.prog 23 #[t48_1, t50, t54_2] (fun t55_3 w_54 => S_1 w_54 ∧ 
   pur Try.prog (Instr.extract t55_3 0) fun _ => 
   pur Try.prog (Instr.extract t55_3 1) fun t57_3 => 
   pur Try.prog (Instr.extract t55_3 2) fun _ => 
   pur Try.prog (Instr.extract t55_3 3) fun t59_3 => 
   act Try.prog (thenU (Instr.storeAt 49 t10_3 t57_3)) (fun _ w_55 => S_1 w_55 ∧ 
   J_2 t59_3 w_55) w_54) w_53) w_52) w_51) (World.drew w_38)))
  (fun v_done w_56 => ∀ _j : Fr, 
   pur Try.prog (Op.unary .not v_done) fun t61 => 
  condS t61
   (Q (.int .i64 10) w_56)
   (jn 0 (fun J_3 => 
   pur Try.prog (Instr.fieldAt 49 v_was 1) fun t62 => 
   rd Try.prog (Instr.loadAt 4 t62) (fun t63 => 
   pur Try.prog (Op.unary .not t63) fun t64 => 
   condS t64
    (∃ S_2 : World → Prop, S_2 (World.drew w_56) ∧ 
    callS Try.prog 20 #[v_c] (fun t66 w_57 => S_2 w_57 ∧ 
    pur Try.prog (Instr.fieldAt 30 t4 0) fun t67 => 
    hld Try.prog S_2 (Instr.loadAt 3 t67) fun t68 => 
    callS Try.prog 25 #[t66, t68] (fun _ w_58 => S_2 w_58 ∧ 
    J_3  w_58) w_57) (World.drew w_56))
    (J_3  w_56)) w_56)
  (fun  w_59 => ∀ _j : Fr, 
   Q (.int .i64 0) w_59)))))) w_35) w_33) w_31) w_29) w_27) w_25) w_23) w_21) w_19) w_17) w_15) w_14) w_13)) w
theorem eq10 (v_c v_i v_lsn : Value) (Q : Value → World → Prop) (w : World) : semF Try.prog 10 [v_c, v_i, v_lsn] Q w = S10 v_c v_i v_lsn Q w := by kernel_rfl
theorem ref10 {v_c v_i v_lsn : Value} {Q : Value → World → Prop} {w : World} (h : S10 v_c v_i v_lsn Q w) : callS Try.prog 10 #[v_c, v_i, v_lsn] Q w :=
  callS_of mix (fun a w => Try.call10 a w) (by kernel_rfl) (by rw [eq10]; exact h)
-- (*commons/cache.Cache).Fill
def S11 (v_c v_i : Value) (Q : Value → World → Prop) (w : World) : Prop :=
 act Try.prog (Instr.box 30 v_i) (fun t3 w_1 => 
 jn 1 (fun J => 
  ∃ S : World → Prop, S (World.drew w_1) ∧ 
 pur Try.prog (Instr.fieldAt 30 t3 0) fun t14 => 
  hld Try.prog S (Instr.loadAt 3 t14) fun t15 => 
  (callS Try.prog 20 #[v_c] (fun t13 w_2 => S w_2 ∧ 
  (callS Try.prog 22 #[t13, t15] (fun t16 w_3 => S w_3 ∧ 
  pur Try.prog (Instr.extract t16 0) fun t17 => 
  pur Try.prog (Instr.extract t16 1) fun t18 => 
  act Try.prog (Instr.alloc 49 true (.tuple #[])) (fun t5 w_4 => S w_4 ∧ 
  act Try.prog (thenU (Instr.storeAt 49 t5 t17)) (fun _ w_5 => S w_5 ∧ 
  J t18 w_5) w_4) w_3) w_2
  ) ∧ (act Try.prog (Instr.alloc 49 true (.tuple #[])) (fun t5_1 w_6 => S w_6 ∧ 
  callS Try.prog 22 #[t13, t15] (fun t16_1 w_7 => S w_7 ∧ 
  pur Try.prog (Instr.extract t16_1 0) fun t17_1 => 
  pur Try.prog (Instr.extract t16_1 1) fun t18_1 => 
  act Try.prog (thenU (Instr.storeAt 49 t5_1 t17_1)) (fun _ w_8 => S w_8 ∧ 
  J t18_1 w_8) w_7) w_6) w_2)) (World.drew w_1)
  ) ∧ (act Try.prog (Instr.alloc 49 true (.tuple #[])) (fun t5_2 w_9 => S w_9 ∧ 
  callS Try.prog 20 #[v_c] (fun t13_1 w_10 => S w_10 ∧ 
  callS Try.prog 22 #[t13_1, t15] (fun t16_2 w_11 => S w_11 ∧ 
  pur Try.prog (Instr.extract t16_2 0) fun t17_2 => 
  pur Try.prog (Instr.extract t16_2 1) fun t18_2 => 
  act Try.prog (thenU (Instr.storeAt 49 t5_2 t17_2)) (fun _ w_12 => S w_12 ∧ 
  J t18_2 w_12) w_11) w_10) w_9) (World.drew w_1)))
 (fun v_is w_13 => ∀ _j : Fr, 
  condS v_is
  (Q (.bool false) w_13)
  (jn 1 (fun J_1 => 
  ∃ S_1 : World → Prop, S_1 (World.drew w_13) ∧ 
 pur Try.prog (Instr.fieldAt 30 t3 0) fun t23 => 
  hld Try.prog S_1 (Instr.loadAt 3 t23) fun t24 => 
  hld Try.prog S_1 (Instr.loadAt 30 t3) fun t25 => 
  (callS Try.prog 20 #[v_c] (fun t22 w_14 => S_1 w_14 ∧ 
  (callS Try.prog 24 #[t25] (fun t26 w_15 => S_1 w_15 ∧ 
  pur Try.prog (Instr.build 49 #[(0, t26)]) fun t27 => 
  (callS Try.prog 23 #[t22, t24, t27] (fun t28 w_16 => S_1 w_16 ∧ 
  pur Try.prog (Instr.extract t28 0) fun _ => 
  pur Try.prog (Instr.extract t28 1) fun t30 => 
  pur Try.prog (Instr.extract t28 2) fun _ => 
  pur Try.prog (Instr.extract t28 3) fun t32 => 
  act Try.prog (Instr.alloc 49 true (.tuple #[])) (fun t8 w_17 => S_1 w_17 ∧ 
  act Try.prog (thenU (Instr.storeAt 49 t8 t30)) (fun _ w_18 => S_1 w_18 ∧ 
  J_1 t32 w_18) w_17) w_16) w_15
  ) ∧ (act Try.prog (Instr.alloc 49 true (.tuple #[])) (fun t8_1 w_19 => S_1 w_19 ∧ 
  callS Try.prog 23 #[t22, t24, t27] (fun t28_1 w_20 => S_1 w_20 ∧ 
  pur Try.prog (Instr.extract t28_1 0) fun _ => 
  pur Try.prog (Instr.extract t28_1 1) fun t30_1 => 
  pur Try.prog (Instr.extract t28_1 2) fun _ => 
  pur Try.prog (Instr.extract t28_1 3) fun t32_1 => 
  act Try.prog (thenU (Instr.storeAt 49 t8_1 t30_1)) (fun _ w_21 => S_1 w_21 ∧ 
  J_1 t32_1 w_21) w_20) w_19) w_15)) w_14
  ) ∧ (act Try.prog (Instr.alloc 49 true (.tuple #[])) (fun t8_2 w_22 => S_1 w_22 ∧ 
  callS Try.prog 24 #[t25] (fun t26_1 w_23 => S_1 w_23 ∧ 
  pur Try.prog (Instr.build 49 #[(0, t26_1)]) fun t27_1 => 
  callS Try.prog 23 #[t22, t24, t27_1] (fun t28_2 w_24 => S_1 w_24 ∧ 
  pur Try.prog (Instr.extract t28_2 0) fun _ => 
  pur Try.prog (Instr.extract t28_2 1) fun t30_2 => 
  pur Try.prog (Instr.extract t28_2 2) fun _ => 
  pur Try.prog (Instr.extract t28_2 3) fun t32_2 => 
  act Try.prog (thenU (Instr.storeAt 49 t8_2 t30_2)) (fun _ w_25 => S_1 w_25 ∧ 
  J_1 t32_2 w_25) w_24) w_23) w_22) w_14)) (World.drew w_13)
  ) ∧ (act Try.prog (Instr.alloc 49 true (.tuple #[])) (fun t8_3 w_26 => S_1 w_26 ∧ 
  callS Try.prog 20 #[v_c] (fun t22_1 w_27 => S_1 w_27 ∧ 
  callS Try.prog 24 #[t25] (fun t26_2 w_28 => S_1 w_28 ∧ 
  pur Try.prog (Instr.build 49 #[(0, t26_2)]) fun t27_2 => 
  callS Try.prog 23 #[t22_1, t24, t27_2] (fun t28_3 w_29 => S_1 w_29 ∧ 
  pur Try.prog (Instr.extract t28_3 0) fun _ => 
  pur Try.prog (Instr.extract t28_3 1) fun t30_3 => 
  pur Try.prog (Instr.extract t28_3 2) fun _ => 
  pur Try.prog (Instr.extract t28_3 3) fun t32_3 => 
  act Try.prog (thenU (Instr.storeAt 49 t8_3 t30_3)) (fun _ w_30 => S_1 w_30 ∧ 
  J_1 t32_3 w_30) w_29) w_28) w_27) w_26) (World.drew w_13)))
 (fun v_done w_31 => ∀ _j : Fr, 
  Q v_done w_31)))) w
theorem eq11 (v_c v_i : Value) (Q : Value → World → Prop) (w : World) : semF Try.prog 11 [v_c, v_i] Q w = S11 v_c v_i Q w := by kernel_rfl
theorem ref11 {v_c v_i : Value} {Q : Value → World → Prop} {w : World} (h : S11 v_c v_i Q w) : callS Try.prog 11 #[v_c, v_i] Q w :=
  callS_of mix (fun a w => Try.call11 a w) (by kernel_rfl) (by rw [eq11]; exact h)
-- (*commons/cache.Cache).Clean
def S12 (v_c v_block v_version : Value) (Q : Value → World → Prop) (w : World) : Prop :=
 callS Try.prog 20 #[v_c] (fun t11 w_1 => 
 callS Try.prog 22 #[t11, v_block] (fun t13 w_2 => 
 pur Try.prog (Instr.extract t13 0) fun t14 => 
 pur Try.prog (Instr.extract t13 1) fun t15 => 
 act Try.prog (Instr.alloc 49 true (.tuple #[])) (fun t7 w_3 => 
 act Try.prog (thenU (Instr.storeAt 49 t7 t14)) (fun _ w_4 => 
 pur Try.prog (Op.unary .not t15) fun t17 => 
 gd t17 false (fun k w_5 => pur Try.prog (Instr.fieldAt 49 t7 1) fun t19 => k t19 w_5) (fun t19_1 w_6 => 
 gd t17 false (fun k_1 w_7 => rd Try.prog (Instr.loadAt 4 t19_1) (fun t20 => k_1 t20 w_7) w_7) (fun t20_1 w_8 => 
 gd t17 false (fun k_2 w_9 => pur Try.prog (Op.unary .not t20_1) fun t21 => k_2 t21 w_9) (fun t21_1 w_10 => 
 pur Try.prog (pickS t17 (.bool true) t21_1) fun t22 => 
 gd t22 false (fun k_3 w_11 => pur Try.prog (Instr.fieldAt 49 t7 0) fun t24 => k_3 t24 w_11) (fun t24_1 w_12 => 
 gd t22 false (fun k_4 w_13 => pur Try.prog (Instr.fieldAt 30 t24_1 1) fun t25 => k_4 t25 w_13) (fun t25_1 w_14 => 
 gd t22 false (fun k_5 w_15 => rd Try.prog (Instr.loadAt 28 t25_1) (fun t26 => k_5 t26 w_15) w_15) (fun t26_1 w_16 => 
 gd t22 false (fun k_6 w_17 => k_6 v_version w_17) (fun t27_1 w_18 => 
 gd t22 false (fun k_7 w_19 => pur Try.prog (binS .neq 28 false false t26_1 t27_1) fun t28 => k_7 t28 w_19) (fun t28_1 w_20 => 
 pur Try.prog (pickS t22 (.bool true) t28_1) fun t29 => 
 condS t29
  (Q (.bool false) w_20)
  (pur Try.prog (Instr.fieldAt 49 t7 0) fun t31 => 
 rd Try.prog (Instr.loadAt 30 t31) (fun t32 => 
 pur Try.prog (Instr.build 49 #[(0, t32)]) fun t33 => 
 callS Try.prog 26 #[v_c, t33] (fun _ w_21 => 
 callS Try.prog 20 #[v_c] (fun t36 w_22 => 
 callS Try.prog 27 #[t36, v_block] (fun _ w_23 => 
 Q (.bool true) w_23) w_22) w_21) w_20) w_20)) w_18) w_16) w_14) w_12) w_10) w_8) w_6) w_4) w_3) w_2) w_1) w
theorem eq12 (v_c v_block v_version : Value) (Q : Value → World → Prop) (w : World) : semF Try.prog 12 [v_c, v_block, v_version] Q w = S12 v_c v_block v_version Q w := by kernel_rfl
theorem ref12 {v_c v_block v_version : Value} {Q : Value → World → Prop} {w : World} (h : S12 v_c v_block v_version Q w) : callS Try.prog 12 #[v_c, v_block, v_version] Q w :=
  callS_of mix (fun a w => Try.call12 a w) (by kernel_rfl) (by rw [eq12]; exact h)
-- (*commons/cache.Cache).Get
def S13 (v_c v_block : Value) (Q : Value → World → Prop) (w : World) : Prop :=
 act Try.prog (Instr.alloc 30 true (.tuple #[])) (fun t4 w_1 => 
 callS Try.prog 20 #[v_c] (fun t10 w_2 => 
 callS Try.prog 28 #[t10, v_block] (fun t12 w_3 => 
 pur Try.prog (Instr.extract t12 0) fun t13 => 
 pur Try.prog (Instr.extract t12 1) fun t14 => 
 act Try.prog (Instr.alloc 49 true (.tuple #[])) (fun t6 w_4 => 
 act Try.prog (thenU (Instr.storeAt 49 t6 t13)) (fun _ w_5 => 
 pur Try.prog (Instr.fieldAt 49 t6 0) fun t15 => 
 rd Try.prog (Instr.loadAt 30 t15) (fun t16 => 
 act Try.prog (thenU (Instr.storeAt 30 t4 t16)) (fun _ w_6 => 
 rd Try.prog (resL 30 t4) (fun r => Q (.tuple #[r, t14]) w_6) w_6) w_5) w_5) w_4) w_3) w_2) w_1) w
theorem eq13 (v_c v_block : Value) (Q : Value → World → Prop) (w : World) : semF Try.prog 13 [v_c, v_block] Q w = S13 v_c v_block Q w := by kernel_rfl
theorem ref13 {v_c v_block : Value} {Q : Value → World → Prop} {w : World} (h : S13 v_c v_block Q w) : callS Try.prog 13 #[v_c, v_block] Q w :=
  callS_of mix (fun a w => Try.call13 a w) (by kernel_rfl) (by rw [eq13]; exact h)
-- (*commons/cache.Cache).Len
def S14 (v_c : Value) (Q : Value → World → Prop) (w : World) : Prop :=
 callS Try.prog 20 #[v_c] (fun t4 w_1 => 
 callS Try.prog 29 #[t4] (fun t5 w_2 => 
 Q t5 w_2) w_1) w
theorem eq14 (v_c : Value) (Q : Value → World → Prop) (w : World) : semF Try.prog 14 [v_c] Q w = S14 v_c Q w := by kernel_rfl
theorem ref14 {v_c : Value} {Q : Value → World → Prop} {w : World} (h : S14 v_c Q w) : callS Try.prog 14 #[v_c] Q w :=
  callS_of mix (fun a w => Try.call14 a w) (by kernel_rfl) (by rw [eq14]; exact h)
-- (*commons/cache.Cache).Dirty
def S15 (v_c v_l : Value) (Q : Value → World → Prop) (w : World) : Prop :=
 act Try.prog (Instr.box 65 v_l) (fun t3 w_1 => 
 callS Try.prog 18 #[v_c] (fun t7 w_2 => 
 pur Try.prog (pure (.func (.func 31) #[] #[t3])) fun t8 => 
 callS Try.prog 30 #[t7, t8] (fun t9 w_3 => 
 callS Try.prog 35 #[t9, (.func (.func 36) #[] #[])] (fun _ w_4 => 
 Q t9 w_4) w_3) w_2) w_1) w
theorem eq15 (v_c v_l : Value) (Q : Value → World → Prop) (w : World) : semF Try.prog 15 [v_c, v_l] Q w = S15 v_c v_l Q w := by kernel_rfl
theorem ref15 {v_c v_l : Value} {Q : Value → World → Prop} {w : World} (h : S15 v_c v_l Q w) : callS Try.prog 15 #[v_c, v_l] Q w :=
  callS_of mix (fun a w => Try.call15 a w) (by kernel_rfl) (by rw [eq15]; exact h)
-- (*commons/cache.Cache).Drop
def S16 (v_c v_s : Value) (Q : Value → World → Prop) (w : World) : Prop :=
 act Try.prog (Instr.box 41 v_s) (fun t3 w_1 => 
 callS Try.prog 18 #[v_c] (fun t9 w_2 => 
 pur Try.prog (Builtin.len_ #[35] 3 #[t9]) fun t10 => 
 lp 2 (fun J => fun v_n t11 w_3 => ∀ _j : Fr, 
  pur Try.prog (binS .lss 3 false false t11 t10) fun t12 => 
  condS t12
   (jn 1 (fun J_1 => 
   pur Try.prog (Instr.indexAt 35 t9 t11) fun t13 => 
   rd Try.prog (Instr.loadAt 49 t13) (fun t14 => 
   act Try.prog (Instr.alloc 49 true (.tuple #[])) (fun t7 w_4 => 
   act Try.prog (thenU (Instr.storeAt 49 t7 t14)) (fun _ w_5 => 
   ∃ S : World → Prop, S (World.drew w_5) ∧ 
   pur Try.prog (Instr.fieldAt 49 t7 1) fun t15 => 
   hld Try.prog S (Instr.loadAt 4 t15) fun t16 => 
   pur Try.prog (Op.unary .not t16) fun t17 => 
   gd t17 true (fun k w_6 => hld Try.prog S (Instr.loadAt 41 t3) fun t19 => k t19 w_6) (fun t19_1 w_7 => 
   gd t17 true (fun k_1 w_8 => pur Try.prog (Instr.fieldAt 49 t7 0) fun t20 => k_1 t20 w_8) (fun t20_1 w_9 => 
   gd t17 true (fun k_2 w_10 => pur Try.prog (Instr.fieldAt 30 t20_1 0) fun t21 => k_2 t21 w_10) (fun t21_1 w_11 => 
   gd t17 true (fun k_3 w_12 => hld Try.prog S (Instr.loadAt 3 t21_1) fun t22 => k_3 t22 w_12) (fun t22_1 w_13 => 
   gd t17 true (fun k_4 w_14 => callS Try.prog 34 #[t19_1, t22_1] (fun t23 w_15 => S w_15 ∧ k_4 t23 w_15) w_14) (fun t23_1 w_16 => 
   pur Try.prog (pickS t17 t23_1 (.bool false)) fun t24 => 
   gd t24 true (fun k_5 w_17 => k_5 v_c w_17) (fun t26_1 w_18 => 
   gd t24 true (fun k_6 w_19 => callS Try.prog 20 #[t26_1] (fun t27 w_20 => S w_20 ∧ k_6 t27 w_20) w_19) (fun t27_1 w_21 => 
   gd t24 true (fun k_7 w_22 => pur Try.prog (Instr.fieldAt 49 t7 0) fun t28 => k_7 t28 w_22) (fun t28_1 w_23 => 
   gd t24 true (fun k_8 w_24 => pur Try.prog (Instr.fieldAt 30 t28_1 0) fun t29 => k_8 t29 w_24) (fun t29_1 w_25 => 
   gd t24 true (fun k_9 w_26 => hld Try.prog S (Instr.loadAt 3 t29_1) fun t30 => k_9 t30 w_26) (fun t30_1 w_27 => 
   gd t24 true (fun k_10 w_28 => callS Try.prog 38 #[t27_1, t30_1] (fun t31 w_29 => S w_29 ∧ k_10 t31 w_29) w_28) (fun t31_1 w_30 => 
   pur Try.prog (pickS t24 t31_1 (.bool false)) fun t32 => 
   condS t32
    (pur Try.prog (binS .add 3 false true v_n (.int .i64 1)) fun t34 => 
    J_1 t34 w_30)
    (J_1 v_n w_30)) w_27) w_25) w_23) w_21) w_18) w_16) w_13) w_11) w_9) w_7) (World.drew w_5)) w_4) w_3) w_3)
  (fun v_n_1 w_31 => ∀ _j : Fr, 
   pur Try.prog (binS .add 3 false true t11 (.int .i64 1)) fun t35 => 
   J v_n_1 t35 w_31))
   (Q v_n w_3)) [(.int .i64 0), (.int .i64 0)] w_2) w_1) w
theorem eq16 (v_c v_s : Value) (Q : Value → World → Prop) (w : World) : semF Try.prog 16 [v_c, v_s] Q w = S16 v_c v_s Q w := by kernel_rfl
theorem ref16 {v_c v_s : Value} {Q : Value → World → Prop} {w : World} (h : S16 v_c v_s Q w) : callS Try.prog 16 #[v_c, v_s] Q w :=
  callS_of mix (fun a w => Try.call16 a w) (by kernel_rfl) (by rw [eq16]; exact h)
-- (*commons/cache.Cache).Oldest
def S17 (v_c : Value) (Q : Value → World → Prop) (w : World) : Prop :=
 callS Try.prog 15 #[v_c, (.slice none 0 0)] (fun t5 w_1 => 
 pur Try.prog (Builtin.len_ #[35] 3 #[t5]) fun t7 => 
 pur Try.prog (binS .eql 3 false true t7 (.int .i64 0)) fun t8 => 
 condS t8
  (Q (.int .u64 0) w_1)
  (pur Try.prog (Instr.indexAt 35 t5 (.int .i64 0)) fun t10 => 
 pur Try.prog (Instr.fieldAt 49 t10 2) fun t11 => 
 rd Try.prog (Instr.loadAt 28 t11) (fun t12 => 
 Q t12 w_1) w_1)) w
theorem eq17 (v_c : Value) (Q : Value → World → Prop) (w : World) : semF Try.prog 17 [v_c] Q w = S17 v_c Q w := by kernel_rfl
theorem ref17 {v_c : Value} {Q : Value → World → Prop} {w : World} (h : S17 v_c Q w) : callS Try.prog 17 #[v_c] Q w :=
  callS_of mix (fun a w => Try.call17 a w) (by kernel_rfl) (by rw [eq17]; exact h)
-- (*commons/cache.Cache).All
def S18 (v_c : Value) (Q : Value → World → Prop) (w : World) : Prop :=
 callS Try.prog 20 #[v_c] (fun t9 w_1 => 
 callS Try.prog 39 #[t9] (fun t10 w_2 => 
 pur Try.prog (Builtin.len_ #[46] 3 #[t10]) fun t11 => 
 lp 2 (fun J => fun v_out t12 w_3 => ∀ _j : Fr, 
  pur Try.prog (binS .lss 3 false false t12 t11) fun t13 => 
  condS t13
   (pur Try.prog (Instr.indexAt 46 t10 t12) fun t14 => 
  rd Try.prog (Instr.loadAt 3 t14) (fun t15 => 
  callS Try.prog 20 #[v_c] (fun t18 w_4 => 
  callS Try.prog 22 #[t18, t15] (fun t20 w_5 => 
  pur Try.prog (Instr.extract t20 0) fun t21 => 
  pur Try.prog (Instr.extract t20 1) fun _ => 
  act Try.prog (Instr.alloc 49 true (.tuple #[])) (fun t6 w_6 => 
  act Try.prog (thenU (Instr.storeAt 49 t6 t21)) (fun _ w_7 => 
  rd Try.prog (Instr.loadAt 49 t6) (fun t24 => 
  act Try.prog (Instr.buildSlice 35 1 #[(0, t24)]) (fun t25 w_8 => 
  act Try.prog (Builtin.append_ #[35, 35] 35 #[v_out, t25]) (fun t26 w_9 => 
  pur Try.prog (binS .add 3 false true t12 (.int .i64 1)) fun t27 => 
  J t26 t27 w_9) w_8) w_7) w_7) w_6) w_5) w_4) w_3) w_3)
   (callS Try.prog 40 #[v_out, (.func (.func 41) #[] #[])] (fun _ w_10 => 
 Q v_out w_10) w_3)) [(.slice none 0 0), (.int .i64 0)] w_2) w_1) w
theorem eq18 (v_c : Value) (Q : Value → World → Prop) (w : World) : semF Try.prog 18 [v_c] Q w = S18 v_c Q w := by kernel_rfl
theorem ref18 {v_c : Value} {Q : Value → World → Prop} {w : World} (h : S18 v_c Q w) : callS Try.prog 18 #[v_c] Q w :=
  callS_of mix (fun a w => Try.call18 a w) (by kernel_rfl) (by rw [eq18]; exact h)
-- commons/lru.New[int,commons/cache.Entry]
def S19 (v_room : Value) (Q : Value → World → Prop) (w : World) : Prop :=
 act Try.prog (Instr.makeMap 76 none) (fun t4 w_1 => 
 pur Try.prog (Builtin.max_ #[3, 3] 3 #[v_room, (.int .i64 0)]) fun t6 => 
 pur Try.prog (Builtin.min_ #[3, 3] 3 #[t6, (.int .i64 100000)]) fun t7 => 
 pur Try.prog (Instr.build 81 #[(0, t4), (2, t7)]) fun t8 => 
 act Try.prog (Instr.box 81 t8) (fun t9 w_2 => 
 pur Try.prog (nilV t9) fun t13 => 
 pur Try.prog (Instr.fieldAt 81 t13 1) fun t14 => 
 pur Try.prog (nilV t9) fun t16 => 
 pur Try.prog (Instr.fieldAt 81 t16 1) fun t17 => 
 pur Try.prog (nilV t9) fun t18 => 
 pur Try.prog (Instr.fieldAt 81 t18 1) fun t19 => 
 pur Try.prog (Instr.fieldAt 79 t19 3) fun t20 => 
 act Try.prog (thenU (Instr.storeAt 77 t20 t14)) (fun _ w_3 => 
 pur Try.prog (nilV t9) fun t21 => 
 pur Try.prog (Instr.fieldAt 81 t21 1) fun t22 => 
 pur Try.prog (Instr.fieldAt 79 t22 4) fun t23 => 
 act Try.prog (thenU (Instr.storeAt 77 t23 t17)) (fun _ w_4 => 
 Q t9 w_4) w_3) (World.drew w_2)) w_1) w
theorem eq19 (v_room : Value) (Q : Value → World → Prop) (w : World) : semF Try.prog 19 [v_room] Q w = S19 v_room Q w := by kernel_rfl
theorem ref19 {v_room : Value} {Q : Value → World → Prop} {w : World} (h : S19 v_room Q w) : callS Try.prog 19 #[v_room] Q w :=
  callS_of mix (fun a w => Try.call19 a w) (by kernel_rfl) (by rw [eq19]; exact h)
-- (*commons/cache.Cache).all
def S20 (v_c : Value) (Q : Value → World → Prop) (w : World) : Prop :=
 rd Try.prog (binS .eql 23 false true v_c (.pointer none)) (fun t4 => 
 condS t4
  (Q (.pointer none) w)
  (pur Try.prog (nilV v_c) fun t6 => 
 pur Try.prog (Instr.fieldAt 54 t6 0) fun t7 => 
 rd Try.prog (Instr.loadAt 52 t7) (fun t8 => 
 Q t8 w) w)) w
theorem eq20 (v_c : Value) (Q : Value → World → Prop) (w : World) : semF Try.prog 20 [v_c] Q w = S20 v_c Q w := by kernel_rfl
theorem ref20 {v_c : Value} {Q : Value → World → Prop} {w : World} (h : S20 v_c Q w) : callS Try.prog 20 #[v_c] Q w :=
  callS_of mix (fun a w => Try.call20 a w) (by kernel_rfl) (by rw [eq20]; exact h)
-- (*commons/lru.Cache[int, commons/cache.Entry]).Room
def S21 (v_c : Value) (Q : Value → World → Prop) (w : World) : Prop :=
 rd Try.prog (binS .eql 52 false true v_c (.pointer none)) (fun t4 => 
 condS t4
  (Q (.int .i64 0) w)
  (pur Try.prog (nilV v_c) fun t6 => 
 pur Try.prog (Instr.fieldAt 81 t6 2) fun t7 => 
 rd Try.prog (Instr.loadAt 3 t7) (fun t8 => 
 Q t8 w) w)) w
theorem eq21 (v_c : Value) (Q : Value → World → Prop) (w : World) : semF Try.prog 21 [v_c] Q w = S21 v_c Q w := by kernel_rfl
theorem ref21 {v_c : Value} {Q : Value → World → Prop} {w : World} (h : S21 v_c Q w) : callS Try.prog 21 #[v_c] Q w :=
  callS_of mix (fun a w => Try.call21 a w) (by kernel_rfl) (by rw [eq21]; exact h)
-- (*commons/lru.Cache[int, commons/cache.Entry]).Peek
def S22 (v_c v_k : Value) (Q : Value → World → Prop) (w : World) : Prop :=
 act Try.prog (Instr.alloc 49 true (.tuple #[])) (fun t4 w_1 => 
 callS Try.prog 43 #[v_c, v_k] (fun t10 w_2 => 
 rd Try.prog (binS .eql 77 false true t10 (.pointer none)) (fun t12 => 
 condS t12
  (act Try.prog (Instr.alloc 49 true (.tuple #[])) (fun t7 w_3 => 
  rd Try.prog (Instr.loadAt 49 t7) (fun t13 => 
  act Try.prog (thenU (Instr.storeAt 49 t4 t13)) (fun _ w_4 => 
  rd Try.prog (resL 49 t4) (fun r => Q (.tuple #[r, (.bool false)]) w_4) w_4) w_3) w_3) w_2)
  (pur Try.prog (nilV t10) fun t15 => 
 pur Try.prog (Instr.fieldAt 79 t15 1) fun t16 => 
 rd Try.prog (Instr.loadAt 49 t16) (fun t17 => 
 act Try.prog (thenU (Instr.storeAt 49 t4 t17)) (fun _ w_5 => 
 rd Try.prog (resL 49 t4) (fun r_1 => Q (.tuple #[r_1, (.bool true)]) w_5) w_5) w_2) w_2)) w_2) w_1) w
theorem eq22 (v_c v_k : Value) (Q : Value → World → Prop) (w : World) : semF Try.prog 22 [v_c, v_k] Q w = S22 v_c v_k Q w := by kernel_rfl
theorem ref22 {v_c v_k : Value} {Q : Value → World → Prop} {w : World} (h : S22 v_c v_k Q w) : callS Try.prog 22 #[v_c, v_k] Q w :=
  callS_of mix (fun a w => Try.call22 a w) (by kernel_rfl) (by rw [eq22]; exact h)
-- (*commons/lru.Cache[int, commons/cache.Entry]).Put
def S23 (v_c v_k v_v : Value) (Q : Value → World → Prop) (w : World) : Prop :=
 act Try.prog (Instr.box 49 v_v) (fun t5 w_1 => 
 act Try.prog (Instr.alloc 49 true (.tuple #[])) (fun t7 w_2 => 
 act Try.prog (Instr.alloc 79 true (.tuple #[])) (fun t10 w_3 => 
 callS Try.prog 43 #[v_c, v_k] (fun t17 w_4 => 
 rd Try.prog (binS .neq 77 false true t17 (.pointer none)) (fun t19 => 
 condS t19
  (rd Try.prog (Instr.loadAt 49 t5) (fun t21 => 
  pur Try.prog (nilV t17) fun t22 => 
  pur Try.prog (Instr.fieldAt 79 t22 1) fun t23 => 
  act Try.prog (thenU (Instr.storeAt 49 t23 t21)) (fun _ w_5 => 
  callS Try.prog 44 #[v_c, t17] (fun _ w_6 => 
  pur Try.prog (Instr.fieldAt 79 t10 0) fun t27 => 
  rd Try.prog (Instr.loadAt 3 t27) (fun t28 => 
  pur Try.prog (Instr.fieldAt 79 t10 1) fun t29 => 
  rd Try.prog (Instr.loadAt 49 t29) (fun t30 => 
  act Try.prog (thenU (Instr.storeAt 49 t7 t30)) (fun _ w_7 => 
  rd Try.prog (resL 49 t7) (fun r => Q (.tuple #[t28, r, (.bool false), (.bool true)]) w_7) w_7) (World.drew w_6)) (World.drew w_6)) (World.drew w_6)) w_5) w_4) w_4)
  (callS Try.prog 21 #[v_c] (fun t32 w_8 => 
 pur Try.prog (binS .eql 3 false true t32 (.int .i64 0)) fun t33 => 
 condS t33
  (pur Try.prog (Instr.fieldAt 79 t10 0) fun t34 => 
  rd Try.prog (Instr.loadAt 3 t34) (fun t35 => 
  pur Try.prog (Instr.fieldAt 79 t10 1) fun t36 => 
  rd Try.prog (Instr.loadAt 49 t36) (fun t37 => 
  act Try.prog (thenU (Instr.storeAt 49 t7 t37)) (fun _ w_9 => 
  rd Try.prog (resL 49 t7) (fun r_1 => Q (.tuple #[t35, r_1, (.bool false), (.bool false)]) w_9) w_9) (World.drew w_8)) (World.drew w_8)) (World.drew w_8))
  (jn 1 (fun J => 
  pur Try.prog (nilV v_c) fun t39 => 
  pur Try.prog (Instr.fieldAt 81 t39 0) fun t40 => 
  rd Try.prog (Instr.loadAt 76 t40) (fun t41 => 
  rd Try.prog (Builtin.len_ #[76] 3 #[t41]) (fun t42 => 
  pur Try.prog (nilV v_c) fun t44 => 
  pur Try.prog (Instr.fieldAt 81 t44 2) fun t45 => 
  rd Try.prog (Instr.loadAt 3 t45) (fun t46 => 
  pur Try.prog (binS .geq 3 false false t42 t46) fun t47 => 
  condS t47
   (callS Try.prog 45 #[v_c] (fun t49 w_10 => 
   rd Try.prog (binS .eql 77 false true t49 (.pointer none)) (fun t51 => 
   condS t51
    (pur Try.prog (Instr.fieldAt 79 t10 0) fun t52 => 
    rd Try.prog (Instr.loadAt 3 t52) (fun t53 => 
    pur Try.prog (Instr.fieldAt 79 t10 1) fun t54 => 
    rd Try.prog (Instr.loadAt 49 t54) (fun t55 => 
    act Try.prog (thenU (Instr.storeAt 49 t7 t55)) (fun _ w_11 => 
    rd Try.prog (resL 49 t7) (fun r_2 => Q (.tuple #[t53, r_2, (.bool false), (.bool false)]) w_11) w_11) (World.drew w_10)) (World.drew w_10)) (World.drew w_10))
    (callS Try.prog 46 #[t49] (fun _ w_12 => 
   pur Try.prog (nilV v_c) fun t59 => 
   pur Try.prog (Instr.fieldAt 81 t59 0) fun t60 => 
   rd Try.prog (Instr.loadAt 76 t60) (fun t61 => 
   pur Try.prog (nilV t49) fun t63 => 
   pur Try.prog (Instr.fieldAt 79 t63 0) fun t64 => 
   rd Try.prog (Instr.loadAt 3 t64) (fun t65 => 
   act Try.prog (Builtin.delete_ #[76, 3] 0 #[t61, t65]) (fun _ w_13 => 
   jn 1 (fun J_1 => 
    pur Try.prog (nilV t49) fun t67 => 
    pur Try.prog (Instr.fieldAt 79 t67 0) fun t68 => 
    rd Try.prog (Instr.loadAt 3 t68) (fun t69 => 
    pur Try.prog (nilV t49) fun t71 => 
    pur Try.prog (Instr.fieldAt 79 t71 1) fun t72 => 
    pur Try.prog (Instr.fieldAt 79 t10 0) fun t74 => 
    (rd Try.prog (Instr.loadAt 49 t72) (fun t73 => 
    act Try.prog (thenU (Instr.storeAt 3 t74 t69)) (fun _ w_14 => 
    pur Try.prog (Instr.fieldAt 79 t10 1) fun t75 => 
    act Try.prog (thenU (Instr.storeAt 49 t75 t73)) (fun _ w_15 => 
    J_1 (.bool true) w_15) w_14) (World.drew w_13)) (World.drew w_13)
    ) ∧ (act Try.prog (thenU (Instr.storeAt 3 t74 t69)) (fun _ w_16 => 
    rd Try.prog (Instr.loadAt 49 t72) (fun t73_1 => 
    pur Try.prog (Instr.fieldAt 79 t10 1) fun t75_1 => 
    act Try.prog (thenU (Instr.storeAt 49 t75_1 t73_1)) (fun _ w_17 => 
    J_1 (.bool true) w_17) w_16) w_16) (World.drew w_13))) (World.drew w_13))
   (fun v_out w_18 => ∀ _j : Fr, 
    J v_out w_18)) (World.drew w_12)) (World.drew w_12)) (World.drew w_12)) w_10)) w_10) (World.drew w_8))
   (J (.bool false) (World.drew w_8))) (World.drew w_8)) (World.drew w_8)) (World.drew w_8))
 (fun v_out_1 w_19 => ∀ _j : Fr, 
  rd Try.prog (Instr.loadAt 49 t5) (fun t77 => 
  pur Try.prog (Instr.build 79 #[(0, v_k), (1, t77)]) fun t78 => 
  act Try.prog (Instr.box 79 t78) (fun t79 w_20 => 
  pur Try.prog (nilV v_c) fun t81 => 
  pur Try.prog (Instr.fieldAt 81 t81 0) fun t82 => 
  rd Try.prog (Instr.loadAt 76 t82) (fun t83 => 
  act Try.prog (thenU (Instr.mapUpdate 76 t83 v_k t79)) (fun _ w_21 => 
  callS Try.prog 47 #[v_c, t79] (fun _ w_22 => 
  pur Try.prog (Instr.fieldAt 79 t10 0) fun t89 => 
  rd Try.prog (Instr.loadAt 3 t89) (fun t90 => 
  pur Try.prog (Instr.fieldAt 79 t10 1) fun t91 => 
  rd Try.prog (Instr.loadAt 49 t91) (fun t92 => 
  act Try.prog (thenU (Instr.storeAt 49 t7 t92)) (fun _ w_23 => 
  rd Try.prog (resL 49 t7) (fun r_3 => Q (.tuple #[t90, r_3, v_out_1, (.bool true)]) w_23) w_23) (World.drew w_22)) (World.drew w_22)) (World.drew w_22)) w_21) w_20) w_20) w_19) w_19))) w_4)) w_4) w_3) w_2) w_1) w
theorem eq23 (v_c v_k v_v : Value) (Q : Value → World → Prop) (w : World) : semF Try.prog 23 [v_c, v_k, v_v] Q w = S23 v_c v_k v_v Q w := by kernel_rfl
theorem ref23 {v_c v_k v_v : Value} {Q : Value → World → Prop} {w : World} (h : S23 v_c v_k v_v Q w) : callS Try.prog 23 #[v_c, v_k, v_v] Q w :=
  callS_of mix (fun a w => Try.call23 a w) (by kernel_rfl) (by rw [eq23]; exact h)
-- commons/cache.own
def S24 (v_i : Value) (Q : Value → World → Prop) (w : World) : Prop :=
 act Try.prog (Instr.box 30 v_i) (fun t1 w_1 => 
 act Try.prog (Instr.alloc 30 true (.tuple #[])) (fun t2 w_2 => 
 pur Try.prog (Instr.fieldAt 30 t1 2) fun t3 => 
 rd Try.prog (Instr.loadAt 9 t3) (fun t4 => 
 callS Try.prog 48 #[t4] (fun t5 w_3 => 
 pur Try.prog (Instr.fieldAt 30 t1 2) fun t6 => 
 act Try.prog (thenU (Instr.storeAt 9 t6 t5)) (fun _ w_4 => 
 rd Try.prog (Instr.loadAt 30 t1) (fun t7 => 
 act Try.prog (thenU (Instr.storeAt 30 t2 t7)) (fun _ w_5 => 
 rd Try.prog (resL 30 t2) (fun r => Q r w_5) w_5) w_4) w_4) w_3) w_2) w_2) w_1) w
theorem eq24 (v_i : Value) (Q : Value → World → Prop) (w : World) : semF Try.prog 24 [v_i] Q w = S24 v_i Q w := by kernel_rfl
theorem ref24 {v_i : Value} {Q : Value → World → Prop} {w : World} (h : S24 v_i Q w) : callS Try.prog 24 #[v_i] Q w :=
  callS_of mix (fun a w => Try.call24 a w) (by kernel_rfl) (by rw [eq24]; exact h)
-- (*commons/lru.Cache[int, commons/cache.Entry]).Pin
def S25 (v_c v_k : Value) (Q : Value → World → Prop) (w : World) : Prop :=
 callS Try.prog 43 #[v_c, v_k] (fun t8 w_1 => 
 rd Try.prog (binS .eql 77 false true t8 (.pointer none)) (fun t10 => 
 condS t10
  (Q (.bool false) w_1)
  (pur Try.prog (nilV t8) fun t12 => 
 pur Try.prog (Instr.fieldAt 79 t12 2) fun t13 => 
 rd Try.prog (Instr.loadAt 3 t13) (fun t14 => 
 pur Try.prog (binS .add 3 false true t14 (.int .i64 1)) fun t15 => 
 pur Try.prog (nilV t8) fun t16 => 
 pur Try.prog (Instr.fieldAt 79 t16 2) fun t17 => 
 act Try.prog (thenU (Instr.storeAt 3 t17 t15)) (fun _ w_2 => 
 Q (.bool true) w_2) w_1) w_1)) w_1) w
theorem eq25 (v_c v_k : Value) (Q : Value → World → Prop) (w : World) : semF Try.prog 25 [v_c, v_k] Q w = S25 v_c v_k Q w := by kernel_rfl
theorem ref25 {v_c v_k : Value} {Q : Value → World → Prop} {w : World} (h : S25 v_c v_k Q w) : callS Try.prog 25 #[v_c, v_k] Q w :=
  callS_of mix (fun a w => Try.call25 a w) (by kernel_rfl) (by rw [eq25]; exact h)
-- (*commons/lru.Cache[int, commons/cache.Entry]).Unpin
def S27 (v_c v_k : Value) (Q : Value → World → Prop) (w : World) : Prop :=
 callS Try.prog 43 #[v_c, v_k] (fun t8 w_1 => 
 rd Try.prog (binS .eql 77 false true t8 (.pointer none)) (fun t10 => 
 gd t10 false (fun k w_2 => k t8 w_2) (fun t12_1 w_3 => 
 gd t10 false (fun k_1 w_4 => pur Try.prog (nilV t12_1) fun t13 => k_1 t13 w_4) (fun t13_1 w_5 => 
 gd t10 false (fun k_2 w_6 => pur Try.prog (Instr.fieldAt 79 t13_1 2) fun t14 => k_2 t14 w_6) (fun t14_1 w_7 => 
 gd t10 false (fun k_3 w_8 => rd Try.prog (Instr.loadAt 3 t14_1) (fun t15 => k_3 t15 w_8) w_8) (fun t15_1 w_9 => 
 gd t10 false (fun k_4 w_10 => pur Try.prog (binS .eql 3 false true t15_1 (.int .i64 0)) fun t16 => k_4 t16 w_10) (fun t16_1 w_11 => 
 pur Try.prog (pickS t10 (.bool true) t16_1) fun t17 => 
 condS t17
  (Q (.bool false) w_11)
  (pur Try.prog (nilV t8) fun t19 => 
 pur Try.prog (Instr.fieldAt 79 t19 2) fun t20 => 
 rd Try.prog (Instr.loadAt 3 t20) (fun t21 => 
 pur Try.prog (binS .sub 3 false true t21 (.int .i64 1)) fun t22 => 
 pur Try.prog (nilV t8) fun t23 => 
 pur Try.prog (Instr.fieldAt 79 t23 2) fun t24 => 
 act Try.prog (thenU (Instr.storeAt 3 t24 t22)) (fun _ w_12 => 
 Q (.bool true) w_12) w_11) w_11)) w_9) w_7) w_5) w_3) w_1) w_1) w
theorem eq27 (v_c v_k : Value) (Q : Value → World → Prop) (w : World) : semF Try.prog 27 [v_c, v_k] Q w = S27 v_c v_k Q w := by kernel_rfl
theorem ref27 {v_c v_k : Value} {Q : Value → World → Prop} {w : World} (h : S27 v_c v_k Q w) : callS Try.prog 27 #[v_c, v_k] Q w :=
  callS_of mix (fun a w => Try.call27 a w) (by kernel_rfl) (by rw [eq27]; exact h)
-- (*commons/lru.Cache[int, commons/cache.Entry]).Get
def S28 (v_c v_k : Value) (Q : Value → World → Prop) (w : World) : Prop :=
 act Try.prog (Instr.alloc 49 true (.tuple #[])) (fun t4 w_1 => 
 jn 0 (fun J => 
  callS Try.prog 43 #[v_c, v_k] (fun t9 w_2 => 
  rd Try.prog (binS .neq 77 false true t9 (.pointer none)) (fun t11 => 
  condS t11
   (callS Try.prog 44 #[v_c, t9] (fun _ w_3 => 
   J  w_3) w_2)
   (J  w_2)) w_2) w_1)
 (fun  w_4 => ∀ _j : Fr, 
  callS Try.prog 22 #[v_c, v_k] (fun t17 w_5 => 
  pur Try.prog (Instr.extract t17 0) fun t18 => 
  pur Try.prog (Instr.extract t17 1) fun t19 => 
  act Try.prog (thenU (Instr.storeAt 49 t4 t18)) (fun _ w_6 => 
  rd Try.prog (resL 49 t4) (fun r => Q (.tuple #[r, t19]) w_6) w_6) w_5) w_4)) w
theorem eq28 (v_c v_k : Value) (Q : Value → World → Prop) (w : World) : semF Try.prog 28 [v_c, v_k] Q w = S28 v_c v_k Q w := by kernel_rfl
theorem ref28 {v_c v_k : Value} {Q : Value → World → Prop} {w : World} (h : S28 v_c v_k Q w) : callS Try.prog 28 #[v_c, v_k] Q w :=
  callS_of mix (fun a w => Try.call28 a w) (by kernel_rfl) (by rw [eq28]; exact h)
-- (*commons/lru.Cache[int, commons/cache.Entry]).Len
def S29 (v_c : Value) (Q : Value → World → Prop) (w : World) : Prop :=
 rd Try.prog (binS .eql 52 false true v_c (.pointer none)) (fun t4 => 
 condS t4
  (Q (.int .i64 0) w)
  (pur Try.prog (nilV v_c) fun t6 => 
 pur Try.prog (Instr.fieldAt 81 t6 0) fun t7 => 
 rd Try.prog (Instr.loadAt 76 t7) (fun t8 => 
 rd Try.prog (Builtin.len_ #[76] 3 #[t8]) (fun t9 => 
 Q t9 w) w) w)) w
theorem eq29 (v_c : Value) (Q : Value → World → Prop) (w : World) : semF Try.prog 29 [v_c] Q w = S29 v_c Q w := by kernel_rfl
theorem ref29 {v_c : Value} {Q : Value → World → Prop} {w : World} (h : S29 v_c Q w) : callS Try.prog 29 #[v_c] Q w :=
  callS_of mix (fun a w => Try.call29 a w) (by kernel_rfl) (by rw [eq29]; exact h)
-- slices.DeleteFunc[[]commons/cache.Entry,commons/cache.Entry]
def S30 (v_s v_del : Value) (Q : Value → World → Prop) (w : World) : Prop :=
 callS Try.prog 50 #[v_s, v_del] (fun t10 w_1 => 
 pur Try.prog (binS .eql 3 false true t10 (.int .i64 (-1))) fun t12 => 
 condS t12
  (Q v_s w_1)
  (pur Try.prog (binS .add 3 false true t10 (.int .i64 1)) fun t15 => 
 lp 2 (fun J => fun v_i v_j w_2 => ∀ _j : Fr, 
  pur Try.prog (Builtin.len_ #[35] 3 #[v_s]) fun t18 => 
  pur Try.prog (binS .lss 3 false false v_j t18) fun t19 => 
  condS t19
   (jn 1 (fun J_1 => 
   pur Try.prog (Instr.indexAt 35 v_s v_j) fun t24 => 
   rd Try.prog (Instr.loadAt 49 t24) (fun t25 => 
   act Try.prog (Instr.alloc 49 true (.tuple #[])) (fun t7 w_3 => 
   act Try.prog (thenU (Instr.storeAt 49 t7 t25)) (fun _ w_4 => 
   rd Try.prog (Instr.loadAt 49 t7) (fun t27 => 
   callF Try.prog v_del #[t27] (fun t28 w_5 => 
   pur Try.prog (Op.unary .not t28) fun t29 => 
   condS t29
    (rd Try.prog (Instr.loadAt 49 t7) (fun t32 => 
    pur Try.prog (Instr.indexAt 35 v_s v_i) fun t33 => 
    act Try.prog (thenU (Instr.storeAt 49 t33 t32)) (fun _ w_6 => 
    pur Try.prog (binS .add 3 false true v_i (.int .i64 1)) fun t35 => 
    J_1 t35 w_6) w_5) w_5)
    (J_1 v_i w_5)) w_4) w_4) w_3) w_2) w_2)
  (fun v_i_1 w_7 => ∀ _j : Fr, 
   pur Try.prog (binS .add 3 false true v_j (.int .i64 1)) fun t21 => 
   J v_i_1 t21 w_7))
   (pur Try.prog (Instr.sliceAt 35 v_s (some v_i) none none) fun t38 => 
 act Try.prog (Builtin.clear_ #[35] 0 #[t38]) (fun _ w_8 => 
 pur Try.prog (Instr.sliceAt 35 v_s none (some v_i) none) fun t41 => 
 Q t41 w_8) w_2)) [t10, t15] w_1)) w
theorem eq30 (v_s v_del : Value) (Q : Value → World → Prop) (w : World) : semF Try.prog 30 [v_s, v_del] Q w = S30 v_s v_del Q w := by kernel_rfl
theorem ref30 {v_s v_del : Value} {Q : Value → World → Prop} {w : World} (h : S30 v_s v_del Q w) : callS Try.prog 30 #[v_s, v_del] Q w :=
  callS_of mix (fun a w => Try.call30 a w) (by kernel_rfl) (by rw [eq30]; exact h)
-- (*commons/cache.Cache).Dirty$1
def S31 (v_e t1 : Value) (Q : Value → World → Prop) (w : World) : Prop :=
 act Try.prog (Instr.box 49 v_e) (fun t2 w_1 => 
 rd Try.prog (Instr.loadAt 65 t1) (fun t5 => 
 pur Try.prog (pure (.func (.func 33) #[] #[t2])) fun t6 => 
 callS Try.prog 32 #[t5, t6] (fun t7 w_2 => 
 pur Try.prog (Instr.fieldAt 49 t2 1) fun t8 => 
 rd Try.prog (Instr.loadAt 4 t8) (fun t9 => 
 pur Try.prog (Op.unary .not t9) fun t10 => 
 gd t10 false (fun k w_3 => rd Try.prog (Instr.loadAt 65 t1) (fun t12 => k t12 w_3) w_3) (fun t12_1 w_4 => 
 gd t10 false (fun k_1 w_5 => pur Try.prog (Builtin.len_ #[65] 3 #[t12_1]) fun t13 => k_1 t13 w_5) (fun t13_1 w_6 => 
 gd t10 false (fun k_2 w_7 => pur Try.prog (binS .gtr 3 false true t13_1 (.int .i64 0)) fun t14 => k_2 t14 w_7) (fun t14_1 w_8 => 
 gd t10 false (fun k_3 w_9 => k_3 t14_1 w_9) (fun t15_1 w_10 => 
 gd t15_1 true (fun k_4 w_11 => k_4 t7 w_11) (fun t16_1 w_12 => 
 gd t15_1 true (fun k_5 w_13 => pur Try.prog (Op.unary .not t16_1) fun t17 => k_5 t17 w_13) (fun t17_1 w_14 => 
 gd t10 false (fun k_6 w_15 => pur Try.prog (pickS t15_1 t17_1 (.bool false)) fun t18 => k_6 t18 w_15) (fun t18_1 w_16 => 
 pur Try.prog (pickS t10 (.bool true) t18_1) fun t19 => 
 Q t19 w_16) w_14) w_12) w_10) w_8) w_6) w_4) w_2) w_2) w_1) w_1) w
theorem eq31 (v_e t1 : Value) (Q : Value → World → Prop) (w : World) : semF Try.prog 31 [v_e, t1] Q w = S31 v_e t1 Q w := by kernel_rfl
theorem ref31 {v_e t1 : Value} {Q : Value → World → Prop} {w : World} (h : S31 v_e t1 Q w) : callS Try.prog 31 #[v_e, t1] Q w :=
  callS_of mix (fun a w => Try.call31 a w) (by kernel_rfl) (by rw [eq31]; exact h)
-- slices.ContainsFunc[[]commons/api.Span,commons/api.Span]
def S32 (v_s v_f : Value) (Q : Value → World → Prop) (w : World) : Prop :=
 callS Try.prog 51 #[v_s, v_f] (fun t7 w_1 => 
 pur Try.prog (binS .geq 3 false true t7 (.int .i64 0)) fun t8 => 
 Q t8 w_1) w
theorem eq32 (v_s v_f : Value) (Q : Value → World → Prop) (w : World) : semF Try.prog 32 [v_s, v_f] Q w = S32 v_s v_f Q w := by kernel_rfl
theorem ref32 {v_s v_f : Value} {Q : Value → World → Prop} {w : World} (h : S32 v_s v_f Q w) : callS Try.prog 32 #[v_s, v_f] Q w :=
  callS_of mix (fun a w => Try.call32 a w) (by kernel_rfl) (by rw [eq32]; exact h)
-- (*commons/cache.Cache).Dirty$1$1
def S33 (v_s t1 : Value) (Q : Value → World → Prop) (w : World) : Prop :=
 act Try.prog (Instr.box 41 v_s) (fun t2 w_1 => 
 rd Try.prog (Instr.loadAt 41 t2) (fun t4 => 
 pur Try.prog (Instr.fieldAt 49 t1 0) fun t5 => 
 pur Try.prog (Instr.fieldAt 30 t5 0) fun t6 => 
 rd Try.prog (Instr.loadAt 3 t6) (fun t7 => 
 callS Try.prog 34 #[t4, t7] (fun t8 w_2 => 
 Q t8 w_2) w_1) w_1) w_1) w
theorem eq33 (v_s t1 : Value) (Q : Value → World → Prop) (w : World) : semF Try.prog 33 [v_s, t1] Q w = S33 v_s t1 Q w := by kernel_rfl
theorem ref33 {v_s t1 : Value} {Q : Value → World → Prop} {w : World} (h : S33 v_s t1 Q w) : callS Try.prog 33 #[v_s, t1] Q w :=
  callS_of mix (fun a w => Try.call33 a w) (by kernel_rfl) (by rw [eq33]; exact h)
-- commons/span.Has
def S34 (v_s v_block : Value) (Q : Value → World → Prop) (w : World) : Prop :=
 act Try.prog (Instr.box 41 v_s) (fun t2 w_1 => 
 rd Try.prog (Instr.loadAt 41 t2) (fun t5 => 
 callS Try.prog 52 #[t5] (fun t6 w_2 => 
 gd t6 true (fun k w_3 => pur Try.prog (Instr.fieldAt 41 t2 0) fun t8 => k t8 w_3) (fun t8_1 w_4 => 
 gd t6 true (fun k_1 w_5 => rd Try.prog (Instr.loadAt 3 t8_1) (fun t9 => k_1 t9 w_5) w_5) (fun t9_1 w_6 => 
 gd t6 true (fun k_2 w_7 => k_2 v_block w_7) (fun t10_1 w_8 => 
 gd t6 true (fun k_3 w_9 => pur Try.prog (binS .leq 3 false false t9_1 t10_1) fun t11 => k_3 t11 w_9) (fun t11_1 w_10 => 
 pur Try.prog (pickS t6 t11_1 (.bool false)) fun t12 => 
 gd t12 true (fun k_4 w_11 => k_4 v_block w_11) (fun t14_1 w_12 => 
 gd t12 true (fun k_5 w_13 => pur Try.prog (Instr.fieldAt 41 t2 1) fun t15 => k_5 t15 w_13) (fun t15_1 w_14 => 
 gd t12 true (fun k_6 w_15 => rd Try.prog (Instr.loadAt 3 t15_1) (fun t16 => k_6 t16 w_15) w_15) (fun t16_1 w_16 => 
 gd t12 true (fun k_7 w_17 => pur Try.prog (binS .lss 3 false false t14_1 t16_1) fun t17 => k_7 t17 w_17) (fun t17_1 w_18 => 
 pur Try.prog (pickS t12 t17_1 (.bool false)) fun t18 => 
 Q t18 w_18) w_16) w_14) w_12) w_10) w_8) w_6) w_4) w_2) w_1) w_1) w
theorem eq34 (v_s v_block : Value) (Q : Value → World → Prop) (w : World) : semF Try.prog 34 [v_s, v_block] Q w = S34 v_s v_block Q w := by kernel_rfl
theorem ref34 {v_s v_block : Value} {Q : Value → World → Prop} {w : World} (h : S34 v_s v_block Q w) : callS Try.prog 34 #[v_s, v_block] Q w :=
  callS_of mix (fun a w => Try.call34 a w) (by kernel_rfl) (by rw [eq34]; exact h)
-- slices.SortStableFunc[[]commons/cache.Entry,commons/cache.Entry]
def S35 (v_x v_cmp : Value) (Q : Value → World → Prop) (w : World) : Prop :=
 pur Try.prog (Builtin.len_ #[35] 3 #[v_x]) fun t6 => 
 callS Try.prog 53 #[v_x, t6, v_cmp] (fun _ w_1 => 
 Q (.tuple #[]) w_1) w
theorem eq35 (v_x v_cmp : Value) (Q : Value → World → Prop) (w : World) : semF Try.prog 35 [v_x, v_cmp] Q w = S35 v_x v_cmp Q w := by kernel_rfl
theorem ref35 {v_x v_cmp : Value} {Q : Value → World → Prop} {w : World} (h : S35 v_x v_cmp Q w) : callS Try.prog 35 #[v_x, v_cmp] Q w :=
  callS_of mix (fun a w => Try.call35 a w) (by kernel_rfl) (by rw [eq35]; exact h)
-- (*commons/cache.Cache).Dirty$2
def S36 (v_a v_b : Value) (Q : Value → World → Prop) (w : World) : Prop :=
 act Try.prog (Instr.box 49 v_a) (fun t2 w_1 => 
 act Try.prog (Instr.box 49 v_b) (fun t3 w_2 => 
 pur Try.prog (Instr.fieldAt 49 t2 2) fun t5 => 
 rd Try.prog (Instr.loadAt 28 t5) (fun t6 => 
 pur Try.prog (Instr.fieldAt 49 t3 2) fun t7 => 
 rd Try.prog (Instr.loadAt 28 t7) (fun t8 => 
 callS Try.prog 37 #[t6, t8] (fun t9 w_3 => 
 Q t9 w_3) w_2) w_2) w_2) w_1) w
theorem eq36 (v_a v_b : Value) (Q : Value → World → Prop) (w : World) : semF Try.prog 36 [v_a, v_b] Q w = S36 v_a v_b Q w := by kernel_rfl
theorem ref36 {v_a v_b : Value} {Q : Value → World → Prop} {w : World} (h : S36 v_a v_b Q w) : callS Try.prog 36 #[v_a, v_b] Q w :=
  callS_of mix (fun a w => Try.call36 a w) (by kernel_rfl) (by rw [eq36]; exact h)
-- cmp.Compare[uint64]
def S37 (v_x v_y : Value) (Q : Value → World → Prop) (w : World) : Prop :=
 callS Try.prog 54 #[v_x] (fun t8 w_1 => 
 callS Try.prog 54 #[v_y] (fun t10 w_2 => 
 condS t8
  (condS t10
   (Q (.int .i64 0) w_2)
   (Q (.int .i64 (-1)) w_2))
  (condS t10
  (Q (.int .i64 1) w_2)
  (pur Try.prog (binS .lss 28 false false v_x v_y) fun t16 => 
 condS t16
  (Q (.int .i64 (-1)) w_2)
  (pur Try.prog (binS .gtr 28 false false v_x v_y) fun t19 => 
 condS t19
  (Q (.int .i64 1) w_2)
  (Q (.int .i64 0) w_2))))) w_1) w
theorem eq37 (v_x v_y : Value) (Q : Value → World → Prop) (w : World) : semF Try.prog 37 [v_x, v_y] Q w = S37 v_x v_y Q w := by kernel_rfl
theorem ref37 {v_x v_y : Value} {Q : Value → World → Prop} {w : World} (h : S37 v_x v_y Q w) : callS Try.prog 37 #[v_x, v_y] Q w :=
  callS_of mix (fun a w => Try.call37 a w) (by kernel_rfl) (by rw [eq37]; exact h)
-- (*commons/lru.Cache[int, commons/cache.Entry]).Delete
def S38 (v_c v_k : Value) (Q : Value → World → Prop) (w : World) : Prop :=
 callS Try.prog 43 #[v_c, v_k] (fun t8 w_1 => 
 rd Try.prog (binS .eql 77 false true t8 (.pointer none)) (fun t10 => 
 condS t10
  (Q (.bool false) w_1)
  (callS Try.prog 46 #[t8] (fun _ w_2 => 
 pur Try.prog (nilV v_c) fun t14 => 
 pur Try.prog (Instr.fieldAt 81 t14 0) fun t15 => 
 rd Try.prog (Instr.loadAt 76 t15) (fun t16 => 
 act Try.prog (Builtin.delete_ #[76, 3] 0 #[t16, v_k]) (fun _ w_3 => 
 Q (.bool true) w_3) w_2) w_2) w_1)) w_1) w
theorem eq38 (v_c v_k : Value) (Q : Value → World → Prop) (w : World) : semF Try.prog 38 [v_c, v_k] Q w = S38 v_c v_k Q w := by kernel_rfl
theorem ref38 {v_c v_k : Value} {Q : Value → World → Prop} {w : World} (h : S38 v_c v_k Q w) : callS Try.prog 38 #[v_c, v_k] Q w :=
  callS_of mix (fun a w => Try.call38 a w) (by kernel_rfl) (by rw [eq38]; exact h)
-- (*commons/lru.Cache[int, commons/cache.Entry]).Keys
def S39 (v_c : Value) (Q : Value → World → Prop) (w : World) : Prop :=
 callS Try.prog 29 #[v_c] (fun t6 w_1 => 
 pur Try.prog (binS .eql 3 false true t6 (.int .i64 0)) fun t7 => 
 condS t7
  (Q (.slice none 0 0) w_1)
  (pur Try.prog (nilV v_c) fun t9 => 
 pur Try.prog (Instr.fieldAt 81 t9 1) fun t10 => 
 pur Try.prog (Instr.fieldAt 79 t10 4) fun t11 => 
 rd Try.prog (Instr.loadAt 77 t11) (fun t12 => 
 lp 2 (fun J => fun v_out v_x w_2 => ∀ _j : Fr, 
  pur Try.prog (nilV v_c) fun t15 => 
  pur Try.prog (Instr.fieldAt 81 t15 1) fun t16 => 
  rd Try.prog (binS .neq 77 false false v_x t16) (fun t17 => 
  condS t17
   (pur Try.prog (nilV v_x) fun t24 => 
  pur Try.prog (Instr.fieldAt 79 t24 0) fun t25 => 
  rd Try.prog (Instr.loadAt 3 t25) (fun t26 => 
  act Try.prog (Instr.buildSlice 46 1 #[(0, t26)]) (fun t27 w_3 => 
  act Try.prog (Builtin.append_ #[46, 46] 46 #[v_out, t27]) (fun t28 w_4 => 
  pur Try.prog (nilV v_x) fun t19 => 
  pur Try.prog (Instr.fieldAt 79 t19 4) fun t20 => 
  rd Try.prog (Instr.loadAt 77 t20) (fun t21 => 
  J t28 t21 w_4) w_4) w_3) w_2) w_2)
   (Q v_out w_2)) w_2) [(.slice none 0 0), t12] w_1) w_1)) w
theorem eq39 (v_c : Value) (Q : Value → World → Prop) (w : World) : semF Try.prog 39 [v_c] Q w = S39 v_c Q w := by kernel_rfl
theorem ref39 {v_c : Value} {Q : Value → World → Prop} {w : World} (h : S39 v_c Q w) : callS Try.prog 39 #[v_c] Q w :=
  callS_of mix (fun a w => Try.call39 a w) (by kernel_rfl) (by rw [eq39]; exact h)
-- slices.SortFunc[[]commons/cache.Entry,commons/cache.Entry]
def S40 (v_x v_cmp : Value) (Q : Value → World → Prop) (w : World) : Prop :=
 pur Try.prog (Builtin.len_ #[35] 3 #[v_x]) fun t6 => 
 pur Try.prog (convert 3 95 t6) fun t10 => 
 callS Try.prog 56 #[t10] (fun t11 w_1 => 
 callS Try.prog 55 #[v_x, (.int .i64 0), t6, t11, v_cmp] (fun _ w_2 => 
 Q (.tuple #[]) w_2) w_1) w
theorem eq40 (v_x v_cmp : Value) (Q : Value → World → Prop) (w : World) : semF Try.prog 40 [v_x, v_cmp] Q w = S40 v_x v_cmp Q w := by kernel_rfl
theorem ref40 {v_x v_cmp : Value} {Q : Value → World → Prop} {w : World} (h : S40 v_x v_cmp Q w) : callS Try.prog 40 #[v_x, v_cmp] Q w :=
  callS_of mix (fun a w => Try.call40 a w) (by kernel_rfl) (by rw [eq40]; exact h)
-- (*commons/cache.Cache).All$1
def S41 (v_a v_b : Value) (Q : Value → World → Prop) (w : World) : Prop :=
 act Try.prog (Instr.box 49 v_a) (fun t2 w_1 => 
 act Try.prog (Instr.box 49 v_b) (fun t3 w_2 => 
 pur Try.prog (Instr.fieldAt 49 t2 0) fun t5 => 
 pur Try.prog (Instr.fieldAt 30 t5 0) fun t6 => 
 rd Try.prog (Instr.loadAt 3 t6) (fun t7 => 
 pur Try.prog (Instr.fieldAt 49 t3 0) fun t8 => 
 pur Try.prog (Instr.fieldAt 30 t8 0) fun t9 => 
 rd Try.prog (Instr.loadAt 3 t9) (fun t10 => 
 callS Try.prog 42 #[t7, t10] (fun t11 w_3 => 
 Q t11 w_3) w_2) w_2) w_2) w_1) w
theorem eq41 (v_a v_b : Value) (Q : Value → World → Prop) (w : World) : semF Try.prog 41 [v_a, v_b] Q w = S41 v_a v_b Q w := by kernel_rfl
theorem ref41 {v_a v_b : Value} {Q : Value → World → Prop} {w : World} (h : S41 v_a v_b Q w) : callS Try.prog 41 #[v_a, v_b] Q w :=
  callS_of mix (fun a w => Try.call41 a w) (by kernel_rfl) (by rw [eq41]; exact h)
-- cmp.Compare[int]
def S42 (v_x v_y : Value) (Q : Value → World → Prop) (w : World) : Prop :=
 callS Try.prog 57 #[v_x] (fun t8 w_1 => 
 callS Try.prog 57 #[v_y] (fun t10 w_2 => 
 condS t8
  (condS t10
   (Q (.int .i64 0) w_2)
   (Q (.int .i64 (-1)) w_2))
  (condS t10
  (Q (.int .i64 1) w_2)
  (pur Try.prog (binS .lss 3 false false v_x v_y) fun t16 => 
 condS t16
  (Q (.int .i64 (-1)) w_2)
  (pur Try.prog (binS .gtr 3 false false v_x v_y) fun t19 => 
 condS t19
  (Q (.int .i64 1) w_2)
  (Q (.int .i64 0) w_2))))) w_1) w
theorem eq42 (v_x v_y : Value) (Q : Value → World → Prop) (w : World) : semF Try.prog 42 [v_x, v_y] Q w = S42 v_x v_y Q w := by kernel_rfl
theorem ref42 {v_x v_y : Value} {Q : Value → World → Prop} {w : World} (h : S42 v_x v_y Q w) : callS Try.prog 42 #[v_x, v_y] Q w :=
  callS_of mix (fun a w => Try.call42 a w) (by kernel_rfl) (by rw [eq42]; exact h)
-- (*commons/lru.Cache[int, commons/cache.Entry]).find
def S43 (v_c v_k : Value) (Q : Value → World → Prop) (w : World) : Prop :=
 rd Try.prog (binS .eql 52 false true v_c (.pointer none)) (fun t6 => 
 condS t6
  (Q (.pointer none) w)
  (pur Try.prog (nilV v_c) fun t8 => 
 pur Try.prog (Instr.fieldAt 81 t8 0) fun t9 => 
 rd Try.prog (Instr.loadAt 76 t9) (fun t10 => 
 rd Try.prog (Instr.lookup 76 t10 v_k false) (fun t12 => 
 Q t12 w) w) w)) w
theorem eq43 (v_c v_k : Value) (Q : Value → World → Prop) (w : World) : semF Try.prog 43 [v_c, v_k] Q w = S43 v_c v_k Q w := by kernel_rfl
theorem ref43 {v_c v_k : Value} {Q : Value → World → Prop} {w : World} (h : S43 v_c v_k Q w) : callS Try.prog 43 #[v_c, v_k] Q w :=
  callS_of mix (fun a w => Try.call43 a w) (by kernel_rfl) (by rw [eq43]; exact h)
-- (*commons/lru.Cache[int, commons/cache.Entry]).use
def S44 (v_c v_x : Value) (Q : Value → World → Prop) (w : World) : Prop :=
 callS Try.prog 46 #[v_x] (fun _ w_1 => 
 callS Try.prog 47 #[v_c, v_x] (fun _ w_2 => 
 Q (.tuple #[]) w_2) w_1) w
theorem eq44 (v_c v_x : Value) (Q : Value → World → Prop) (w : World) : semF Try.prog 44 [v_c, v_x] Q w = S44 v_c v_x Q w := by kernel_rfl
theorem ref44 {v_c v_x : Value} {Q : Value → World → Prop} {w : World} (h : S44 v_c v_x Q w) : callS Try.prog 44 #[v_c, v_x] Q w :=
  callS_of mix (fun a w => Try.call44 a w) (by kernel_rfl) (by rw [eq44]; exact h)
-- (*commons/lru.Cache[int, commons/cache.Entry]).idle
def S45 (v_c : Value) (Q : Value → World → Prop) (w : World) : Prop :=
 pur Try.prog (nilV v_c) fun t5 => 
 pur Try.prog (Instr.fieldAt 81 t5 1) fun t6 => 
 pur Try.prog (Instr.fieldAt 79 t6 3) fun t7 => 
 rd Try.prog (Instr.loadAt 77 t7) (fun t8 => 
 lp 1 (fun J => fun v_x w_1 => ∀ _j : Fr, 
  pur Try.prog (nilV v_c) fun t11 => 
  pur Try.prog (Instr.fieldAt 81 t11 1) fun t12 => 
  rd Try.prog (binS .neq 77 false false v_x t12) (fun t13 => 
  condS t13
   (pur Try.prog (nilV v_x) fun t19 => 
  pur Try.prog (Instr.fieldAt 79 t19 2) fun t20 => 
  rd Try.prog (Instr.loadAt 3 t20) (fun t21 => 
  pur Try.prog (binS .eql 3 false true t21 (.int .i64 0)) fun t22 => 
  condS t22
   (Q v_x w_1)
   (pur Try.prog (nilV v_x) fun t15 => 
  pur Try.prog (Instr.fieldAt 79 t15 3) fun t16 => 
  rd Try.prog (Instr.loadAt 77 t16) (fun t17 => 
  J t17 w_1) w_1)) w_1)
   (Q (.pointer none) w_1)) w_1) [t8] w) w
theorem eq45 (v_c : Value) (Q : Value → World → Prop) (w : World) : semF Try.prog 45 [v_c] Q w = S45 v_c Q w := by kernel_rfl
theorem ref45 {v_c : Value} {Q : Value → World → Prop} {w : World} (h : S45 v_c Q w) : callS Try.prog 45 #[v_c] Q w :=
  callS_of mix (fun a w => Try.call45 a w) (by kernel_rfl) (by rw [eq45]; exact h)
-- (*commons/lru.node[int, commons/cache.Entry]).off
def S46 (v_x : Value) (Q : Value → World → Prop) (w : World) : Prop :=
 pur Try.prog (nilV v_x) fun t3 => 
 pur Try.prog (Instr.fieldAt 79 t3 3) fun t4 => 
 rd Try.prog (Instr.loadAt 77 t4) (fun t5 => 
 pur Try.prog (nilV v_x) fun t7 => 
 pur Try.prog (Instr.fieldAt 79 t7 4) fun t8 => 
 rd Try.prog (Instr.loadAt 77 t8) (fun t9 => 
 pur Try.prog (nilV v_x) fun t11 => 
 pur Try.prog (Instr.fieldAt 79 t11 4) fun t12 => 
 rd Try.prog (Instr.loadAt 77 t12) (fun t13 => 
 pur Try.prog (nilV v_x) fun t15 => 
 pur Try.prog (Instr.fieldAt 79 t15 3) fun t16 => 
 rd Try.prog (Instr.loadAt 77 t16) (fun t17 => 
 pur Try.prog (nilV t5) fun t18 => 
 pur Try.prog (Instr.fieldAt 79 t18 4) fun t19 => 
 act Try.prog (thenU (Instr.storeAt 77 t19 t13)) (fun _ w_1 => 
 pur Try.prog (nilV t9) fun t20 => 
 pur Try.prog (Instr.fieldAt 79 t20 3) fun t21 => 
 act Try.prog (thenU (Instr.storeAt 77 t21 t17)) (fun _ w_2 => 
 Q (.tuple #[]) w_2) w_1) (World.drew w)) (World.drew w)) (World.drew w)) (World.drew w)) (World.drew w)
theorem eq46 (v_x : Value) (Q : Value → World → Prop) (w : World) : semF Try.prog 46 [v_x] Q w = S46 v_x Q w := by kernel_rfl
theorem ref46 {v_x : Value} {Q : Value → World → Prop} {w : World} (h : S46 v_x Q w) : callS Try.prog 46 #[v_x] Q w :=
  callS_of mix (fun a w => Try.call46 a w) (by kernel_rfl) (by rw [eq46]; exact h)
-- (*commons/lru.Cache[int, commons/cache.Entry]).first
def S47 (v_c v_x : Value) (Q : Value → World → Prop) (w : World) : Prop :=
 pur Try.prog (nilV v_c) fun t7 => 
 pur Try.prog (Instr.fieldAt 81 t7 1) fun t8 => 
 pur Try.prog (nilV v_c) fun t10 => 
 pur Try.prog (Instr.fieldAt 81 t10 1) fun t11 => 
 pur Try.prog (Instr.fieldAt 79 t11 4) fun t12 => 
 rd Try.prog (Instr.loadAt 77 t12) (fun t13 => 
 pur Try.prog (nilV v_x) fun t14 => 
 pur Try.prog (Instr.fieldAt 79 t14 3) fun t15 => 
 act Try.prog (thenU (Instr.storeAt 77 t15 t8)) (fun _ w_1 => 
 pur Try.prog (nilV v_x) fun t16 => 
 pur Try.prog (Instr.fieldAt 79 t16 4) fun t17 => 
 act Try.prog (thenU (Instr.storeAt 77 t17 t13)) (fun _ w_2 => 
 pur Try.prog (nilV v_x) fun t19 => 
 pur Try.prog (Instr.fieldAt 79 t19 3) fun t20 => 
 rd Try.prog (Instr.loadAt 77 t20) (fun t21 => 
 pur Try.prog (nilV v_x) fun t23 => 
 pur Try.prog (Instr.fieldAt 79 t23 4) fun t24 => 
 rd Try.prog (Instr.loadAt 77 t24) (fun t25 => 
 pur Try.prog (nilV t21) fun t28 => 
 pur Try.prog (Instr.fieldAt 79 t28 4) fun t29 => 
 act Try.prog (thenU (Instr.storeAt 77 t29 v_x)) (fun _ w_3 => 
 pur Try.prog (nilV t25) fun t30 => 
 pur Try.prog (Instr.fieldAt 79 t30 3) fun t31 => 
 act Try.prog (thenU (Instr.storeAt 77 t31 v_x)) (fun _ w_4 => 
 Q (.tuple #[]) w_4) w_3) (World.drew w_2)) (World.drew w_2)) (World.drew w_2)) w_1) (World.drew w)) (World.drew w)
theorem eq47 (v_c v_x : Value) (Q : Value → World → Prop) (w : World) : semF Try.prog 47 [v_c, v_x] Q w = S47 v_c v_x Q w := by kernel_rfl
theorem ref47 {v_c v_x : Value} {Q : Value → World → Prop} {w : World} (h : S47 v_c v_x Q w) : callS Try.prog 47 #[v_c, v_x] Q w :=
  callS_of mix (fun a w => Try.call47 a w) (by kernel_rfl) (by rw [eq47]; exact h)
-- strings.Clone
def S48 (v_s : Value) (Q : Value → World → Prop) (w : World) : Prop :=
 callS Try.prog 58 #[v_s] (fun t4 w_1 => 
 Q t4 w_1) w
theorem eq48 (v_s : Value) (Q : Value → World → Prop) (w : World) : semF Try.prog 48 [v_s] Q w = S48 v_s Q w := by kernel_rfl
theorem ref48 {v_s : Value} {Q : Value → World → Prop} {w : World} (h : S48 v_s Q w) : callS Try.prog 48 #[v_s] Q w :=
  callS_of mix (fun a w => Try.call48 a w) (by kernel_rfl) (by rw [eq48]; exact h)
-- slices.Backward[[]int,int]
def S49 (v_s : Value) (Q : Value → World → Prop) (w : World) : Prop :=
 act Try.prog (Instr.box 46 v_s) (fun t1 w_1 => 
 pur Try.prog (pure (.func (.func 59) #[] #[t1])) fun t3 => 
 Q t3 w_1) w
theorem eq49 (v_s : Value) (Q : Value → World → Prop) (w : World) : semF Try.prog 49 [v_s] Q w = S49 v_s Q w := by kernel_rfl
theorem ref49 {v_s : Value} {Q : Value → World → Prop} {w : World} (h : S49 v_s Q w) : callS Try.prog 49 #[v_s] Q w :=
  callS_of mix (fun a w => Try.call49 a w) (by kernel_rfl) (by rw [eq49]; exact h)
-- slices.IndexFunc[[]commons/cache.Entry,commons/cache.Entry]
def S50 (v_s v_f : Value) (Q : Value → World → Prop) (w : World) : Prop :=
 pur Try.prog (Builtin.len_ #[35] 3 #[v_s]) fun t7 => 
 lp 1 (fun J => fun t8 w_1 => ∀ _j : Fr, 
  pur Try.prog (binS .lss 3 false false t8 t7) fun t9 => 
  condS t9
   (pur Try.prog (Instr.indexAt 35 v_s t8) fun t14 => 
  rd Try.prog (Instr.loadAt 49 t14) (fun t15 => 
  callF Try.prog v_f #[t15] (fun t16 w_2 => 
  condS t16
   (Q t8 w_2)
   (pur Try.prog (binS .add 3 false true t8 (.int .i64 1)) fun t18 => 
  J t18 w_2)) w_1) w_1)
   (Q (.int .i64 (-1)) w_1)) [(.int .i64 0)] w
theorem eq50 (v_s v_f : Value) (Q : Value → World → Prop) (w : World) : semF Try.prog 50 [v_s, v_f] Q w = S50 v_s v_f Q w := by kernel_rfl
theorem ref50 {v_s v_f : Value} {Q : Value → World → Prop} {w : World} (h : S50 v_s v_f Q w) : callS Try.prog 50 #[v_s, v_f] Q w :=
  callS_of mix (fun a w => Try.call50 a w) (by kernel_rfl) (by rw [eq50]; exact h)
-- slices.IndexFunc[[]commons/api.Span,commons/api.Span]
def S51 (v_s v_f : Value) (Q : Value → World → Prop) (w : World) : Prop :=
 pur Try.prog (Builtin.len_ #[65] 3 #[v_s]) fun t7 => 
 lp 1 (fun J => fun t8 w_1 => ∀ _j : Fr, 
  pur Try.prog (binS .lss 3 false false t8 t7) fun t9 => 
  condS t9
   (pur Try.prog (Instr.indexAt 65 v_s t8) fun t14 => 
  rd Try.prog (Instr.loadAt 41 t14) (fun t15 => 
  callF Try.prog v_f #[t15] (fun t16 w_2 => 
  condS t16
   (Q t8 w_2)
   (pur Try.prog (binS .add 3 false true t8 (.int .i64 1)) fun t18 => 
  J t18 w_2)) w_1) w_1)
   (Q (.int .i64 (-1)) w_1)) [(.int .i64 0)] w
theorem eq51 (v_s v_f : Value) (Q : Value → World → Prop) (w : World) : semF Try.prog 51 [v_s, v_f] Q w = S51 v_s v_f Q w := by kernel_rfl
theorem ref51 {v_s v_f : Value} {Q : Value → World → Prop} {w : World} (h : S51 v_s v_f Q w) : callS Try.prog 51 #[v_s, v_f] Q w :=
  callS_of mix (fun a w => Try.call51 a w) (by kernel_rfl) (by rw [eq51]; exact h)
-- commons/span.Valid
def S52 (v_s : Value) (Q : Value → World → Prop) (w : World) : Prop :=
 act Try.prog (Instr.box 41 v_s) (fun t1 w_1 => 
 pur Try.prog (Instr.fieldAt 41 t1 0) fun t3 => 
 rd Try.prog (Instr.loadAt 3 t3) (fun t4 => 
 pur Try.prog (binS .geq 3 false true t4 (.int .i64 0)) fun t5 => 
 gd t5 true (fun k w_2 => pur Try.prog (Instr.fieldAt 41 t1 0) fun t7 => k t7 w_2) (fun t7_1 w_3 => 
 gd t5 true (fun k_1 w_4 => rd Try.prog (Instr.loadAt 3 t7_1) (fun t8 => k_1 t8 w_4) w_4) (fun t8_1 w_5 => 
 gd t5 true (fun k_2 w_6 => pur Try.prog (Instr.fieldAt 41 t1 1) fun t9 => k_2 t9 w_6) (fun t9_1 w_7 => 
 gd t5 true (fun k_3 w_8 => rd Try.prog (Instr.loadAt 3 t9_1) (fun t10 => k_3 t10 w_8) w_8) (fun t10_1 w_9 => 
 gd t5 true (fun k_4 w_10 => pur Try.prog (binS .lss 3 false false t8_1 t10_1) fun t11 => k_4 t11 w_10) (fun t11_1 w_11 => 
 pur Try.prog (pickS t5 t11_1 (.bool false)) fun t12 => 
 Q t12 w_11) w_9) w_7) w_5) w_3) w_1) w_1) w
theorem eq52 (v_s : Value) (Q : Value → World → Prop) (w : World) : semF Try.prog 52 [v_s] Q w = S52 v_s Q w := by kernel_rfl
theorem ref52 {v_s : Value} {Q : Value → World → Prop} {w : World} (h : S52 v_s Q w) : callS Try.prog 52 #[v_s] Q w :=
  callS_of mix (fun a w => Try.call52 a w) (by kernel_rfl) (by rw [eq52]; exact h)
-- slices.stableCmpFunc[commons/cache.Entry]
def S53 (v_data v_n v_cmp : Value) (Q : Value → World → Prop) (w : World) : Prop :=
 lp 2 (fun J => fun v_a v_b w_1 => ∀ _j : Fr, 
  pur Try.prog (binS .leq 3 false false v_b v_n) fun t13 => 
  condS t13
   (callS Try.prog 60 #[v_data, v_a, v_b, v_cmp] (fun _ w_2 => 
  pur Try.prog (binS .add 3 false false v_b (.int .i64 20)) fun t22 => 
  J v_b t22 w_2) w_1)
   (callS Try.prog 60 #[v_data, v_a, v_n, v_cmp] (fun _ w_3 => 
 lp 1 (fun J_1 => fun v_blockSize w_4 => ∀ _j : Fr, 
  pur Try.prog (binS .lss 3 false false v_blockSize v_n) fun t30 => 
  condS t30
   (pur Try.prog (binS .mul 3 true false (.int .i64 2) v_blockSize) fun t32 => 
  lp 2 (fun J_2 => fun v_a_1 v_b_1 w_5 => ∀ _j : Fr, 
   pur Try.prog (binS .leq 3 false false v_b_1 v_n) fun t35 => 
   condS t35
    (pur Try.prog (binS .add 3 false false v_a_1 v_blockSize) fun t40 => 
   callS Try.prog 61 #[v_data, v_a_1, t40, v_b_1, v_cmp] (fun _ w_6 => 
   pur Try.prog (binS .mul 3 true false (.int .i64 2) v_blockSize) fun t47 => 
   pur Try.prog (binS .add 3 false false v_b_1 t47) fun t48 => 
   J_2 v_b_1 t48 w_6) w_5)
    (jn 0 (fun J_3 => 
   pur Try.prog (binS .add 3 false false v_a_1 v_blockSize) fun t51 => 
   pur Try.prog (binS .lss 3 false false t51 v_n) fun t54 => 
   condS t54
    (callS Try.prog 61 #[v_data, v_a_1, t51, v_n, v_cmp] (fun _ w_7 => 
    J_3  w_7) w_5)
    (J_3  w_5))
  (fun  w_8 => ∀ _j : Fr, 
   pur Try.prog (binS .mul 3 false true v_blockSize (.int .i64 2)) fun t62 => 
   J_1 t62 w_8))) [(.int .i64 0), t32] w_4)
   (Q (.tuple #[]) w_4)) [(.int .i64 20)] w_3) w_1)) [(.int .i64 0), (.int .i64 20)] w
theorem eq53 (v_data v_n v_cmp : Value) (Q : Value → World → Prop) (w : World) : semF Try.prog 53 [v_data, v_n, v_cmp] Q w = S53 v_data v_n v_cmp Q w := by kernel_rfl
theorem ref53 {v_data v_n v_cmp : Value} {Q : Value → World → Prop} {w : World} (h : S53 v_data v_n v_cmp Q w) : callS Try.prog 53 #[v_data, v_n, v_cmp] Q w :=
  callS_of mix (fun a w => Try.call53 a w) (by kernel_rfl) (by rw [eq53]; exact h)
-- cmp.isNaN[uint64]
def S54 (v_x : Value) (Q : Value → World → Prop) (w : World) : Prop :=
 pur Try.prog (binS .neq 28 false false v_x v_x) fun t5 => 
 Q t5 w
theorem eq54 (v_x : Value) (Q : Value → World → Prop) (w : World) : semF Try.prog 54 [v_x] Q w = S54 v_x Q w := by kernel_rfl
theorem ref54 {v_x : Value} {Q : Value → World → Prop} {w : World} (h : S54 v_x Q w) : callS Try.prog 54 #[v_x] Q w :=
  callS_of mix (fun a w => Try.call54 a w) (by kernel_rfl) (by rw [eq54]; exact h)
-- cmp.isNaN[int]
def S57 (v_x : Value) (Q : Value → World → Prop) (w : World) : Prop :=
 pur Try.prog (binS .neq 3 false false v_x v_x) fun t5 => 
 Q t5 w
theorem eq57 (v_x : Value) (Q : Value → World → Prop) (w : World) : semF Try.prog 57 [v_x] Q w = S57 v_x Q w := by kernel_rfl
theorem ref57 {v_x : Value} {Q : Value → World → Prop} {w : World} (h : S57 v_x Q w) : callS Try.prog 57 #[v_x] Q w :=
  callS_of mix (fun a w => Try.call57 a w) (by kernel_rfl) (by rw [eq57]; exact h)
-- internal/stringslite.Clone
def S58 (v_s : Value) (Q : Value → World → Prop) (w : World) : Prop :=
 pur Try.prog (Builtin.len_ #[9] 3 #[v_s]) fun t5 => 
 pur Try.prog (binS .eql 3 false true t5 (.int .i64 0)) fun t6 => 
 condS t6
  (Q (.string ⟨#[]⟩) w)
  (pur Try.prog (Builtin.len_ #[9] 3 #[v_s]) fun t8 => 
 act Try.prog (Instr.makeSlice 108 t8 t8) (fun t9 w_1 => 
 act Try.prog (Builtin.copy_ #[108, 9] 3 #[t9, v_s]) (fun _ w_2 => 
 pur Try.prog (Instr.indexAt 108 t9 (.int .i64 0)) fun _ => 
 pur Try.prog (Builtin.len_ #[108] 3 #[t9]) fun _ => 
 act Try.prog (stuck "no such builtin here") (fun t17 w_3 => 
 Q t17 w_3) w_2) w_1) w)
theorem eq58 (v_s : Value) (Q : Value → World → Prop) (w : World) : semF Try.prog 58 [v_s] Q w = S58 v_s Q w := by kernel_rfl
theorem ref58 {v_s : Value} {Q : Value → World → Prop} {w : World} (h : S58 v_s Q w) : callS Try.prog 58 #[v_s] Q w :=
  callS_of mix (fun a w => Try.call58 a w) (by kernel_rfl) (by rw [eq58]; exact h)
-- slices.Backward[[]int,int]$1
def S59 (v_yield t1 : Value) (Q : Value → World → Prop) (w : World) : Prop :=
 rd Try.prog (Instr.loadAt 46 t1) (fun t4 => 
 pur Try.prog (Builtin.len_ #[46] 3 #[t4]) fun t5 => 
 pur Try.prog (binS .sub 3 false true t5 (.int .i64 1)) fun t6 => 
 lp 1 (fun J => fun v_i w_1 => ∀ _j : Fr, 
  pur Try.prog (binS .geq 3 false true v_i (.int .i64 0)) fun t8 => 
  condS t8
   (rd Try.prog (Instr.loadAt 46 t1) (fun t13 => 
  pur Try.prog (Instr.indexAt 46 t13 v_i) fun t15 => 
  rd Try.prog (Instr.loadAt 3 t15) (fun t16 => 
  callF Try.prog v_yield #[v_i, t16] (fun t17 w_2 => 
  pur Try.prog (Op.unary .not t17) fun t18 => 
  condS t18
   (Q (.tuple #[]) w_2)
   (pur Try.prog (binS .sub 3 false true v_i (.int .i64 1)) fun t10 => 
  J t10 w_2)) w_1) w_1) w_1)
   (Q (.tuple #[]) w_1)) [t6] w) w
theorem eq59 (v_yield t1 : Value) (Q : Value → World → Prop) (w : World) : semF Try.prog 59 [v_yield, t1] Q w = S59 v_yield t1 Q w := by kernel_rfl
theorem ref59 {v_yield t1 : Value} {Q : Value → World → Prop} {w : World} (h : S59 v_yield t1 Q w) : callS Try.prog 59 #[v_yield, t1] Q w :=
  callS_of mix (fun a w => Try.call59 a w) (by kernel_rfl) (by rw [eq59]; exact h)
-- slices.insertionSortCmpFunc[commons/cache.Entry]
def S60 (v_data v_a v_b v_cmp : Value) (Q : Value → World → Prop) (w : World) : Prop :=
 pur Try.prog (binS .add 3 false true v_a (.int .i64 1)) fun t11 => 
 lp 1 (fun J => fun v_i w_1 => ∀ _j : Fr, 
  pur Try.prog (binS .lss 3 false false v_i v_b) fun t14 => 
  condS t14
   (lp 1 (fun J_1 => fun v_j w_2 => ∀ _j : Fr, 
   pur Try.prog (binS .gtr 3 false false v_j v_a) fun t20 => 
   gd t20 true (fun k w_3 => k v_cmp w_3) (fun t22_1 w_4 => 
   gd t20 true (fun k_1 w_5 => k_1 v_data w_5) (fun t23_1 w_6 => 
   gd t20 true (fun k_2 w_7 => k_2 v_j w_7) (fun t24_1 w_8 => 
   gd t20 true (fun k_3 w_9 => pur Try.prog (Instr.indexAt 35 t23_1 t24_1) fun t25 => k_3 t25 w_9) (fun t25_1 w_10 => 
   gd t20 true (fun k_4 w_11 => rd Try.prog (Instr.loadAt 49 t25_1) (fun t26 => k_4 t26 w_11) w_11) (fun t26_1 w_12 => 
   gd t20 true (fun k_5 w_13 => k_5 v_data w_13) (fun t27_1 w_14 => 
   gd t20 true (fun k_6 w_15 => k_6 v_j w_15) (fun t28_1 w_16 => 
   gd t20 true (fun k_7 w_17 => pur Try.prog (binS .sub 3 false true t28_1 (.int .i64 1)) fun t29 => k_7 t29 w_17) (fun t29_1 w_18 => 
   gd t20 true (fun k_8 w_19 => pur Try.prog (Instr.indexAt 35 t27_1 t29_1) fun t30 => k_8 t30 w_19) (fun t30_1 w_20 => 
   gd t20 true (fun k_9 w_21 => rd Try.prog (Instr.loadAt 49 t30_1) (fun t31 => k_9 t31 w_21) w_21) (fun t31_1 w_22 => 
   gd t20 true (fun k_10 w_23 => callF Try.prog t22_1 #[t26_1, t31_1] (fun t32 w_24 => k_10 t32 w_24) w_23) (fun t32_1 w_25 => 
   gd t20 true (fun k_11 w_26 => pur Try.prog (binS .lss 3 false true t32_1 (.int .i64 0)) fun t33 => k_11 t33 w_26) (fun t33_1 w_27 => 
   pur Try.prog (pickS t20 t33_1 (.bool false)) fun t34 => 
   condS t34
    (pur Try.prog (binS .sub 3 false true v_j (.int .i64 1)) fun t41 => 
   pur Try.prog (binS .sub 3 false true v_j (.int .i64 1)) fun t44 => 
   pur Try.prog (Instr.indexAt 35 v_data t44) fun t45 => 
   rd Try.prog (Instr.loadAt 49 t45) (fun t46 => 
   pur Try.prog (Instr.indexAt 35 v_data v_j) fun t49 => 
   rd Try.prog (Instr.loadAt 49 t49) (fun t50 => 
   pur Try.prog (Instr.indexAt 35 v_data v_j) fun t51 => 
   act Try.prog (thenU (Instr.storeAt 49 t51 t46)) (fun _ w_28 => 
   pur Try.prog (Instr.indexAt 35 v_data t41) fun t52 => 
   act Try.prog (thenU (Instr.storeAt 49 t52 t50)) (fun _ w_29 => 
   pur Try.prog (binS .sub 3 false true v_j (.int .i64 1)) fun t36 => 
   J_1 t36 w_29) w_28) (World.drew w_27)) (World.drew w_27)) (World.drew w_27))
    (pur Try.prog (binS .add 3 false true v_i (.int .i64 1)) fun t16 => 
  J t16 w_27)) w_25) w_22) w_20) w_18) w_16) w_14) w_12) w_10) w_8) w_6) w_4) (World.drew w_2)) [v_i] w_1)
   (Q (.tuple #[]) w_1)) [t11] w
theorem eq60 (v_data v_a v_b v_cmp : Value) (Q : Value → World → Prop) (w : World) : semF Try.prog 60 [v_data, v_a, v_b, v_cmp] Q w = S60 v_data v_a v_b v_cmp Q w := by kernel_rfl
theorem ref60 {v_data v_a v_b v_cmp : Value} {Q : Value → World → Prop} {w : World} (h : S60 v_data v_a v_b v_cmp Q w) : callS Try.prog 60 #[v_data, v_a, v_b, v_cmp] Q w :=
  callS_of mix (fun a w => Try.call60 a w) (by kernel_rfl) (by rw [eq60]; exact h)
-- slices.symMergeCmpFunc[commons/cache.Entry]
def S61 (v_data v_a v_m v_b v_cmp : Value) (Q : Value → World → Prop) (w : World) : Prop :=
 pur Try.prog (binS .sub 3 false false v_m v_a) fun t27 => 
 pur Try.prog (binS .eql 3 false true t27 (.int .i64 1)) fun t28 => 
 condS t28
  (lp 2 (fun J => fun v_i v_j w_1 => ∀ _j : Fr, 
   pur Try.prog (binS .lss 3 false false v_i v_j) fun t33 => 
   condS t33
    (pur Try.prog (binS .add 3 false false v_i v_j) fun t36 => 
   pur Try.prog (convert 3 95 t36) fun t37 => 
   pur Try.prog (binS .shr 95 false true t37 (.int .u64 1)) fun t38 => 
   pur Try.prog (convert 95 3 t38) fun t39 => 
   pur Try.prog (Instr.indexAt 35 v_data t39) fun t43 => 
   rd Try.prog (Instr.loadAt 49 t43) (fun t44 => 
   pur Try.prog (Instr.indexAt 35 v_data v_a) fun t47 => 
   rd Try.prog (Instr.loadAt 49 t47) (fun t48 => 
   callF Try.prog v_cmp #[t44, t48] (fun t49 w_2 => 
   pur Try.prog (binS .lss 3 false true t49 (.int .i64 0)) fun t50 => 
   condS t50
    (pur Try.prog (binS .add 3 false true t39 (.int .i64 1)) fun t52 => 
    J t52 v_j w_2)
    (J v_i t39 w_2)) (World.drew w_1)) (World.drew w_1)) (World.drew w_1))
    (lp 1 (fun J_1 => fun v_k w_3 => ∀ _j : Fr, 
   pur Try.prog (binS .sub 3 false true v_i (.int .i64 1)) fun t57 => 
   pur Try.prog (binS .lss 3 false false v_k t57) fun t58 => 
   condS t58
    (pur Try.prog (binS .add 3 false true v_k (.int .i64 1)) fun t65 => 
   pur Try.prog (binS .add 3 false true v_k (.int .i64 1)) fun t68 => 
   pur Try.prog (Instr.indexAt 35 v_data t68) fun t69 => 
   rd Try.prog (Instr.loadAt 49 t69) (fun t70 => 
   pur Try.prog (Instr.indexAt 35 v_data v_k) fun t73 => 
   rd Try.prog (Instr.loadAt 49 t73) (fun t74 => 
   pur Try.prog (Instr.indexAt 35 v_data v_k) fun t75 => 
   act Try.prog (thenU (Instr.storeAt 49 t75 t70)) (fun _ w_4 => 
   pur Try.prog (Instr.indexAt 35 v_data t65) fun t76 => 
   act Try.prog (thenU (Instr.storeAt 49 t76 t74)) (fun _ w_5 => 
   pur Try.prog (binS .add 3 false true v_k (.int .i64 1)) fun t60 => 
   J_1 t60 w_5) w_4) (World.drew w_3)) (World.drew w_3)) (World.drew w_3))
    (Q (.tuple #[]) w_3)) [v_a] w_1)) [v_m, v_b] w)
  (pur Try.prog (binS .sub 3 false false v_b v_m) fun t79 => 
 pur Try.prog (binS .eql 3 false true t79 (.int .i64 1)) fun t80 => 
 condS t80
  (lp 2 (fun J_2 => fun v_i_1 v_j_1 w_6 => ∀ _j : Fr, 
   pur Try.prog (binS .lss 3 false false v_i_1 v_j_1) fun t85 => 
   condS t85
    (pur Try.prog (binS .add 3 false false v_i_1 v_j_1) fun t88 => 
   pur Try.prog (convert 3 95 t88) fun t89 => 
   pur Try.prog (binS .shr 95 false true t89 (.int .u64 1)) fun t90 => 
   pur Try.prog (convert 95 3 t90) fun t91 => 
   pur Try.prog (Instr.indexAt 35 v_data v_m) fun t95 => 
   rd Try.prog (Instr.loadAt 49 t95) (fun t96 => 
   pur Try.prog (Instr.indexAt 35 v_data t91) fun t99 => 
   rd Try.prog (Instr.loadAt 49 t99) (fun t100 => 
   callF Try.prog v_cmp #[t96, t100] (fun t101 w_7 => 
   pur Try.prog (binS .lss 3 false true t101 (.int .i64 0)) fun t102 => 
   pur Try.prog (Op.unary .not t102) fun t103 => 
   condS t103
    (pur Try.prog (binS .add 3 false true t91 (.int .i64 1)) fun t105 => 
    J_2 t105 v_j_1 w_7)
    (J_2 v_i_1 t91 w_7)) (World.drew w_6)) (World.drew w_6)) (World.drew w_6))
    (lp 1 (fun J_3 => fun v_k_1 w_8 => ∀ _j : Fr, 
   pur Try.prog (binS .gtr 3 false false v_k_1 v_i_1) fun t110 => 
   condS t110
    (pur Try.prog (binS .sub 3 false true v_k_1 (.int .i64 1)) fun t117 => 
   pur Try.prog (binS .sub 3 false true v_k_1 (.int .i64 1)) fun t120 => 
   pur Try.prog (Instr.indexAt 35 v_data t120) fun t121 => 
   rd Try.prog (Instr.loadAt 49 t121) (fun t122 => 
   pur Try.prog (Instr.indexAt 35 v_data v_k_1) fun t125 => 
   rd Try.prog (Instr.loadAt 49 t125) (fun t126 => 
   pur Try.prog (Instr.indexAt 35 v_data v_k_1) fun t127 => 
   act Try.prog (thenU (Instr.storeAt 49 t127 t122)) (fun _ w_9 => 
   pur Try.prog (Instr.indexAt 35 v_data t117) fun t128 => 
   act Try.prog (thenU (Instr.storeAt 49 t128 t126)) (fun _ w_10 => 
   pur Try.prog (binS .sub 3 false true v_k_1 (.int .i64 1)) fun t112 => 
   J_3 t112 w_10) w_9) (World.drew w_8)) (World.drew w_8)) (World.drew w_8))
    (Q (.tuple #[]) w_8)) [v_m] w_6)) [v_a, v_m] w)
  (pur Try.prog (binS .add 3 false false v_a v_b) fun t131 => 
 pur Try.prog (convert 3 95 t131) fun t132 => 
 pur Try.prog (binS .shr 95 false true t132 (.int .u64 1)) fun t133 => 
 pur Try.prog (convert 95 3 t133) fun t134 => 
 pur Try.prog (binS .add 3 false false t134 v_m) fun t137 => 
 jn 2 (fun J_4 => 
  pur Try.prog (binS .gtr 3 false false v_m t134) fun t140 => 
  condS t140
   (pur Try.prog (binS .sub 3 false false t137 v_b) fun t143 => 
   J_4 t143 t134 w)
   (J_4 v_a v_m w))
 (fun v_start v_r w_11 => ∀ _j : Fr, 
  pur Try.prog (binS .sub 3 false true t137 (.int .i64 1)) fun t148 => 
  lp 2 (fun J_5 => fun v_start_1 v_r_1 w_12 => ∀ _j : Fr, 
   pur Try.prog (binS .lss 3 false false v_start_1 v_r_1) fun t151 => 
   condS t151
    (pur Try.prog (binS .add 3 false false v_start_1 v_r_1) fun t154 => 
   pur Try.prog (convert 3 95 t154) fun t155 => 
   pur Try.prog (binS .shr 95 false true t155 (.int .u64 1)) fun t156 => 
   pur Try.prog (convert 95 3 t156) fun t157 => 
   pur Try.prog (binS .sub 3 false false t148 t157) fun t162 => 
   pur Try.prog (Instr.indexAt 35 v_data t162) fun t163 => 
   rd Try.prog (Instr.loadAt 49 t163) (fun t164 => 
   pur Try.prog (Instr.indexAt 35 v_data t157) fun t167 => 
   rd Try.prog (Instr.loadAt 49 t167) (fun t168 => 
   callF Try.prog v_cmp #[t164, t168] (fun t169 w_13 => 
   pur Try.prog (binS .lss 3 false true t169 (.int .i64 0)) fun t170 => 
   pur Try.prog (Op.unary .not t170) fun t171 => 
   condS t171
    (pur Try.prog (binS .add 3 false true t157 (.int .i64 1)) fun t173 => 
    J_5 t173 v_r_1 w_13)
    (J_5 v_start_1 t157 w_13)) (World.drew w_12)) (World.drew w_12)) (World.drew w_12))
    (pur Try.prog (binS .sub 3 false false t137 v_start_1) fun t177 => 
  jn 0 (fun J_6 => 
   pur Try.prog (binS .lss 3 false false v_start_1 v_m) fun t180 => 
   gd t180 true (fun k w_14 => k v_m w_14) (fun t182_1 w_15 => 
   gd t180 true (fun k_1 w_16 => k_1 t177 w_16) (fun t183_1 w_17 => 
   gd t180 true (fun k_2 w_18 => pur Try.prog (binS .lss 3 false false t182_1 t183_1) fun t184 => k_2 t184 w_18) (fun t184_1 w_19 => 
   pur Try.prog (pickS t180 t184_1 (.bool false)) fun t185 => 
   condS t185
    (callS Try.prog 71 #[v_data, v_start_1, v_m, t177, v_cmp] (fun _ w_20 => 
    J_6  w_20) w_19)
    (J_6  w_19)) w_17) w_15) w_12)
  (fun  w_21 => ∀ _j : Fr, 
   jn 0 (fun J_7 => 
    pur Try.prog (binS .lss 3 false false v_a v_start_1) fun t194 => 
    gd t194 true (fun k_3 w_22 => k_3 v_start_1 w_22) (fun t196_1 w_23 => 
    gd t194 true (fun k_4 w_24 => k_4 t134 w_24) (fun t197_1 w_25 => 
    gd t194 true (fun k_5 w_26 => pur Try.prog (binS .lss 3 false false t196_1 t197_1) fun t198 => k_5 t198 w_26) (fun t198_1 w_27 => 
    pur Try.prog (pickS t194 t198_1 (.bool false)) fun t199 => 
    condS t199
     (callS Try.prog 61 #[v_data, v_a, v_start_1, t134, v_cmp] (fun _ w_28 => 
     J_7  w_28) w_27)
     (J_7  w_27)) w_25) w_23) w_21)
   (fun  w_29 => ∀ _j : Fr, 
    pur Try.prog (binS .lss 3 false false t134 t177) fun t208 => 
    gd t208 true (fun k_6 w_30 => k_6 t177 w_30) (fun t210_1 w_31 => 
    gd t208 true (fun k_7 w_32 => k_7 v_b w_32) (fun t211_1 w_33 => 
    gd t208 true (fun k_8 w_34 => pur Try.prog (binS .lss 3 false false t210_1 t211_1) fun t212 => k_8 t212 w_34) (fun t212_1 w_35 => 
    pur Try.prog (pickS t208 t212_1 (.bool false)) fun t213 => 
    condS t213
     (callS Try.prog 61 #[v_data, t134, t177, v_b, v_cmp] (fun _ w_36 => 
     Q (.tuple #[]) w_36) w_35)
     (Q (.tuple #[]) w_35)) w_33) w_31) w_29)))) [v_start, v_r] w_11)))
theorem eq61 (v_data v_a v_m v_b v_cmp : Value) (Q : Value → World → Prop) (w : World) : semF Try.prog 61 [v_data, v_a, v_m, v_b, v_cmp] Q w = S61 v_data v_a v_m v_b v_cmp Q w := by kernel_rfl
theorem ref61 {v_data v_a v_m v_b v_cmp : Value} {Q : Value → World → Prop} {w : World} (h : S61 v_data v_a v_m v_b v_cmp Q w) : callS Try.prog 61 #[v_data, v_a, v_m, v_b, v_cmp] Q w :=
  callS_of mix (fun a w => Try.call61 a w) (by kernel_rfl) (by rw [eq61]; exact h)
-- slices.rotateCmpFunc[commons/cache.Entry]
def S71 (v_data v_a v_m v_b v_cmp : Value) (Q : Value → World → Prop) (w : World) : Prop :=
 pur Try.prog (binS .sub 3 false false v_m v_a) fun t14 => 
 pur Try.prog (binS .sub 3 false false v_b v_m) fun t17 => 
 lp 2 (fun J => fun v_i v_j w_1 => ∀ _j : Fr, 
  pur Try.prog (binS .neq 3 false false v_i v_j) fun t20 => 
  condS t20
   (pur Try.prog (binS .gtr 3 false false v_i v_j) fun t23 => 
  condS t23
   (pur Try.prog (binS .sub 3 false false v_m v_i) fun t27 => 
   callS Try.prog 77 #[v_data, t27, v_m, v_j, v_cmp] (fun _ w_2 => 
   pur Try.prog (binS .sub 3 false false v_i v_j) fun t34 => 
   J t34 v_j w_2) w_1)
   (pur Try.prog (binS .sub 3 false false v_m v_i) fun t38 => 
   pur Try.prog (binS .add 3 false false v_m v_j) fun t41 => 
   pur Try.prog (binS .sub 3 false false t41 v_i) fun t43 => 
   callS Try.prog 77 #[v_data, t38, t43, v_i, v_cmp] (fun _ w_3 => 
   pur Try.prog (binS .sub 3 false false v_j v_i) fun t49 => 
   J v_i t49 w_3) w_1))
   (pur Try.prog (binS .sub 3 false false v_m v_i) fun t53 => 
 callS Try.prog 77 #[v_data, t53, v_m, v_i, v_cmp] (fun _ w_4 => 
 Q (.tuple #[]) w_4) w_1)) [t14, t17] w
theorem eq71 (v_data v_a v_m v_b v_cmp : Value) (Q : Value → World → Prop) (w : World) : semF Try.prog 71 [v_data, v_a, v_m, v_b, v_cmp] Q w = S71 v_data v_a v_m v_b v_cmp Q w := by kernel_rfl
theorem ref71 {v_data v_a v_m v_b v_cmp : Value} {Q : Value → World → Prop} {w : World} (h : S71 v_data v_a v_m v_b v_cmp Q w) : callS Try.prog 71 #[v_data, v_a, v_m, v_b, v_cmp] Q w :=
  callS_of mix (fun a w => Try.call71 a w) (by kernel_rfl) (by rw [eq71]; exact h)
-- slices.swapRangeCmpFunc[commons/cache.Entry]
def S77 (v_data v_a v_b v_n _ : Value) (Q : Value → World → Prop) (w : World) : Prop :=
 lp 1 (fun J => fun v_i w_1 => ∀ _j : Fr, 
  pur Try.prog (binS .lss 3 false false v_i v_n) fun t13 => 
  condS t13
   (pur Try.prog (binS .add 3 false false v_a v_i) fun t19 => 
  pur Try.prog (binS .add 3 false false v_b v_i) fun t23 => 
  pur Try.prog (binS .add 3 false false v_b v_i) fun t27 => 
  pur Try.prog (Instr.indexAt 35 v_data t27) fun t28 => 
  rd Try.prog (Instr.loadAt 49 t28) (fun t29 => 
  pur Try.prog (binS .add 3 false false v_a v_i) fun t33 => 
  pur Try.prog (Instr.indexAt 35 v_data t33) fun t34 => 
  rd Try.prog (Instr.loadAt 49 t34) (fun t35 => 
  pur Try.prog (Instr.indexAt 35 v_data t19) fun t36 => 
  act Try.prog (thenU (Instr.storeAt 49 t36 t29)) (fun _ w_2 => 
  pur Try.prog (Instr.indexAt 35 v_data t23) fun t37 => 
  act Try.prog (thenU (Instr.storeAt 49 t37 t35)) (fun _ w_3 => 
  pur Try.prog (binS .add 3 false true v_i (.int .i64 1)) fun t15 => 
  J t15 w_3) w_2) (World.drew w_1)) (World.drew w_1)) (World.drew w_1))
   (Q (.tuple #[]) w_1)) [(.int .i64 0)] w
theorem eq77 (v_data v_a v_b v_n v_cmp : Value) (Q : Value → World → Prop) (w : World) : semF Try.prog 77 [v_data, v_a, v_b, v_n, v_cmp] Q w = S77 v_data v_a v_b v_n v_cmp Q w := by kernel_rfl
theorem ref77 {v_data v_a v_b v_n v_cmp : Value} {Q : Value → World → Prop} {w : World} (h : S77 v_data v_a v_b v_n v_cmp Q w) : callS Try.prog 77 #[v_data, v_a, v_b, v_n, v_cmp] Q w :=
  callS_of mix (fun a w => Try.call77 a w) (by kernel_rfl) (by rw [eq77]; exact h)
end Go.Proofs.Ytjfookddoaemfaa
