/- The readings of the functions' code, printed by a program, each held equal to the one that is computed: for all arguments, all worlds.
   Conditions: none. -/
import Derived.Test.YtcmcdiddplmkaaaShC
import Derived.Test.YtcmcdiddplmkaaaProg
import Derived.KernelRfl
set_option linter.unusedSimpArgs false
set_option linter.unusedVariables false
namespace Go.Proofs.Ytcmcdiddplmkaaa
open Go.Sh
set_option maxRecDepth 100000
theorem mix : Try.prog.follows .mixedOrders = true := by kernel_rfl

-- gosem.cut.init
def S2 (Q : Value → World → Prop) (w : World) : Prop :=
 callS Try.prog 1 #[] (fun _ w_1 => 
 Q (.tuple #[]) w_1) w
theorem eq2 (Q : Value → World → Prop) (w : World) : semF Try.prog 2 [] Q w = S2 Q w := by kernel_rfl
theorem ref2 {Q : Value → World → Prop} {w : World} (h : S2 Q w) : callS Try.prog 2 #[] Q w :=
  callS_of mix (fun a w => Try.call2 a w) (by kernel_rfl) (by rw [eq2]; exact h)
-- commons/commonslaw19.LeaseSafe
def S3 (v_term v_mine v_theirs v_waits : Value) (Q : Value → World → Prop) (w : World) : Prop :=
 pur Try.prog (binS .lss 3 false true v_term (.int .i64 32)) fun t23 => 
 gd t23 false (fun k w_1 => k v_term w_1) (fun t25_1 w_2 => 
 gd t23 false (fun k_1 w_3 => pur Try.prog (binS .gtr 3 false true t25_1 (.int .i64 200)) fun t26 => k_1 t26 w_3) (fun t26_1 w_4 => 
 pur Try.prog (pickS t23 (.bool true) t26_1) fun t27 => 
 gd t27 false (fun k_2 w_5 => k_2 v_mine w_5) (fun t29_1 w_6 => 
 gd t27 false (fun k_3 w_7 => pur Try.prog (Builtin.len_ #[22] 3 #[t29_1]) fun t30 => k_3 t30 w_7) (fun t30_1 w_8 => 
 gd t27 false (fun k_4 w_9 => pur Try.prog (binS .gtr 3 false true t30_1 (.int .i64 300)) fun t31 => k_4 t31 w_9) (fun t31_1 w_10 => 
 pur Try.prog (pickS t27 (.bool true) t31_1) fun t32 => 
 gd t32 false (fun k_5 w_11 => k_5 v_theirs w_11) (fun t34_1 w_12 => 
 gd t32 false (fun k_6 w_13 => pur Try.prog (Builtin.len_ #[22] 3 #[t34_1]) fun t35 => k_6 t35 w_13) (fun t35_1 w_14 => 
 gd t32 false (fun k_7 w_15 => pur Try.prog (binS .gtr 3 false true t35_1 (.int .i64 300)) fun t36 => k_7 t36 w_15) (fun t36_1 w_16 => 
 pur Try.prog (pickS t32 (.bool true) t36_1) fun t37 => 
 gd t37 false (fun k_8 w_17 => k_8 v_waits w_17) (fun t39_1 w_18 => 
 gd t37 false (fun k_9 w_19 => pur Try.prog (Builtin.len_ #[22] 3 #[t39_1]) fun t40 => k_9 t40 w_19) (fun t40_1 w_20 => 
 gd t37 false (fun k_10 w_21 => pur Try.prog (binS .gtr 3 false true t40_1 (.int .i64 100)) fun t41 => k_10 t41 w_21) (fun t41_1 w_22 => 
 pur Try.prog (pickS t37 (.bool true) t41_1) fun t42 => 
 condS t42
  (callS Try.prog 4 #[] (fun t43 w_23 => 
  Q t43 w_23) w_22)
  (callS Try.prog 5 #[] (fun t44 w_24 => 
 callS Try.prog 5 #[] (fun t45 w_25 => 
 callS Try.prog 6 #[v_term] (fun t47 w_26 => 
 pur Try.prog (binS .mul 3 true false (.int .i64 2) v_term) fun t49 => 
 callS Try.prog 7 #[t49] (fun t50 w_27 => 
 rd Try.prog (binS .eql 24 false true t44 (.pointer none)) (fun t52 => 
 gd t52 false (fun k_11 w_28 => k_11 t45 w_28) (fun t54_1 w_29 => 
 gd t52 false (fun k_12 w_30 => rd Try.prog (binS .eql 24 false true t54_1 (.pointer none)) (fun t55 => k_12 t55 w_30) w_30) (fun t55_1 w_31 => 
 pur Try.prog (pickS t52 (.bool true) t55_1) fun t56 => 
 gd t56 false (fun k_13 w_32 => k_13 t47 w_32) (fun t58_1 w_33 => 
 gd t56 false (fun k_14 w_34 => rd Try.prog (binS .eql 26 false true t58_1 (.pointer none)) (fun t59 => k_14 t59 w_34) w_34) (fun t59_1 w_35 => 
 pur Try.prog (pickS t56 (.bool true) t59_1) fun t60 => 
 gd t60 false (fun k_15 w_36 => k_15 t50 w_36) (fun t62_1 w_37 => 
 gd t60 false (fun k_16 w_38 => rd Try.prog (binS .eql 28 false true t62_1 (.pointer none)) (fun t63 => k_16 t63 w_38) w_38) (fun t63_1 w_39 => 
 pur Try.prog (pickS t60 (.bool true) t63_1) fun t64 => 
 condS t64
  (Q (.bool false) w_39)
  (lp 3 (fun J => fun v_way v_asked v_i w_40 => ∀ _j : Fr, 
  pur Try.prog (binS .lss 3 false true v_i (.int .i64 300)) fun t66 => 
  condS t66
   (jn 1 (fun J_1 => 
   pur Try.prog (Builtin.len_ #[22] 3 #[v_mine]) fun t71 => 
   pur Try.prog (binS .lss 3 false false v_i t71) fun t72 => 
   condS t72
    (pur Try.prog (Instr.indexAt 22 v_mine v_i) fun t75 => 
    rd Try.prog (Instr.loadAt 3 t75) (fun t76 => 
    J_1 t76 w_40) w_40)
    (J_1 (.int .i64 1) w_40))
  (fun v_x w_41 => ∀ _j : Fr, 
   jn 1 (fun J_2 => 
    pur Try.prog (Builtin.len_ #[22] 3 #[v_theirs]) fun t79 => 
    pur Try.prog (binS .lss 3 false false v_i t79) fun t80 => 
    condS t80
     (pur Try.prog (Instr.indexAt 22 v_theirs v_i) fun t83 => 
     rd Try.prog (Instr.loadAt 3 t83) (fun t84 => 
     J_2 t84 w_41) w_41)
     (J_2 (.int .i64 1) w_41))
   (fun v_y w_42 => ∀ _j : Fr, 
    callS Try.prog 8 #[t44, v_x] (fun _ w_43 => 
    callS Try.prog 8 #[t45, v_y] (fun _ w_44 => 
    callS Try.prog 9 #[t44] (fun t92 w_45 => 
    pur Try.prog (Op.unary .not t92) fun t93 => 
    gd t93 false (fun k_17 w_46 => k_17 t45 w_46) (fun t95_1 w_47 => 
    gd t93 false (fun k_18 w_48 => callS Try.prog 9 #[t95_1] (fun t96 w_49 => k_18 t96 w_49) w_48) (fun t96_1 w_50 => 
    gd t93 false (fun k_19 w_51 => pur Try.prog (Op.unary .not t96_1) fun t97 => k_19 t97 w_51) (fun t97_1 w_52 => 
    pur Try.prog (pickS t93 (.bool true) t97_1) fun t98 => 
    condS t98
     (callS Try.prog 4 #[] (fun t99 w_53 => 
     Q t99 w_53) w_52)
     (callS Try.prog 11 #[t44] (fun t103 w_54 => 
    callS Try.prog 10 #[t47, t103] (fun t104 w_55 => 
    pur Try.prog (Instr.extract t104 0) fun t105 => 
    pur Try.prog (Instr.extract t104 1) fun t106 => 
    jn 2 (fun J_3 => 
     condS t106
      (jn 1 (fun J_4 => 
       pur Try.prog (Builtin.len_ #[22] 3 #[v_waits]) fun t110 => 
       pur Try.prog (binS .lss 3 false false v_asked t110) fun t111 => 
       condS t111
        (pur Try.prog (Instr.indexAt 22 v_waits v_asked) fun t114 => 
        rd Try.prog (Instr.loadAt 3 t114) (fun t115 => 
        pur Try.prog (binS .and 3 false true t115 (.int .i64 63)) fun t116 => 
        J_4 t116 w_55) w_55)
        (J_4 (.int .i64 0) w_55))
      (fun v_wait w_56 => ∀ _j : Fr, 
       pur Try.prog (binS .add 3 false true v_asked (.int .i64 1)) fun t118 => 
       pur Try.prog (binS .add 3 false false v_i v_wait) fun t123 => 
       pur Try.prog (Instr.build 36 #[(0, t105), (1, t123), (2, (.int .i64 0))]) fun t124 => 
       act Try.prog (Instr.buildSlice 30 1 #[(0, t124)]) (fun t125 w_57 => 
       act Try.prog (Builtin.append_ #[30, 30] 30 #[v_way, t125]) (fun t126 w_58 => 
       J_3 t126 t118 w_58) w_57) w_56))
      (J_3 v_way v_asked w_55))
    (fun v_way_1 v_asked_1 w_59 => ∀ _j : Fr, 
     lp 1 (fun J_5 => fun v_k w_60 => ∀ _j : Fr, 
      pur Try.prog (Builtin.len_ #[30] 3 #[v_way_1]) fun t129 => 
      pur Try.prog (binS .lss 3 false false v_k t129) fun t130 => 
      condS t130
       (jn 0 (fun J_6 => 
       jn 0 (fun J_7 => 
        pur Try.prog (Instr.indexAt 30 v_way_1 v_k) fun t135 => 
        pur Try.prog (Instr.fieldAt 36 t135 1) fun t136 => 
        rd Try.prog (Instr.loadAt 3 t136) (fun t137 => 
        pur Try.prog (binS .eql 3 false false t137 v_i) fun t139 => 
        condS t139
         (callS Try.prog 11 #[t45] (fun t142 w_61 => 
         callS Try.prog 12 #[t50, (.int .i64 1), t142] (fun _ w_62 => 
         pur Try.prog (Instr.indexAt 30 v_way_1 v_k) fun t149 => 
         pur Try.prog (Instr.fieldAt 36 t149 0) fun t150 => 
         rd Try.prog (Instr.loadAt 3 t150) (fun t151 => 
         pur Try.prog (binS .rem 3 false true t151 (.int .i64 7)) fun t152 => 
         pur Try.prog (binS .add 3 false false v_i t152) fun t153 => 
         pur Try.prog (Instr.indexAt 30 v_way_1 v_k) fun t154 => 
         pur Try.prog (Instr.fieldAt 36 t154 2) fun t155 => 
         act Try.prog (thenU (Instr.storeAt 3 t155 t153)) (fun _ w_63 => 
         J_7  w_63) w_62) w_62) w_61) w_60)
         (J_7  w_60)) w_60)
       (fun  w_64 => ∀ _j : Fr, 
        pur Try.prog (Instr.indexAt 30 v_way_1 v_k) fun t158 => 
        pur Try.prog (Instr.fieldAt 36 t158 2) fun t159 => 
        rd Try.prog (Instr.loadAt 3 t159) (fun t160 => 
        pur Try.prog (binS .eql 3 false false t160 v_i) fun t162 => 
        gd t162 true (fun k_20 w_65 => k_20 v_way_1 w_65) (fun t164_1 w_66 => 
        gd t162 true (fun k_21 w_67 => k_21 v_k w_67) (fun t165_1 w_68 => 
        gd t162 true (fun k_22 w_69 => pur Try.prog (Instr.indexAt 30 t164_1 t165_1) fun t166 => k_22 t166 w_69) (fun t166_1 w_70 => 
        gd t162 true (fun k_23 w_71 => pur Try.prog (Instr.fieldAt 36 t166_1 1) fun t167 => k_23 t167 w_71) (fun t167_1 w_72 => 
        gd t162 true (fun k_24 w_73 => rd Try.prog (Instr.loadAt 3 t167_1) (fun t168 => k_24 t168 w_73) w_73) (fun t168_1 w_74 => 
        gd t162 true (fun k_25 w_75 => k_25 v_i w_75) (fun t169_1 w_76 => 
        gd t162 true (fun k_26 w_77 => pur Try.prog (binS .leq 3 false false t168_1 t169_1) fun t170 => k_26 t170 w_77) (fun t170_1 w_78 => 
        pur Try.prog (pickS t162 t170_1 (.bool false)) fun t171 => 
        condS t171
         (pur Try.prog (Instr.indexAt 30 v_way_1 v_k) fun t175 => 
         pur Try.prog (Instr.fieldAt 36 t175 0) fun t176 => 
         rd Try.prog (Instr.loadAt 3 t176) (fun t177 => 
         callS Try.prog 13 #[t47, t177] (fun _ w_79 => 
         J_6  w_79) w_78) w_78)
         (J_6  w_78)) w_76) w_74) w_72) w_70) w_68) w_66) w_64) w_64))
      (fun  w_80 => ∀ _j : Fr, 
       pur Try.prog (binS .add 3 false true v_k (.int .i64 1)) fun t132 => 
       J_5 t132 w_80))
       (callS Try.prog 11 #[t45] (fun t181 w_81 => 
     callS Try.prog 14 #[t50, t181] (fun t182 w_82 => 
     pur Try.prog (Builtin.len_ #[22] 3 #[t182]) fun t183 => 
     pur Try.prog (binS .gtr 3 false true t183 (.int .i64 0)) fun t184 => 
     gd t184 true (fun k_27 w_83 => k_27 t47 w_83) (fun t186_1 w_84 => 
     gd t184 true (fun k_28 w_85 => k_28 t44 w_85) (fun t187_1 w_86 => 
     gd t184 true (fun k_29 w_87 => callS Try.prog 11 #[t187_1] (fun t188 w_88 => k_29 t188 w_88) w_87) (fun t188_1 w_89 => 
     gd t184 true (fun k_30 w_90 => callS Try.prog 15 #[t186_1, t188_1] (fun t189 w_91 => k_30 t189 w_91) w_90) (fun t189_1 w_92 => 
     pur Try.prog (pickS t184 t189_1 (.bool false)) fun t190 => 
     condS t190
      (Q (.bool false) w_92)
      (pur Try.prog (binS .add 3 false true v_i (.int .i64 1)) fun t68 => 
  J v_way_1 v_asked_1 t68 w_92)) w_89) w_86) w_84) w_82) w_81) w_60)) [(.int .i64 0)] w_59)) w_54) w_52)) w_50) w_47) w_45) w_44) w_43) w_42)))
   (callS Try.prog 4 #[] (fun t191 w_93 => 
 Q t191 w_93) w_40)) [(.slice none 0 0), (.int .i64 0), (.int .i64 0)] w_39)) w_37) w_35) w_33) w_31) w_29) w_27) w_27) w_26) w_25) w_24) w_22)) w_20) w_18) w_16) w_14) w_12) w_10) w_8) w_6) w_4) w_2) w
theorem eq3 (v_term v_mine v_theirs v_waits : Value) (Q : Value → World → Prop) (w : World) : semF Try.prog 3 [v_term, v_mine, v_theirs, v_waits] Q w = S3 v_term v_mine v_theirs v_waits Q w := by kernel_rfl
theorem ref3 {v_term v_mine v_theirs v_waits : Value} {Q : Value → World → Prop} {w : World} (h : S3 v_term v_mine v_theirs v_waits Q w) : callS Try.prog 3 #[v_term, v_mine, v_theirs, v_waits] Q w :=
  callS_of mix (fun a w => Try.call3 a w) (by kernel_rfl) (by rw [eq3]; exact h)
-- commons/commonslaw19.alive
def S4 (Q : Value → World → Prop) (w : World) : Prop :=
 callS Try.prog 6 #[(.int .i64 32)] (fun t7 w_1 => 
 rd Try.prog (binS .eql 26 false true t7 (.pointer none)) (fun t9 => 
 condS t9
  (Q (.bool false) w_1)
  (callS Try.prog 10 #[t7, (.int .i64 5)] (fun t12 w_2 => 
 pur Try.prog (Instr.extract t12 0) fun t13 => 
 pur Try.prog (Instr.extract t12 1) fun t14 => 
 callS Try.prog 13 #[t7, (.int .i64 1)] (fun t16 w_3 => 
 callS Try.prog 7 #[(.int .i64 10)] (fun t17 w_4 => 
 rd Try.prog (binS .eql 28 false true t17 (.pointer none)) (fun t19 => 
 gd t19 false (fun k w_5 => k t17 w_5) (fun t21_1 w_6 => 
 gd t19 false (fun k_1 w_7 => callS Try.prog 12 #[t21_1, (.int .i64 3), (.int .i64 5)] (fun t22 w_8 => k_1 t22 w_8) w_7) (fun t22_1 w_9 => 
 gd t19 false (fun k_2 w_10 => pur Try.prog (Op.unary .not t22_1) fun t23 => k_2 t23 w_10) (fun t23_1 w_11 => 
 pur Try.prog (pickS t19 (.bool true) t23_1) fun t24 => 
 condS t24
  (Q (.bool false) w_11)
  (callS Try.prog 14 #[t17, (.int .i64 15)] (fun t26 w_12 => 
 pur Try.prog (binS .eql 3 false true t13 (.int .i64 1)) fun t28 => 
 gd t28 true (fun k_3 w_13 => k_3 t14 w_13) (fun t30_1 w_14 => 
 pur Try.prog (pickS t28 t30_1 (.bool false)) fun t31 => 
 gd t31 true (fun k_4 w_15 => k_4 t16 w_15) (fun t33_1 w_16 => 
 pur Try.prog (pickS t31 t33_1 (.bool false)) fun t34 => 
 gd t34 true (fun k_5 w_17 => k_5 t7 w_17) (fun t36_1 w_18 => 
 gd t34 true (fun k_6 w_19 => callS Try.prog 15 #[t36_1, (.int .i64 36)] (fun t37 w_20 => k_6 t37 w_20) w_19) (fun t37_1 w_21 => 
 pur Try.prog (pickS t34 t37_1 (.bool false)) fun t38 => 
 gd t38 true (fun k_7 w_22 => k_7 t7 w_22) (fun t40_1 w_23 => 
 gd t38 true (fun k_8 w_24 => callS Try.prog 15 #[t40_1, (.int .i64 37)] (fun t41 w_25 => k_8 t41 w_25) w_24) (fun t41_1 w_26 => 
 gd t38 true (fun k_9 w_27 => pur Try.prog (Op.unary .not t41_1) fun t42 => k_9 t42 w_27) (fun t42_1 w_28 => 
 pur Try.prog (pickS t38 t42_1 (.bool false)) fun t43 => 
 gd t43 true (fun k_10 w_29 => k_10 t26 w_29) (fun t45_1 w_30 => 
 gd t43 true (fun k_11 w_31 => pur Try.prog (Builtin.len_ #[22] 3 #[t45_1]) fun t46 => k_11 t46 w_31) (fun t46_1 w_32 => 
 gd t43 true (fun k_12 w_33 => pur Try.prog (binS .eql 3 false true t46_1 (.int .i64 1)) fun t47 => k_12 t47 w_33) (fun t47_1 w_34 => 
 pur Try.prog (pickS t43 t47_1 (.bool false)) fun t48 => 
 gd t48 true (fun k_13 w_35 => k_13 t26 w_35) (fun t50_1 w_36 => 
 gd t48 true (fun k_14 w_37 => pur Try.prog (Instr.indexAt 22 t50_1 (.int .i64 0)) fun t51 => k_14 t51 w_37) (fun t51_1 w_38 => 
 gd t48 true (fun k_15 w_39 => rd Try.prog (Instr.loadAt 3 t51_1) (fun t52 => k_15 t52 w_39) w_39) (fun t52_1 w_40 => 
 gd t48 true (fun k_16 w_41 => pur Try.prog (binS .eql 3 false true t52_1 (.int .i64 3)) fun t53 => k_16 t53 w_41) (fun t53_1 w_42 => 
 pur Try.prog (pickS t48 t53_1 (.bool false)) fun t54 => 
 gd t54 true (fun k_17 w_43 => k_17 t17 w_43) (fun t56_1 w_44 => 
 gd t54 true (fun k_18 w_45 => callS Try.prog 16 #[t56_1, (.int .i64 3), (.int .i64 5)] (fun t57 w_46 => k_18 t57 w_46) w_45) (fun t57_1 w_47 => 
 gd t54 true (fun k_19 w_48 => pur Try.prog (binS .eql 3 false true t57_1 (.int .i64 10)) fun t58 => k_19 t58 w_48) (fun t58_1 w_49 => 
 pur Try.prog (pickS t54 t58_1 (.bool false)) fun t59 => 
 Q t59 w_49) w_47) w_44) w_42) w_40) w_38) w_36) w_34) w_32) w_30) w_28) w_26) w_23) w_21) w_18) w_16) w_14) w_12) w_11)) w_9) w_6) w_4) w_4) w_3) w_2) w_1)) w_1) w
theorem eq4 (Q : Value → World → Prop) (w : World) : semF Try.prog 4 [] Q w = S4 Q w := by kernel_rfl
theorem ref4 {Q : Value → World → Prop} {w : World} (h : S4 Q w) : callS Try.prog 4 #[] Q w :=
  callS_of mix (fun a w => Try.call4 a w) (by kernel_rfl) (by rw [eq4]; exact h)
-- commons/tick.New
def S5 (Q : Value → World → Prop) (w : World) : Prop :=
 pur Try.prog (Instr.build 44 #[]) fun t1 => 
 act Try.prog (Instr.box 44 t1) (fun t2 w_1 => 
 Q t2 w_1) w
theorem eq5 (Q : Value → World → Prop) (w : World) : semF Try.prog 5 [] Q w = S5 Q w := by kernel_rfl
theorem ref5 {Q : Value → World → Prop} {w : World} (h : S5 Q w) : callS Try.prog 5 #[] Q w :=
  callS_of mix (fun a w => Try.call5 a w) (by kernel_rfl) (by rw [eq5]; exact h)
-- commons/lease.NewMine
def S6 (v_n : Value) (Q : Value → World → Prop) (w : World) : Prop :=
 callS Try.prog 17 #[v_n] (fun t4 w_1 => 
 act Try.prog (Instr.makeMap 45 none) (fun t5 w_2 => 
 pur Try.prog (Instr.build 47 #[(0, t4), (1, t5)]) fun t6 => 
 act Try.prog (Instr.box 47 t6) (fun t7 w_3 => 
 Q t7 w_3) w_2) w_1) w
theorem eq6 (v_n : Value) (Q : Value → World → Prop) (w : World) : semF Try.prog 6 [v_n] Q w = S6 v_n Q w := by kernel_rfl
theorem ref6 {v_n : Value} {Q : Value → World → Prop} {w : World} (h : S6 v_n Q w) : callS Try.prog 6 #[v_n] Q w :=
  callS_of mix (fun a w => Try.call6 a w) (by kernel_rfl) (by rw [eq6]; exact h)
-- commons/lease.New
def S7 (v_n : Value) (Q : Value → World → Prop) (w : World) : Prop :=
 callS Try.prog 17 #[v_n] (fun t4 w_1 => 
 act Try.prog (Instr.makeMap 45 none) (fun t5 w_2 => 
 pur Try.prog (Instr.build 49 #[(0, t4), (1, t5)]) fun t6 => 
 act Try.prog (Instr.box 49 t6) (fun t7 w_3 => 
 Q t7 w_3) w_2) w_1) w
theorem eq7 (v_n : Value) (Q : Value → World → Prop) (w : World) : semF Try.prog 7 [v_n] Q w = S7 v_n Q w := by kernel_rfl
theorem ref7 {v_n : Value} {Q : Value → World → Prop} {w : World} (h : S7 v_n Q w) : callS Try.prog 7 #[v_n] Q w :=
  callS_of mix (fun a w => Try.call7 a w) (by kernel_rfl) (by rw [eq7]; exact h)
-- (*commons/tick.Clock).Step
def S8 (v_c v_by : Value) (Q : Value → World → Prop) (w : World) : Prop :=
 rd Try.prog (binS .eql 24 false true v_c (.pointer none)) (fun t9 => 
 condS t9
  (Q (.int .i64 0) w)
  (jn 0 (fun J => 
  pur Try.prog (nilV v_c) fun t11 => 
  pur Try.prog (Instr.fieldAt 44 t11 2) fun t12 => 
  rd Try.prog (Instr.loadAt 42 t12) (fun t13 => 
  rd Try.prog (binS .eql 42 false true t13 (.pointer none)) (fun t14 => 
  condS t14
   (callS Try.prog 18 #[(.int .i64 8)] (fun t16 w_1 => 
   pur Try.prog (nilV v_c) fun t17 => 
   pur Try.prog (Instr.fieldAt 44 t17 2) fun t18 => 
   act Try.prog (thenU (Instr.storeAt 42 t18 t16)) (fun _ w_2 => 
   J  w_2) w_1) w)
   (J  w)) w) w)
 (fun  w_3 => ∀ _j : Fr, 
  pur Try.prog (Builtin.max_ #[3, 3] 3 #[v_by, (.int .i64 0)]) fun t20 => 
  pur Try.prog (Builtin.min_ #[3, 3] 3 #[t20, (.int .i64 8)]) fun t21 => 
  pur Try.prog (nilV v_c) fun t25 => 
  pur Try.prog (Instr.fieldAt 44 t25 0) fun t26 => 
  rd Try.prog (Instr.loadAt 3 t26) (fun t27 => 
  pur Try.prog (binS .add 3 false false t27 t21) fun t29 => 
  pur Try.prog (Builtin.min_ #[3, 3] 3 #[t29, (.int .i64 4611686018427387904)]) fun t30 => 
  pur Try.prog (nilV v_c) fun t32 => 
  pur Try.prog (Instr.fieldAt 44 t32 1) fun t33 => 
  rd Try.prog (Instr.loadAt 3 t33) (fun t34 => 
  pur Try.prog (binS .add 3 false true t34 (.int .i64 1)) fun t35 => 
  pur Try.prog (Builtin.min_ #[3, 3] 3 #[t35, (.int .i64 4611686018427387904)]) fun t36 => 
  pur Try.prog (nilV v_c) fun t37 => 
  pur Try.prog (Instr.fieldAt 44 t37 0) fun t38 => 
  act Try.prog (thenU (Instr.storeAt 3 t38 t30)) (fun _ w_4 => 
  pur Try.prog (nilV v_c) fun t39 => 
  pur Try.prog (Instr.fieldAt 44 t39 1) fun t40 => 
  act Try.prog (thenU (Instr.storeAt 3 t40 t36)) (fun _ w_5 => 
  jn 0 (fun J_1 => 
   pur Try.prog (nilV v_c) fun t42 => 
   pur Try.prog (Instr.fieldAt 44 t42 2) fun t43 => 
   rd Try.prog (Instr.loadAt 42 t43) (fun t44 => 
   callS Try.prog 19 #[t44] (fun t45 w_6 => 
   pur Try.prog (binS .eql 3 false true t45 (.int .i64 0)) fun t46 => 
   condS t46
    (pur Try.prog (nilV v_c) fun t48 => 
    pur Try.prog (Instr.fieldAt 44 t48 2) fun t49 => 
    rd Try.prog (Instr.loadAt 42 t49) (fun t50 => 
    callS Try.prog 20 #[t50] (fun _ w_7 => 
    J_1  w_7) w_6) w_6)
    (J_1  w_6)) w_5) w_5)
  (fun  w_8 => ∀ _j : Fr, 
   pur Try.prog (nilV v_c) fun t53 => 
   pur Try.prog (Instr.fieldAt 44 t53 2) fun t54 => 
   rd Try.prog (Instr.loadAt 42 t54) (fun t55 => 
   act Try.prog (Instr.buildSlice 22 1 #[(0, t21)]) (fun t57 w_9 => 
   callS Try.prog 21 #[t55, t57] (fun _ w_10 => 
   pur Try.prog (nilV v_c) fun t60 => 
   pur Try.prog (Instr.fieldAt 44 t60 2) fun t61 => 
   rd Try.prog (Instr.loadAt 42 t61) (fun t62 => 
   callS Try.prog 22 #[t62] (fun t63 w_11 => 
   pur Try.prog (Builtin.len_ #[22] 3 #[t63]) fun t64 => 
   lp 2 (fun J_2 => fun v_n t65 w_12 => ∀ _j : Fr, 
    pur Try.prog (binS .lss 3 false false t65 t64) fun t66 => 
    condS t66
     (pur Try.prog (Instr.indexAt 22 t63 t65) fun t67 => 
    rd Try.prog (Instr.loadAt 3 t67) (fun t68 => 
    pur Try.prog (binS .add 3 false false v_n t68) fun t71 => 
    pur Try.prog (binS .add 3 false true t65 (.int .i64 1)) fun t72 => 
    J_2 t71 t72 w_12) w_12)
     (jn 0 (fun J_3 => 
    pur Try.prog (nilV v_c) fun t74 => 
    pur Try.prog (Instr.fieldAt 44 t74 2) fun t75 => 
    rd Try.prog (Instr.loadAt 42 t75) (fun t76 => 
    callS Try.prog 23 #[t76] (fun t77 w_13 => 
    pur Try.prog (binS .eql 3 false true t77 (.int .i64 8)) fun t78 => 
    gd t78 true (fun k w_14 => k v_n w_14) (fun t80_1 w_15 => 
    gd t78 true (fun k_1 w_16 => pur Try.prog (binS .lss 3 false true t80_1 (.int .i64 7)) fun t81 => k_1 t81 w_16) (fun t81_1 w_17 => 
    gd t78 true (fun k_2 w_18 => k_2 t81_1 w_18) (fun t82_1 w_19 => 
    gd t82_1 false (fun k_3 w_20 => k_3 v_n w_20) (fun t83_1 w_21 => 
    gd t82_1 false (fun k_4 w_22 => pur Try.prog (binS .gtr 3 false true t83_1 (.int .i64 9)) fun t84 => k_4 t84 w_22) (fun t84_1 w_23 => 
    gd t78 true (fun k_5 w_24 => pur Try.prog (pickS t82_1 (.bool true) t84_1) fun t85 => k_5 t85 w_24) (fun t85_1 w_25 => 
    pur Try.prog (pickS t78 t85_1 (.bool false)) fun t86 => 
    condS t86
     (pur Try.prog (nilV v_c) fun t88 => 
     pur Try.prog (Instr.fieldAt 44 t88 3) fun t89 => 
     act Try.prog (thenU (Instr.storeAt 4 t89 (.bool true))) (fun _ w_26 => 
     J_3  w_26) w_25)
     (J_3  w_25)) w_23) w_21) w_19) w_17) w_15) w_13) w_12) w_12)
   (fun  w_27 => ∀ _j : Fr, 
    pur Try.prog (nilV v_c) fun t91 => 
    pur Try.prog (Instr.fieldAt 44 t91 0) fun t92 => 
    rd Try.prog (Instr.loadAt 3 t92) (fun t93 => 
    Q t93 w_27) w_27))) [(.int .i64 0), (.int .i64 0)] w_11) w_10) w_10) w_9) w_8) w_8)) w_4) (World.drew w_3)) (World.drew w_3)) (World.drew w_3)))) w
theorem eq8 (v_c v_by : Value) (Q : Value → World → Prop) (w : World) : semF Try.prog 8 [v_c, v_by] Q w = S8 v_c v_by Q w := by kernel_rfl
theorem ref8 {v_c v_by : Value} {Q : Value → World → Prop} {w : World} (h : S8 v_c v_by Q w) : callS Try.prog 8 #[v_c, v_by] Q w :=
  callS_of mix (fun a w => Try.call8 a w) (by kernel_rfl) (by rw [eq8]; exact h)
-- (*commons/tick.Clock).Kept
def S9 (v_c : Value) (Q : Value → World → Prop) (w : World) : Prop :=
 rd Try.prog (binS .neq 24 false true v_c (.pointer none)) (fun t4 => 
 gd t4 true (fun k w_1 => k v_c w_1) (fun t6_1 w_2 => 
 gd t4 true (fun k_1 w_3 => pur Try.prog (nilV t6_1) fun t7 => k_1 t7 w_3) (fun t7_1 w_4 => 
 gd t4 true (fun k_2 w_5 => pur Try.prog (Instr.fieldAt 44 t7_1 3) fun t8 => k_2 t8 w_5) (fun t8_1 w_6 => 
 gd t4 true (fun k_3 w_7 => rd Try.prog (Instr.loadAt 4 t8_1) (fun t9 => k_3 t9 w_7) w_7) (fun t9_1 w_8 => 
 gd t4 true (fun k_4 w_9 => pur Try.prog (Op.unary .not t9_1) fun t10 => k_4 t10 w_9) (fun t10_1 w_10 => 
 pur Try.prog (pickS t4 t10_1 (.bool false)) fun t11 => 
 Q t11 w_10) w_8) w_6) w_4) w_2) w) w
theorem eq9 (v_c : Value) (Q : Value → World → Prop) (w : World) : semF Try.prog 9 [v_c] Q w = S9 v_c Q w := by kernel_rfl
theorem ref9 {v_c : Value} {Q : Value → World → Prop} {w : World} (h : S9 v_c Q w) : callS Try.prog 9 #[v_c] Q w :=
  callS_of mix (fun a w => Try.call9 a w) (by kernel_rfl) (by rw [eq9]; exact h)
-- (*commons/lease.Mine).Ask
def S10 (v_m v_now : Value) (Q : Value → World → Prop) (w : World) : Prop :=
 ∃ S : World → Prop, S (World.drew w) ∧ 
 callS Try.prog 24 #[v_m] (fun t7 w_1 => S w_1 ∧ 
 gd t7 false (fun k w_2 => k v_m w_2) (fun t9_1 w_3 => 
 gd t7 false (fun k_1 w_4 => pur Try.prog (nilV t9_1) fun t10 => k_1 t10 w_4) (fun t10_1 w_5 => 
 gd t7 false (fun k_2 w_6 => pur Try.prog (Instr.fieldAt 47 t10_1 2) fun t11 => k_2 t11 w_6) (fun t11_1 w_7 => 
 gd t7 false (fun k_3 w_8 => hld Try.prog S (Instr.loadAt 3 t11_1) fun t12 => k_3 t12 w_8) (fun t12_1 w_9 => 
 gd t7 false (fun k_4 w_10 => pur Try.prog (binS .gtr 3 false true t12_1 (.int .i64 0)) fun t13 => k_4 t13 w_10) (fun t13_1 w_11 => 
 gd t7 false (fun k_5 w_12 => k_5 t13_1 w_12) (fun t14_1 w_13 => 
 gd t14_1 true (fun k_6 w_14 => k_6 v_now w_14) (fun t15_1 w_15 => 
 gd t14_1 true (fun k_7 w_16 => k_7 v_m w_16) (fun t16_1 w_17 => 
 gd t14_1 true (fun k_8 w_18 => pur Try.prog (nilV t16_1) fun t17 => k_8 t17 w_18) (fun t17_1 w_19 => 
 gd t14_1 true (fun k_9 w_20 => pur Try.prog (Instr.fieldAt 47 t17_1 3) fun t18 => k_9 t18 w_20) (fun t18_1 w_21 => 
 gd t14_1 true (fun k_10 w_22 => hld Try.prog S (Instr.loadAt 3 t18_1) fun t19 => k_10 t19 w_22) (fun t19_1 w_23 => 
 gd t14_1 true (fun k_11 w_24 => callS Try.prog 25 #[t15_1, t19_1] (fun t20 w_25 => S w_25 ∧ k_11 t20 w_25) w_24) (fun t20_1 w_26 => 
 gd t14_1 true (fun k_12 w_27 => k_12 v_m w_27) (fun t21_1 w_28 => 
 gd t14_1 true (fun k_13 w_29 => pur Try.prog (nilV t21_1) fun t22 => k_13 t22 w_29) (fun t22_1 w_30 => 
 gd t14_1 true (fun k_14 w_31 => pur Try.prog (Instr.fieldAt 47 t22_1 0) fun t23 => k_14 t23 w_31) (fun t23_1 w_32 => 
 gd t14_1 true (fun k_15 w_33 => hld Try.prog S (Instr.loadAt 3 t23_1) fun t24 => k_15 t24 w_33) (fun t24_1 w_34 => 
 gd t14_1 true (fun k_16 w_35 => pur Try.prog (binS .add 3 false true t24_1 (.int .i64 4)) fun t25 => k_16 t25 w_35) (fun t25_1 w_36 => 
 gd t14_1 true (fun k_17 w_37 => pur Try.prog (binS .sub 3 false true t25_1 (.int .i64 1)) fun t26 => k_17 t26 w_37) (fun t26_1 w_38 => 
 gd t14_1 true (fun k_18 w_39 => pur Try.prog (binS .quo 3 false true t26_1 (.int .i64 4)) fun t27 => k_18 t27 w_39) (fun t27_1 w_40 => 
 gd t14_1 true (fun k_19 w_41 => pur Try.prog (binS .lss 3 false false t20_1 t27_1) fun t28 => k_19 t28 w_41) (fun t28_1 w_42 => 
 gd t7 false (fun k_20 w_43 => pur Try.prog (pickS t14_1 t28_1 (.bool false)) fun t29 => k_20 t29 w_43) (fun t29_1 w_44 => 
 pur Try.prog (pickS t7 (.bool true) t29_1) fun t30 => 
 condS t30
  (Q (.tuple #[(.int .i64 0), (.bool false)]) w_44)
  (pur Try.prog (nilV v_m) fun t34 => 
 pur Try.prog (Instr.fieldAt 47 t34 2) fun t35 => 
 rd Try.prog (Instr.loadAt 3 t35) (fun t36 => 
 pur Try.prog (binS .add 3 false true t36 (.int .i64 1)) fun t37 => 
 pur Try.prog (nilV v_m) fun t39 => 
 pur Try.prog (Instr.fieldAt 47 t39 2) fun t40 => 
 act Try.prog (thenU (Instr.storeAt 3 t40 t37)) (fun _ w_45 => 
 pur Try.prog (nilV v_m) fun t41 => 
 pur Try.prog (Instr.fieldAt 47 t41 3) fun t42 => 
 act Try.prog (thenU (Instr.storeAt 3 t42 v_now)) (fun _ w_46 => 
 pur Try.prog (nilV v_m) fun t44 => 
 pur Try.prog (Instr.fieldAt 47 t44 1) fun t45 => 
 rd Try.prog (Instr.loadAt 45 t45) (fun t46 => 
 pur Try.prog (nilV v_m) fun t48 => 
 pur Try.prog (Instr.fieldAt 47 t48 2) fun t49 => 
 rd Try.prog (Instr.loadAt 3 t49) (fun t50 => 
 act Try.prog (thenU (Instr.mapUpdate 45 t46 t50 v_now)) (fun _ w_47 => 
 pur Try.prog (nilV v_m) fun t53 => 
 pur Try.prog (Instr.fieldAt 47 t53 2) fun t54 => 
 rd Try.prog (Instr.loadAt 3 t54) (fun t55 => 
 Q (.tuple #[t55, (.bool true)]) w_47) w_47) (World.drew w_46)) (World.drew w_46)) (World.drew w_46)) w_45) w_44) w_44)) w_42) w_40) w_38) w_36) w_34) w_32) w_30) w_28) w_26) w_23) w_21) w_19) w_17) w_15) w_13) w_11) w_9) w_7) w_5) w_3) w_1) (World.drew w)
theorem eq10 (v_m v_now : Value) (Q : Value → World → Prop) (w : World) : semF Try.prog 10 [v_m, v_now] Q w = S10 v_m v_now Q w := by kernel_rfl
theorem ref10 {v_m v_now : Value} {Q : Value → World → Prop} {w : World} (h : S10 v_m v_now Q w) : callS Try.prog 10 #[v_m, v_now] Q w :=
  callS_of mix (fun a w => Try.call10 a w) (by kernel_rfl) (by rw [eq10]; exact h)
-- (*commons/tick.Clock).Now
def S11 (v_c : Value) (Q : Value → World → Prop) (w : World) : Prop :=
 rd Try.prog (binS .eql 24 false true v_c (.pointer none)) (fun t4 => 
 condS t4
  (Q (.int .i64 0) w)
  (pur Try.prog (nilV v_c) fun t6 => 
 pur Try.prog (Instr.fieldAt 44 t6 0) fun t7 => 
 rd Try.prog (Instr.loadAt 3 t7) (fun t8 => 
 Q t8 w) w)) w
theorem eq11 (v_c : Value) (Q : Value → World → Prop) (w : World) : semF Try.prog 11 [v_c] Q w = S11 v_c Q w := by kernel_rfl
theorem ref11 {v_c : Value} {Q : Value → World → Prop} {w : World} (h : S11 v_c Q w) : callS Try.prog 11 #[v_c] Q w :=
  callS_of mix (fun a w => Try.call11 a w) (by kernel_rfl) (by rw [eq11]; exact h)
-- (*commons/lease.Table).Renew
def S12 (v_t v_node v_now : Value) (Q : Value → World → Prop) (w : World) : Prop :=
 callS Try.prog 26 #[v_t] (fun t11 w_1 => 
 condS t11
  (Q (.bool false) w_1)
  (pur Try.prog (nilV v_t) fun t14 => 
 pur Try.prog (Instr.fieldAt 49 t14 0) fun t15 => 
 rd Try.prog (Instr.loadAt 3 t15) (fun t16 => 
 callS Try.prog 27 #[v_now, t16] (fun t17 w_2 => 
 pur Try.prog (nilV v_t) fun t20 => 
 pur Try.prog (Instr.fieldAt 49 t20 1) fun t21 => 
 rd Try.prog (Instr.loadAt 45 t21) (fun t22 => 
 rd Try.prog (Instr.lookup 45 t22 v_node true) (fun t24 => 
 pur Try.prog (Instr.extract t24 0) fun t25 => 
 pur Try.prog (Instr.extract t24 1) fun t26 => 
 gd t26 true (fun k w_3 => k t17 w_3) (fun t29_1 w_4 => 
 gd t26 true (fun k_1 w_5 => k_1 t25 w_5) (fun t30_1 w_6 => 
 gd t26 true (fun k_2 w_7 => pur Try.prog (binS .leq 3 false false t29_1 t30_1) fun t31 => k_2 t31 w_7) (fun t31_1 w_8 => 
 pur Try.prog (pickS t26 t31_1 (.bool false)) fun t32 => 
 condS t32
  (Q (.bool false) w_8)
  (pur Try.prog (nilV v_t) fun t34 => 
 pur Try.prog (Instr.fieldAt 49 t34 1) fun t35 => 
 rd Try.prog (Instr.loadAt 45 t35) (fun t36 => 
 act Try.prog (thenU (Instr.mapUpdate 45 t36 v_node t17)) (fun _ w_9 => 
 Q (.bool true) w_9) w_8) w_8)) w_6) w_4) w_2) w_2) w_2) w_1) w_1)) w
theorem eq12 (v_t v_node v_now : Value) (Q : Value → World → Prop) (w : World) : semF Try.prog 12 [v_t, v_node, v_now] Q w = S12 v_t v_node v_now Q w := by kernel_rfl
theorem ref12 {v_t v_node v_now : Value} {Q : Value → World → Prop} {w : World} (h : S12 v_t v_node v_now Q w) : callS Try.prog 12 #[v_t, v_node, v_now] Q w :=
  callS_of mix (fun a w => Try.call12 a w) (by kernel_rfl) (by rw [eq12]; exact h)
-- (*commons/lease.Mine).Heard
def S13 (v_m v_stamp : Value) (Q : Value → World → Prop) (w : World) : Prop :=
 callS Try.prog 24 #[v_m] (fun t8 w_1 => 
 condS t8
  (Q (.bool false) w_1)
  (pur Try.prog (nilV v_m) fun t11 => 
 pur Try.prog (Instr.fieldAt 47 t11 1) fun t12 => 
 rd Try.prog (Instr.loadAt 45 t12) (fun t13 => 
 rd Try.prog (Instr.lookup 45 t13 v_stamp true) (fun t15 => 
 pur Try.prog (Instr.extract t15 0) fun t16 => 
 pur Try.prog (Instr.extract t15 1) fun t17 => 
 pur Try.prog (Op.unary .not t17) fun t19 => 
 condS t19
  (Q (.bool false) w_1)
  (pur Try.prog (nilV v_m) fun t22 => 
 pur Try.prog (Instr.fieldAt 47 t22 0) fun t23 => 
 rd Try.prog (Instr.loadAt 3 t23) (fun t24 => 
 callS Try.prog 27 #[t16, t24] (fun t25 w_2 => 
 pur Try.prog (nilV v_m) fun t27 => 
 pur Try.prog (Instr.fieldAt 47 t27 5) fun t28 => 
 rd Try.prog (Instr.loadAt 4 t28) (fun t29 => 
 gd t29 true (fun k w_3 => k t25 w_3) (fun t31_1 w_4 => 
 gd t29 true (fun k_1 w_5 => k_1 v_m w_5) (fun t32_1 w_6 => 
 gd t29 true (fun k_2 w_7 => pur Try.prog (nilV t32_1) fun t33 => k_2 t33 w_7) (fun t33_1 w_8 => 
 gd t29 true (fun k_3 w_9 => pur Try.prog (Instr.fieldAt 47 t33_1 4) fun t34 => k_3 t34 w_9) (fun t34_1 w_10 => 
 gd t29 true (fun k_4 w_11 => rd Try.prog (Instr.loadAt 3 t34_1) (fun t35 => k_4 t35 w_11) w_11) (fun t35_1 w_12 => 
 gd t29 true (fun k_5 w_13 => pur Try.prog (binS .leq 3 false false t31_1 t35_1) fun t36 => k_5 t36 w_13) (fun t36_1 w_14 => 
 pur Try.prog (pickS t29 t36_1 (.bool false)) fun t37 => 
 condS t37
  (Q (.bool false) w_14)
  (pur Try.prog (nilV v_m) fun t41 => 
 pur Try.prog (Instr.fieldAt 47 t41 4) fun t42 => 
 act Try.prog (thenU (Instr.storeAt 3 t42 t25)) (fun _ w_15 => 
 pur Try.prog (nilV v_m) fun t43 => 
 pur Try.prog (Instr.fieldAt 47 t43 5) fun t44 => 
 act Try.prog (thenU (Instr.storeAt 4 t44 (.bool true))) (fun _ w_16 => 
 Q (.bool true) w_16) w_15) w_14)) w_12) w_10) w_8) w_6) w_4) w_2) w_2) w_1) w_1)) w_1) w_1)) w
theorem eq13 (v_m v_stamp : Value) (Q : Value → World → Prop) (w : World) : semF Try.prog 13 [v_m, v_stamp] Q w = S13 v_m v_stamp Q w := by kernel_rfl
theorem ref13 {v_m v_stamp : Value} {Q : Value → World → Prop} {w : World} (h : S13 v_m v_stamp Q w) : callS Try.prog 13 #[v_m, v_stamp] Q w :=
  callS_of mix (fun a w => Try.call13 a w) (by kernel_rfl) (by rw [eq13]; exact h)
-- (*commons/lease.Table).Late
def S14 (v_t v_now : Value) (Q : Value → World → Prop) (w : World) : Prop :=
 act Try.prog (Instr.box 28 v_t) (fun t2 w_1 => 
 act Try.prog (Instr.box 3 v_now) (fun t3 w_2 => 
 rd Try.prog (Instr.loadAt 28 t2) (fun t5 => 
 callS Try.prog 29 #[t5] (fun t6 w_3 => 
 pur Try.prog (pure (.func (.func 30) #[] #[t2, t3])) fun t7 => 
 callS Try.prog 28 #[t6, t7] (fun t8 w_4 => 
 Q t8 w_4) w_3) w_2) w_2) w_1) w
theorem eq14 (v_t v_now : Value) (Q : Value → World → Prop) (w : World) : semF Try.prog 14 [v_t, v_now] Q w = S14 v_t v_now Q w := by kernel_rfl
theorem ref14 {v_t v_now : Value} {Q : Value → World → Prop} {w : World} (h : S14 v_t v_now Q w) : callS Try.prog 14 #[v_t, v_now] Q w :=
  callS_of mix (fun a w => Try.call14 a w) (by kernel_rfl) (by rw [eq14]; exact h)
-- (*commons/lease.Mine).Good
def S15 (v_m v_now : Value) (Q : Value → World → Prop) (w : World) : Prop :=
 callS Try.prog 24 #[v_m] (fun t6 w_1 => 
 pur Try.prog (Op.unary .not t6) fun t7 => 
 gd t7 true (fun k w_2 => k v_m w_2) (fun t9_1 w_3 => 
 gd t7 true (fun k_1 w_4 => pur Try.prog (nilV t9_1) fun t10 => k_1 t10 w_4) (fun t10_1 w_5 => 
 gd t7 true (fun k_2 w_6 => pur Try.prog (Instr.fieldAt 47 t10_1 5) fun t11 => k_2 t11 w_6) (fun t11_1 w_7 => 
 gd t7 true (fun k_3 w_8 => rd Try.prog (Instr.loadAt 4 t11_1) (fun t12 => k_3 t12 w_8) w_8) (fun t12_1 w_9 => 
 pur Try.prog (pickS t7 t12_1 (.bool false)) fun t13 => 
 gd t13 true (fun k_4 w_10 => k_4 v_now w_10) (fun t15_1 w_11 => 
 gd t13 true (fun k_5 w_12 => k_5 v_m w_12) (fun t16_1 w_13 => 
 gd t13 true (fun k_6 w_14 => pur Try.prog (nilV t16_1) fun t17 => k_6 t17 w_14) (fun t17_1 w_15 => 
 gd t13 true (fun k_7 w_16 => pur Try.prog (Instr.fieldAt 47 t17_1 4) fun t18 => k_7 t18 w_16) (fun t18_1 w_17 => 
 gd t13 true (fun k_8 w_18 => rd Try.prog (Instr.loadAt 3 t18_1) (fun t19 => k_8 t19 w_18) w_18) (fun t19_1 w_19 => 
 gd t13 true (fun k_9 w_20 => pur Try.prog (binS .lss 3 false false t15_1 t19_1) fun t20 => k_9 t20 w_20) (fun t20_1 w_21 => 
 pur Try.prog (pickS t13 t20_1 (.bool false)) fun t21 => 
 Q t21 w_21) w_19) w_17) w_15) w_13) w_11) w_9) w_7) w_5) w_3) w_1) w
theorem eq15 (v_m v_now : Value) (Q : Value → World → Prop) (w : World) : semF Try.prog 15 [v_m, v_now] Q w = S15 v_m v_now Q w := by kernel_rfl
theorem ref15 {v_m v_now : Value} {Q : Value → World → Prop} {w : World} (h : S15 v_m v_now Q w) : callS Try.prog 15 #[v_m, v_now] Q w :=
  callS_of mix (fun a w => Try.call15 a w) (by kernel_rfl) (by rw [eq15]; exact h)
-- (*commons/lease.Table).Left
def S16 (v_t v_node v_now : Value) (Q : Value → World → Prop) (w : World) : Prop :=
 callS Try.prog 26 #[v_t] (fun t10 w_1 => 
 condS t10
  (Q (.int .i64 (-1)) w_1)
  (pur Try.prog (nilV v_t) fun t13 => 
 pur Try.prog (Instr.fieldAt 49 t13 1) fun t14 => 
 rd Try.prog (Instr.loadAt 45 t14) (fun t15 => 
 rd Try.prog (Instr.lookup 45 t15 v_node true) (fun t17 => 
 pur Try.prog (Instr.extract t17 0) fun t18 => 
 pur Try.prog (Instr.extract t17 1) fun t19 => 
 pur Try.prog (Op.unary .not t19) fun t21 => 
 condS t21
  (Q (.int .i64 (-1)) w_1)
  (callS Try.prog 25 #[t18, v_now] (fun t24 w_2 => 
 Q t24 w_2) w_1)) w_1) w_1)) w
theorem eq16 (v_t v_node v_now : Value) (Q : Value → World → Prop) (w : World) : semF Try.prog 16 [v_t, v_node, v_now] Q w = S16 v_t v_node v_now Q w := by kernel_rfl
theorem ref16 {v_t v_node v_now : Value} {Q : Value → World → Prop} {w : World} (h : S16 v_t v_node v_now Q w) : callS Try.prog 16 #[v_t, v_node, v_now] Q w :=
  callS_of mix (fun a w => Try.call16 a w) (by kernel_rfl) (by rw [eq16]; exact h)
-- commons/lease.term
def S17 (v_n : Value) (Q : Value → World → Prop) (w : World) : Prop :=
 pur Try.prog (Builtin.max_ #[3, 3] 3 #[v_n, (.int .i64 1)]) fun t4 => 
 pur Try.prog (Builtin.min_ #[3, 3] 3 #[t4, (.int .i64 100000)]) fun t5 => 
 Q t5 w
theorem eq17 (v_n : Value) (Q : Value → World → Prop) (w : World) : semF Try.prog 17 [v_n] Q w = S17 v_n Q w := by kernel_rfl
theorem ref17 {v_n : Value} {Q : Value → World → Prop} {w : World} (h : S17 v_n Q w) : callS Try.prog 17 #[v_n] Q w :=
  callS_of mix (fun a w => Try.call17 a w) (by kernel_rfl) (by rw [eq17]; exact h)
-- commons/ring.New[int]
def S18 (v_most : Value) (Q : Value → World → Prop) (w : World) : Prop :=
 callS Try.prog 31 #[v_most] (fun t4 w_1 => 
 pur Try.prog (Instr.build 56 #[(1, t4)]) fun t5 => 
 act Try.prog (Instr.box 56 t5) (fun t6 w_2 => 
 Q t6 w_2) w_1) w
theorem eq18 (v_most : Value) (Q : Value → World → Prop) (w : World) : semF Try.prog 18 [v_most] Q w = S18 v_most Q w := by kernel_rfl
theorem ref18 {v_most : Value} {Q : Value → World → Prop} {w : World} (h : S18 v_most Q w) : callS Try.prog 18 #[v_most] Q w :=
  callS_of mix (fun a w => Try.call18 a w) (by kernel_rfl) (by rw [eq18]; exact h)
-- (*commons/ring.Ring[int]).Room
def S19 (v_r : Value) (Q : Value → World → Prop) (w : World) : Prop :=
 rd Try.prog (binS .eql 42 false true v_r (.pointer none)) (fun t4 => 
 condS t4
  (Q (.int .i64 0) w)
  (pur Try.prog (nilV v_r) fun t6 => 
 pur Try.prog (Instr.fieldAt 56 t6 1) fun t7 => 
 rd Try.prog (Instr.loadAt 3 t7) (fun t8 => 
 pur Try.prog (nilV v_r) fun t10 => 
 pur Try.prog (Instr.fieldAt 56 t10 0) fun t11 => 
 rd Try.prog (Instr.loadAt 22 t11) (fun t12 => 
 pur Try.prog (Builtin.len_ #[22] 3 #[t12]) fun t13 => 
 pur Try.prog (binS .sub 3 false false t8 t13) fun t14 => 
 Q t14 (World.drew w)) (World.drew w)) (World.drew w))) w
theorem eq19 (v_r : Value) (Q : Value → World → Prop) (w : World) : semF Try.prog 19 [v_r] Q w = S19 v_r Q w := by kernel_rfl
theorem ref19 {v_r : Value} {Q : Value → World → Prop} {w : World} (h : S19 v_r Q w) : callS Try.prog 19 #[v_r] Q w :=
  callS_of mix (fun a w => Try.call19 a w) (by kernel_rfl) (by rw [eq19]; exact h)
-- (*commons/ring.Ring[int]).Pop
def S20 (v_r : Value) (Q : Value → World → Prop) (w : World) : Prop :=
 callS Try.prog 32 #[v_r, (.int .i64 0)] (fun t8 w_1 => 
 pur Try.prog (Instr.extract t8 0) fun t9 => 
 pur Try.prog (Instr.extract t8 1) fun t10 => 
 callS Try.prog 33 #[v_r, (.int .i64 1)] (fun _ w_2 => 
 Q (.tuple #[t9, t10]) w_2) w_1) w
theorem eq20 (v_r : Value) (Q : Value → World → Prop) (w : World) : semF Try.prog 20 [v_r] Q w = S20 v_r Q w := by kernel_rfl
theorem ref20 {v_r : Value} {Q : Value → World → Prop} {w : World} (h : S20 v_r Q w) : callS Try.prog 20 #[v_r] Q w :=
  callS_of mix (fun a w => Try.call20 a w) (by kernel_rfl) (by rw [eq20]; exact h)
-- (*commons/ring.Ring[int]).Push
def S21 (v_r v_l : Value) (Q : Value → World → Prop) (w : World) : Prop :=
 pur Try.prog (Builtin.len_ #[22] 3 #[v_l]) fun t7 => 
 callS Try.prog 19 #[v_r] (fun t9 w_1 => 
 pur Try.prog (Builtin.min_ #[3, 3] 3 #[t7, t9]) fun t10 => 
 jn 0 (fun J => 
  pur Try.prog (binS .gtr 3 false true t10 (.int .i64 0)) fun t12 => 
  condS t12
   (pur Try.prog (nilV v_r) fun t15 => 
   pur Try.prog (Instr.fieldAt 56 t15 0) fun t16 => 
   rd Try.prog (Instr.loadAt 22 t16) (fun t17 => 
   pur Try.prog (Instr.sliceAt 22 v_l none (some t10) none) fun t20 => 
   act Try.prog (Builtin.append_ #[22, 22] 22 #[t17, t20]) (fun t21 w_2 => 
   pur Try.prog (nilV v_r) fun t22 => 
   pur Try.prog (Instr.fieldAt 56 t22 0) fun t23 => 
   act Try.prog (thenU (Instr.storeAt 22 t23 t21)) (fun _ w_3 => 
   J  w_3) w_2) (World.drew w_1)) (World.drew w_1))
   (J  w_1))
 (fun  w_4 => ∀ _j : Fr, 
  Q t10 w_4)) w
theorem eq21 (v_r v_l : Value) (Q : Value → World → Prop) (w : World) : semF Try.prog 21 [v_r, v_l] Q w = S21 v_r v_l Q w := by kernel_rfl
theorem ref21 {v_r v_l : Value} {Q : Value → World → Prop} {w : World} (h : S21 v_r v_l Q w) : callS Try.prog 21 #[v_r, v_l] Q w :=
  callS_of mix (fun a w => Try.call21 a w) (by kernel_rfl) (by rw [eq21]; exact h)
-- (*commons/ring.Ring[int]).List
def S22 (v_r : Value) (Q : Value → World → Prop) (w : World) : Prop :=
 rd Try.prog (binS .eql 42 false true v_r (.pointer none)) (fun t4 => 
 condS t4
  (Q (.slice none 0 0) w)
  (pur Try.prog (nilV v_r) fun t6 => 
 pur Try.prog (Instr.fieldAt 56 t6 0) fun t7 => 
 rd Try.prog (Instr.loadAt 22 t7) (fun t8 => 
 act Try.prog (Builtin.append_ #[22, 22] 22 #[(.slice none 0 0), t8]) (fun t9 w_1 => 
 Q t9 w_1) w) w)) w
theorem eq22 (v_r : Value) (Q : Value → World → Prop) (w : World) : semF Try.prog 22 [v_r] Q w = S22 v_r Q w := by kernel_rfl
theorem ref22 {v_r : Value} {Q : Value → World → Prop} {w : World} (h : S22 v_r Q w) : callS Try.prog 22 #[v_r] Q w :=
  callS_of mix (fun a w => Try.call22 a w) (by kernel_rfl) (by rw [eq22]; exact h)
-- (*commons/ring.Ring[int]).Len
def S23 (v_r : Value) (Q : Value → World → Prop) (w : World) : Prop :=
 rd Try.prog (binS .eql 42 false true v_r (.pointer none)) (fun t4 => 
 condS t4
  (Q (.int .i64 0) w)
  (pur Try.prog (nilV v_r) fun t6 => 
 pur Try.prog (Instr.fieldAt 56 t6 0) fun t7 => 
 rd Try.prog (Instr.loadAt 22 t7) (fun t8 => 
 pur Try.prog (Builtin.len_ #[22] 3 #[t8]) fun t9 => 
 Q t9 w) w)) w
theorem eq23 (v_r : Value) (Q : Value → World → Prop) (w : World) : semF Try.prog 23 [v_r] Q w = S23 v_r Q w := by kernel_rfl
theorem ref23 {v_r : Value} {Q : Value → World → Prop} {w : World} (h : S23 v_r Q w) : callS Try.prog 23 #[v_r] Q w :=
  callS_of mix (fun a w => Try.call23 a w) (by kernel_rfl) (by rw [eq23]; exact h)
-- (*commons/lease.Mine).none
def S24 (v_m : Value) (Q : Value → World → Prop) (w : World) : Prop :=
 rd Try.prog (binS .eql 26 false true v_m (.pointer none)) (fun t4 => 
 gd t4 false (fun k w_1 => k v_m w_1) (fun t6_1 w_2 => 
 gd t4 false (fun k_1 w_3 => pur Try.prog (nilV t6_1) fun t7 => k_1 t7 w_3) (fun t7_1 w_4 => 
 gd t4 false (fun k_2 w_5 => pur Try.prog (Instr.fieldAt 47 t7_1 1) fun t8 => k_2 t8 w_5) (fun t8_1 w_6 => 
 gd t4 false (fun k_3 w_7 => rd Try.prog (Instr.loadAt 45 t8_1) (fun t9 => k_3 t9 w_7) w_7) (fun t9_1 w_8 => 
 gd t4 false (fun k_4 w_9 => rd Try.prog (binS .eql 45 false true t9_1 (.map none)) (fun t10 => k_4 t10 w_9) w_9) (fun t10_1 w_10 => 
 pur Try.prog (pickS t4 (.bool true) t10_1) fun t11 => 
 Q t11 w_10) w_8) w_6) w_4) w_2) w) w
theorem eq24 (v_m : Value) (Q : Value → World → Prop) (w : World) : semF Try.prog 24 [v_m] Q w = S24 v_m Q w := by kernel_rfl
theorem ref24 {v_m : Value} {Q : Value → World → Prop} {w : World} (h : S24 v_m Q w) : callS Try.prog 24 #[v_m] Q w :=
  callS_of mix (fun a w => Try.call24 a w) (by kernel_rfl) (by rw [eq24]; exact h)
-- commons/lease.left
def S25 (v_at v_now : Value) (Q : Value → World → Prop) (w : World) : Prop :=
 pur Try.prog (binS .geq 3 false false v_now v_at) fun t7 => 
 condS t7
  (Q (.int .i64 0) w)
  (pur Try.prog (convert 3 57 v_at) fun t9 => 
 pur Try.prog (convert 3 57 v_now) fun t11 => 
 pur Try.prog (binS .sub 57 false false t9 t11) fun t12 => 
 pur Try.prog (Builtin.min_ #[57, 57] 57 #[t12, (.int .u64 9223372036854775807)]) fun t13 => 
 pur Try.prog (convert 57 3 t13) fun t14 => 
 Q t14 w)
theorem eq25 (v_at v_now : Value) (Q : Value → World → Prop) (w : World) : semF Try.prog 25 [v_at, v_now] Q w = S25 v_at v_now Q w := by kernel_rfl
theorem ref25 {v_at v_now : Value} {Q : Value → World → Prop} {w : World} (h : S25 v_at v_now Q w) : callS Try.prog 25 #[v_at, v_now] Q w :=
  callS_of mix (fun a w => Try.call25 a w) (by kernel_rfl) (by rw [eq25]; exact h)
-- (*commons/lease.Table).none
def S26 (v_t : Value) (Q : Value → World → Prop) (w : World) : Prop :=
 rd Try.prog (binS .eql 28 false true v_t (.pointer none)) (fun t4 => 
 gd t4 false (fun k w_1 => k v_t w_1) (fun t6_1 w_2 => 
 gd t4 false (fun k_1 w_3 => pur Try.prog (nilV t6_1) fun t7 => k_1 t7 w_3) (fun t7_1 w_4 => 
 gd t4 false (fun k_2 w_5 => pur Try.prog (Instr.fieldAt 49 t7_1 1) fun t8 => k_2 t8 w_5) (fun t8_1 w_6 => 
 gd t4 false (fun k_3 w_7 => rd Try.prog (Instr.loadAt 45 t8_1) (fun t9 => k_3 t9 w_7) w_7) (fun t9_1 w_8 => 
 gd t4 false (fun k_4 w_9 => rd Try.prog (binS .eql 45 false true t9_1 (.map none)) (fun t10 => k_4 t10 w_9) w_9) (fun t10_1 w_10 => 
 pur Try.prog (pickS t4 (.bool true) t10_1) fun t11 => 
 Q t11 w_10) w_8) w_6) w_4) w_2) w) w
theorem eq26 (v_t : Value) (Q : Value → World → Prop) (w : World) : semF Try.prog 26 [v_t] Q w = S26 v_t Q w := by kernel_rfl
theorem ref26 {v_t : Value} {Q : Value → World → Prop} {w : World} (h : S26 v_t Q w) : callS Try.prog 26 #[v_t] Q w :=
  callS_of mix (fun a w => Try.call26 a w) (by kernel_rfl) (by rw [eq26]; exact h)
-- commons/lease.behind
def S27 (v_now v_n : Value) (Q : Value → World → Prop) (w : World) : Prop :=
 pur Try.prog (binS .sub 3 true false (.int .i64 9223372036854775807) v_n) fun t7 => 
 pur Try.prog (binS .gtr 3 false false v_now t7) fun t8 => 
 condS t8
  (Q (.int .i64 9223372036854775807) w)
  (pur Try.prog (binS .add 3 false false v_now v_n) fun t11 => 
 Q t11 w)
theorem eq27 (v_now v_n : Value) (Q : Value → World → Prop) (w : World) : semF Try.prog 27 [v_now, v_n] Q w = S27 v_now v_n Q w := by kernel_rfl
theorem ref27 {v_now v_n : Value} {Q : Value → World → Prop} {w : World} (h : S27 v_now v_n Q w) : callS Try.prog 27 #[v_now, v_n] Q w :=
  callS_of mix (fun a w => Try.call27 a w) (by kernel_rfl) (by rw [eq27]; exact h)
-- slices.DeleteFunc[[]int,int]
def S28 (v_s v_del : Value) (Q : Value → World → Prop) (w : World) : Prop :=
 callS Try.prog 34 #[v_s, v_del] (fun t10 w_1 => 
 pur Try.prog (binS .eql 3 false true t10 (.int .i64 (-1))) fun t12 => 
 condS t12
  (Q v_s w_1)
  (pur Try.prog (binS .add 3 false true t10 (.int .i64 1)) fun t15 => 
 lp 2 (fun J => fun v_i v_j w_2 => ∀ _j : Fr, 
  pur Try.prog (Builtin.len_ #[22] 3 #[v_s]) fun t18 => 
  pur Try.prog (binS .lss 3 false false v_j t18) fun t19 => 
  condS t19
   (jn 1 (fun J_1 => 
   pur Try.prog (Instr.indexAt 22 v_s v_j) fun t24 => 
   rd Try.prog (Instr.loadAt 3 t24) (fun t25 => 
   callF Try.prog v_del #[t25] (fun t28 w_3 => 
   pur Try.prog (Op.unary .not t28) fun t29 => 
   condS t29
    (pur Try.prog (Instr.indexAt 22 v_s v_i) fun t33 => 
    act Try.prog (thenU (Instr.storeAt 3 t33 t25)) (fun _ w_4 => 
    pur Try.prog (binS .add 3 false true v_i (.int .i64 1)) fun t35 => 
    J_1 t35 w_4) w_3)
    (J_1 v_i w_3)) w_2) w_2)
  (fun v_i_1 w_5 => ∀ _j : Fr, 
   pur Try.prog (binS .add 3 false true v_j (.int .i64 1)) fun t21 => 
   J v_i_1 t21 w_5))
   (pur Try.prog (Instr.sliceAt 22 v_s (some v_i) none none) fun t38 => 
 act Try.prog (Builtin.clear_ #[22] 0 #[t38]) (fun _ w_6 => 
 pur Try.prog (Instr.sliceAt 22 v_s none (some v_i) none) fun t41 => 
 Q t41 w_6) w_2)) [t10, t15] w_1)) w
theorem eq28 (v_s v_del : Value) (Q : Value → World → Prop) (w : World) : semF Try.prog 28 [v_s, v_del] Q w = S28 v_s v_del Q w := by kernel_rfl
theorem ref28 {v_s v_del : Value} {Q : Value → World → Prop} {w : World} (h : S28 v_s v_del Q w) : callS Try.prog 28 #[v_s, v_del] Q w :=
  callS_of mix (fun a w => Try.call28 a w) (by kernel_rfl) (by rw [eq28]; exact h)
-- (*commons/lease.Table).Nodes
def S29 (v_t : Value) (Q : Value → World → Prop) (w : World) : Prop :=
 callS Try.prog 26 #[v_t] (fun t4 w_1 => 
 condS t4
  (Q (.slice none 0 0) w_1)
  (pur Try.prog (nilV v_t) fun t6 => 
 pur Try.prog (Instr.fieldAt 49 t6 1) fun t7 => 
 rd Try.prog (Instr.loadAt 45 t7) (fun t8 => 
 callS Try.prog 36 #[t8] (fun t9 w_2 => 
 callS Try.prog 35 #[t9] (fun t10 w_3 => 
 Q t10 w_3) w_2) w_1) w_1)) w
theorem eq29 (v_t : Value) (Q : Value → World → Prop) (w : World) : semF Try.prog 29 [v_t] Q w = S29 v_t Q w := by kernel_rfl
theorem ref29 {v_t : Value} {Q : Value → World → Prop} {w : World} (h : S29 v_t Q w) : callS Try.prog 29 #[v_t] Q w :=
  callS_of mix (fun a w => Try.call29 a w) (by kernel_rfl) (by rw [eq29]; exact h)
-- (*commons/lease.Table).Late$1
def S30 (v_node t1 t2 : Value) (Q : Value → World → Prop) (w : World) : Prop :=
 rd Try.prog (Instr.loadAt 28 t1) (fun t5 => 
 pur Try.prog (nilV t5) fun t6 => 
 pur Try.prog (Instr.fieldAt 49 t6 1) fun t7 => 
 rd Try.prog (Instr.loadAt 45 t7) (fun t8 => 
 rd Try.prog (Instr.lookup 45 t8 v_node false) (fun t10 => 
 rd Try.prog (Instr.loadAt 3 t2) (fun t11 => 
 pur Try.prog (binS .gtr 3 false false t10 t11) fun t12 => 
 Q t12 (World.drew w)) (World.drew w)) (World.drew w)) (World.drew w)) (World.drew w)
theorem eq30 (v_node t1 t2 : Value) (Q : Value → World → Prop) (w : World) : semF Try.prog 30 [v_node, t1, t2] Q w = S30 v_node t1 t2 Q w := by kernel_rfl
theorem ref30 {v_node t1 t2 : Value} {Q : Value → World → Prop} {w : World} (h : S30 v_node t1 t2 Q w) : callS Try.prog 30 #[v_node, t1, t2] Q w :=
  callS_of mix (fun a w => Try.call30 a w) (by kernel_rfl) (by rw [eq30]; exact h)
-- commons/ring.room
def S31 (v_n : Value) (Q : Value → World → Prop) (w : World) : Prop :=
 pur Try.prog (Builtin.max_ #[3, 3] 3 #[v_n, (.int .i64 0)]) fun t4 => 
 pur Try.prog (Builtin.min_ #[3, 3] 3 #[t4, (.int .i64 100000)]) fun t5 => 
 Q t5 w
theorem eq31 (v_n : Value) (Q : Value → World → Prop) (w : World) : semF Try.prog 31 [v_n] Q w = S31 v_n Q w := by kernel_rfl
theorem ref31 {v_n : Value} {Q : Value → World → Prop} {w : World} (h : S31 v_n Q w) : callS Try.prog 31 #[v_n] Q w :=
  callS_of mix (fun a w => Try.call31 a w) (by kernel_rfl) (by rw [eq31]; exact h)
-- (*commons/ring.Ring[int]).Peek
def S32 (v_r v_k : Value) (Q : Value → World → Prop) (w : World) : Prop :=
 pur Try.prog (binS .lss 3 false true v_k (.int .i64 0)) fun t8 => 
 gd t8 false (fun k w_1 => k v_k w_1) (fun t10_1 w_2 => 
 gd t8 false (fun k_1 w_3 => k_1 v_r w_3) (fun t11_1 w_4 => 
 gd t8 false (fun k_2 w_5 => callS Try.prog 23 #[t11_1] (fun t12 w_6 => k_2 t12 w_6) w_5) (fun t12_1 w_7 => 
 gd t8 false (fun k_3 w_8 => pur Try.prog (binS .geq 3 false false t10_1 t12_1) fun t13 => k_3 t13 w_8) (fun t13_1 w_9 => 
 pur Try.prog (pickS t8 (.bool true) t13_1) fun t14 => 
 condS t14
  (Q (.tuple #[(.int .i64 0), (.bool false)]) w_9)
  (pur Try.prog (nilV v_r) fun t17 => 
 pur Try.prog (Instr.fieldAt 56 t17 0) fun t18 => 
 rd Try.prog (Instr.loadAt 22 t18) (fun t19 => 
 pur Try.prog (Instr.indexAt 22 t19 v_k) fun t21 => 
 rd Try.prog (Instr.loadAt 3 t21) (fun t22 => 
 Q (.tuple #[t22, (.bool true)]) w_9) w_9) w_9)) w_7) w_4) w_2) w
theorem eq32 (v_r v_k : Value) (Q : Value → World → Prop) (w : World) : semF Try.prog 32 [v_r, v_k] Q w = S32 v_r v_k Q w := by kernel_rfl
theorem ref32 {v_r v_k : Value} {Q : Value → World → Prop} {w : World} (h : S32 v_r v_k Q w) : callS Try.prog 32 #[v_r, v_k] Q w :=
  callS_of mix (fun a w => Try.call32 a w) (by kernel_rfl) (by rw [eq32]; exact h)
-- (*commons/ring.Ring[int]).Drop
def S33 (v_r v_n : Value) (Q : Value → World → Prop) (w : World) : Prop :=
 pur Try.prog (Builtin.max_ #[3, 3] 3 #[v_n, (.int .i64 0)]) fun t6 => 
 callS Try.prog 23 #[v_r] (fun t8 w_1 => 
 pur Try.prog (Builtin.min_ #[3, 3] 3 #[t6, t8]) fun t9 => 
 jn 0 (fun J => 
  pur Try.prog (binS .gtr 3 false true t9 (.int .i64 0)) fun t11 => 
  condS t11
   (pur Try.prog (nilV v_r) fun t14 => 
   pur Try.prog (Instr.fieldAt 56 t14 0) fun t15 => 
   rd Try.prog (Instr.loadAt 22 t15) (fun t16 => 
   pur Try.prog (Instr.sliceAt 22 t16 (some t9) none none) fun t18 => 
   act Try.prog (Builtin.append_ #[22, 22] 22 #[(.slice none 0 0), t18]) (fun t19 w_2 => 
   pur Try.prog (nilV v_r) fun t20 => 
   pur Try.prog (Instr.fieldAt 56 t20 0) fun t21 => 
   act Try.prog (thenU (Instr.storeAt 22 t21 t19)) (fun _ w_3 => 
   J  w_3) w_2) w_1) w_1)
   (J  w_1))
 (fun  w_4 => ∀ _j : Fr, 
  Q t9 w_4)) w
theorem eq33 (v_r v_n : Value) (Q : Value → World → Prop) (w : World) : semF Try.prog 33 [v_r, v_n] Q w = S33 v_r v_n Q w := by kernel_rfl
theorem ref33 {v_r v_n : Value} {Q : Value → World → Prop} {w : World} (h : S33 v_r v_n Q w) : callS Try.prog 33 #[v_r, v_n] Q w :=
  callS_of mix (fun a w => Try.call33 a w) (by kernel_rfl) (by rw [eq33]; exact h)
-- slices.IndexFunc[[]int,int]
def S34 (v_s v_f : Value) (Q : Value → World → Prop) (w : World) : Prop :=
 pur Try.prog (Builtin.len_ #[22] 3 #[v_s]) fun t7 => 
 lp 1 (fun J => fun t8 w_1 => ∀ _j : Fr, 
  pur Try.prog (binS .lss 3 false false t8 t7) fun t9 => 
  condS t9
   (pur Try.prog (Instr.indexAt 22 v_s t8) fun t14 => 
  rd Try.prog (Instr.loadAt 3 t14) (fun t15 => 
  callF Try.prog v_f #[t15] (fun t16 w_2 => 
  condS t16
   (Q t8 w_2)
   (pur Try.prog (binS .add 3 false true t8 (.int .i64 1)) fun t18 => 
  J t18 w_2)) w_1) w_1)
   (Q (.int .i64 (-1)) w_1)) [(.int .i64 0)] w
theorem eq34 (v_s v_f : Value) (Q : Value → World → Prop) (w : World) : semF Try.prog 34 [v_s, v_f] Q w = S34 v_s v_f Q w := by kernel_rfl
theorem ref34 {v_s v_f : Value} {Q : Value → World → Prop} {w : World} (h : S34 v_s v_f Q w) : callS Try.prog 34 #[v_s, v_f] Q w :=
  callS_of mix (fun a w => Try.call34 a w) (by kernel_rfl) (by rw [eq34]; exact h)
-- slices.Sorted[int]
def S35 (v_seq : Value) (Q : Value → World → Prop) (w : World) : Prop :=
 callS Try.prog 37 #[v_seq] (fun t5 w_1 => 
 callS Try.prog 38 #[t5] (fun _ w_2 => 
 Q t5 w_2) w_1) w
theorem eq35 (v_seq : Value) (Q : Value → World → Prop) (w : World) : semF Try.prog 35 [v_seq] Q w = S35 v_seq Q w := by kernel_rfl
theorem ref35 {v_seq : Value} {Q : Value → World → Prop} {w : World} (h : S35 v_seq Q w) : callS Try.prog 35 #[v_seq] Q w :=
  callS_of mix (fun a w => Try.call35 a w) (by kernel_rfl) (by rw [eq35]; exact h)
-- maps.Keys[map[int]int,int,int]
def S36 (v_m : Value) (Q : Value → World → Prop) (w : World) : Prop :=
 act Try.prog (Instr.box 45 v_m) (fun t1 w_1 => 
 pur Try.prog (pure (.func (.func 39) #[] #[t1])) fun t3 => 
 Q t3 w_1) w
theorem eq36 (v_m : Value) (Q : Value → World → Prop) (w : World) : semF Try.prog 36 [v_m] Q w = S36 v_m Q w := by kernel_rfl
theorem ref36 {v_m : Value} {Q : Value → World → Prop} {w : World} (h : S36 v_m Q w) : callS Try.prog 36 #[v_m] Q w :=
  callS_of mix (fun a w => Try.call36 a w) (by kernel_rfl) (by rw [eq36]; exact h)
-- slices.Collect[int]
def S37 (v_seq : Value) (Q : Value → World → Prop) (w : World) : Prop :=
 callS Try.prog 40 #[(.slice none 0 0), v_seq] (fun t4 w_1 => 
 Q t4 w_1) w
theorem eq37 (v_seq : Value) (Q : Value → World → Prop) (w : World) : semF Try.prog 37 [v_seq] Q w = S37 v_seq Q w := by kernel_rfl
theorem ref37 {v_seq : Value} {Q : Value → World → Prop} {w : World} (h : S37 v_seq Q w) : callS Try.prog 37 #[v_seq] Q w :=
  callS_of mix (fun a w => Try.call37 a w) (by kernel_rfl) (by rw [eq37]; exact h)
-- slices.Sort[[]int,int]
def S38 (v_x : Value) (Q : Value → World → Prop) (w : World) : Prop :=
 pur Try.prog (Builtin.len_ #[22] 3 #[v_x]) fun t4 => 
 pur Try.prog (convert 3 67 t4) fun t8 => 
 callS Try.prog 42 #[t8] (fun t9 w_1 => 
 callS Try.prog 41 #[v_x, (.int .i64 0), t4, t9] (fun _ w_2 => 
 Q (.tuple #[]) w_2) w_1) w
theorem eq38 (v_x : Value) (Q : Value → World → Prop) (w : World) : semF Try.prog 38 [v_x] Q w = S38 v_x Q w := by kernel_rfl
theorem ref38 {v_x : Value} {Q : Value → World → Prop} {w : World} (h : S38 v_x Q w) : callS Try.prog 38 #[v_x] Q w :=
  callS_of mix (fun a w => Try.call38 a w) (by kernel_rfl) (by rw [eq38]; exact h)
-- maps.Keys[map[int]int,int,int]$1
def S39 (v_yield t1 : Value) (Q : Value → World → Prop) (w : World) : Prop :=
 rd Try.prog (Instr.loadAt 45 t1) (fun t4 => 
 act Try.prog (Instr.range 45 t4) (fun t5 w_1 => 
 lp 0 (fun J => fun  w_2 => ∀ _j : Fr, 
  act Try.prog (Instr.next t5 false 0) (fun t6 w_3 => 
  pur Try.prog (Instr.extract t6 0) fun t7 => 
  condS t7
   (rd Try.prog (Instr.entry t5) (fun t8 => 
  pur Try.prog (Instr.extract t8 0) fun t9 => 
  callF Try.prog v_yield #[t9] (fun t12 w_4 => 
  pur Try.prog (Op.unary .not t12) fun t13 => 
  condS t13
   (Q (.tuple #[]) w_4)
   (J  w_4)) w_3) w_3)
   (Q (.tuple #[]) w_3)) w_2) [] w_1) w) w
theorem eq39 (v_yield t1 : Value) (Q : Value → World → Prop) (w : World) : semF Try.prog 39 [v_yield, t1] Q w = S39 v_yield t1 Q w := by kernel_rfl
theorem ref39 {v_yield t1 : Value} {Q : Value → World → Prop} {w : World} (h : S39 v_yield t1 Q w) : callS Try.prog 39 #[v_yield, t1] Q w :=
  callS_of mix (fun a w => Try.call39 a w) (by kernel_rfl) (by rw [eq39]; exact h)
-- slices.pdqsortOrdered[int]
def S41 (v_data v_a v_b v_limit : Value) (Q : Value → World → Prop) (w : World) : Prop :=
 lp 5 (fun J => fun v_a_1 v_b_1 v_limit_1 v_wasBalanced v_wasPartitioned w_1 => ∀ _j : Fr, 
  pur Try.prog (binS .sub 3 false false v_b_1 v_a_1) fun t21 => 
  pur Try.prog (binS .leq 3 false true t21 (.int .i64 12)) fun t23 => 
  condS t23
   (callS Try.prog 43 #[v_data, v_a_1, v_b_1] (fun _ w_2 => 
   Q (.tuple #[]) w_2) w_1)
   (pur Try.prog (binS .eql 3 false true v_limit_1 (.int .i64 0)) fun t29 => 
  condS t29
   (callS Try.prog 44 #[v_data, v_a_1, v_b_1] (fun _ w_3 => 
   Q (.tuple #[]) w_3) w_1)
   (jn 1 (fun J_1 => 
   pur Try.prog (Op.unary .not v_wasBalanced) fun t35 => 
   condS t35
    (callS Try.prog 45 #[v_data, v_a_1, v_b_1] (fun _ w_4 => 
    pur Try.prog (binS .sub 3 false true v_limit_1 (.int .i64 1)) fun t41 => 
    J_1 t41 w_4) w_1)
    (J_1 v_limit_1 w_1))
  (fun v_limit_2 w_5 => ∀ _j : Fr, 
   callS Try.prog 46 #[v_data, v_a_1, v_b_1] (fun t46 w_6 => 
   pur Try.prog (Instr.extract t46 0) fun t47 => 
   pur Try.prog (Instr.extract t46 1) fun t48 => 
   jn 2 (fun J_2 => 
    pur Try.prog (binS .eql 69 false true t48 (.int .i64 2)) fun t50 => 
    condS t50
     (callS Try.prog 47 #[v_data, v_a_1, v_b_1] (fun _ w_7 => 
     pur Try.prog (binS .sub 3 false true v_b_1 (.int .i64 1)) fun t56 => 
     pur Try.prog (binS .sub 3 false false t47 v_a_1) fun t59 => 
     pur Try.prog (binS .sub 3 false false t56 t59) fun t60 => 
     J_2 t60 (.int .i64 1) w_7) w_6)
     (J_2 t47 t48 w_6))
   (fun v_pivot v_hint w_8 => ∀ _j : Fr, 
    jn 0 (fun J_3 => 
     gd v_wasBalanced true (fun k w_9 => k v_wasPartitioned w_9) (fun t63_1 w_10 => 
     pur Try.prog (pickS v_wasBalanced t63_1 (.bool false)) fun t64 => 
     gd t64 true (fun k_1 w_11 => k_1 v_hint w_11) (fun t66_1 w_12 => 
     gd t64 true (fun k_2 w_13 => pur Try.prog (binS .eql 69 false true t66_1 (.int .i64 1)) fun t67 => k_2 t67 w_13) (fun t67_1 w_14 => 
     pur Try.prog (pickS t64 t67_1 (.bool false)) fun t68 => 
     condS t68
      (callS Try.prog 48 #[v_data, v_a_1, v_b_1] (fun t72 w_15 => 
      condS t72
       (Q (.tuple #[]) w_15)
       (J_3  w_15)) w_14)
      (J_3  w_14)) w_12) w_10) w_8)
    (fun  w_16 => ∀ _j : Fr, 
     pur Try.prog (binS .gtr 3 false true v_a_1 (.int .i64 0)) fun t74 => 
     gd t74 true (fun k_3 w_17 => k_3 v_data w_17) (fun t76_1 w_18 => 
     gd t74 true (fun k_4 w_19 => k_4 v_a_1 w_19) (fun t77_1 w_20 => 
     gd t74 true (fun k_5 w_21 => pur Try.prog (binS .sub 3 false true t77_1 (.int .i64 1)) fun t78 => k_5 t78 w_21) (fun t78_1 w_22 => 
     gd t74 true (fun k_6 w_23 => pur Try.prog (Instr.indexAt 22 t76_1 t78_1) fun t79 => k_6 t79 w_23) (fun t79_1 w_24 => 
     gd t74 true (fun k_7 w_25 => rd Try.prog (Instr.loadAt 3 t79_1) (fun t80 => k_7 t80 w_25) w_25) (fun t80_1 w_26 => 
     gd t74 true (fun k_8 w_27 => k_8 v_data w_27) (fun t81_1 w_28 => 
     gd t74 true (fun k_9 w_29 => k_9 v_pivot w_29) (fun t82_1 w_30 => 
     gd t74 true (fun k_10 w_31 => pur Try.prog (Instr.indexAt 22 t81_1 t82_1) fun t83 => k_10 t83 w_31) (fun t83_1 w_32 => 
     gd t74 true (fun k_11 w_33 => rd Try.prog (Instr.loadAt 3 t83_1) (fun t84 => k_11 t84 w_33) w_33) (fun t84_1 w_34 => 
     gd t74 true (fun k_12 w_35 => callS Try.prog 49 #[t80_1, t84_1] (fun t85 w_36 => k_12 t85 w_36) w_35) (fun t85_1 w_37 => 
     gd t74 true (fun k_13 w_38 => pur Try.prog (Op.unary .not t85_1) fun t86 => k_13 t86 w_38) (fun t86_1 w_39 => 
     pur Try.prog (pickS t74 t86_1 (.bool false)) fun t87 => 
     condS t87
      (callS Try.prog 50 #[v_data, v_a_1, v_b_1, v_pivot] (fun t92 w_40 => 
      J t92 v_b_1 v_limit_2 v_wasBalanced v_wasPartitioned w_40) w_39)
      (callS Try.prog 51 #[v_data, v_a_1, v_b_1, v_pivot] (fun t99 w_41 => 
     pur Try.prog (Instr.extract t99 0) fun t100 => 
     pur Try.prog (Instr.extract t99 1) fun t101 => 
     pur Try.prog (binS .sub 3 false false t100 v_a_1) fun t105 => 
     pur Try.prog (binS .sub 3 false false v_b_1 t100) fun t108 => 
     pur Try.prog (binS .quo 3 false true t21 (.int .i64 8)) fun t110 => 
     pur Try.prog (binS .lss 3 false false t105 t108) fun t113 => 
     condS t113
      (pur Try.prog (binS .geq 3 false false t105 t110) fun t116 => 
      callS Try.prog 41 #[v_data, v_a_1, t100, v_limit_2] (fun _ w_42 => 
      pur Try.prog (binS .add 3 false true t100 (.int .i64 1)) fun t123 => 
      J t123 v_b_1 v_limit_2 t116 t101 w_42) w_41)
      (pur Try.prog (binS .geq 3 false false t108 t110) fun t126 => 
      pur Try.prog (binS .add 3 false true t100 (.int .i64 1)) fun t129 => 
      callS Try.prog 41 #[v_data, t129, v_b_1, v_limit_2] (fun _ w_43 => 
      J v_a_1 t100 v_limit_2 t126 t101 w_43) w_41)) w_39)) w_37) w_34) w_32) w_30) w_28) w_26) w_24) w_22) w_20) w_18) (World.drew w_16)))) w_5)))) [v_a, v_b, v_limit, (.bool true), (.bool true)] w
theorem eq41 (v_data v_a v_b v_limit : Value) (Q : Value → World → Prop) (w : World) : semF Try.prog 41 [v_data, v_a, v_b, v_limit] Q w = S41 v_data v_a v_b v_limit Q w := by kernel_rfl
theorem ref41 {v_data v_a v_b v_limit : Value} {Q : Value → World → Prop} {w : World} (h : S41 v_data v_a v_b v_limit Q w) : callS Try.prog 41 #[v_data, v_a, v_b, v_limit] Q w :=
  callS_of mix (fun a w => Try.call41 a w) (by kernel_rfl) (by rw [eq41]; exact h)
-- math/bits.Len
def S42 (v_x : Value) (Q : Value → World → Prop) (w : World) : Prop :=
 condS (.bool false)
  (pur Try.prog (convert 67 76 v_x) fun t4 => 
  callS Try.prog 52 #[t4] (fun t5 w_1 => 
  Q t5 w_1) w)
  (callS Try.prog 53 #[v_x] (fun t7 w_2 => 
 Q t7 w_2) w)
theorem eq42 (v_x : Value) (Q : Value → World → Prop) (w : World) : semF Try.prog 42 [v_x] Q w = S42 v_x Q w := by kernel_rfl
theorem ref42 {v_x : Value} {Q : Value → World → Prop} {w : World} (h : S42 v_x Q w) : callS Try.prog 42 #[v_x] Q w :=
  callS_of mix (fun a w => Try.call42 a w) (by kernel_rfl) (by rw [eq42]; exact h)
-- slices.insertionSortOrdered[int]
def S43 (v_data v_a v_b : Value) (Q : Value → World → Prop) (w : World) : Prop :=
 pur Try.prog (binS .add 3 false true v_a (.int .i64 1)) fun t9 => 
 lp 1 (fun J => fun v_i w_1 => ∀ _j : Fr, 
  pur Try.prog (binS .lss 3 false false v_i v_b) fun t12 => 
  condS t12
   (lp 1 (fun J_1 => fun v_j w_2 => ∀ _j : Fr, 
   pur Try.prog (binS .gtr 3 false false v_j v_a) fun t18 => 
   gd t18 true (fun k w_3 => k v_data w_3) (fun t20_1 w_4 => 
   gd t18 true (fun k_1 w_5 => k_1 v_j w_5) (fun t21_1 w_6 => 
   gd t18 true (fun k_2 w_7 => pur Try.prog (Instr.indexAt 22 t20_1 t21_1) fun t22 => k_2 t22 w_7) (fun t22_1 w_8 => 
   gd t18 true (fun k_3 w_9 => rd Try.prog (Instr.loadAt 3 t22_1) (fun t23 => k_3 t23 w_9) w_9) (fun t23_1 w_10 => 
   gd t18 true (fun k_4 w_11 => k_4 v_data w_11) (fun t24_1 w_12 => 
   gd t18 true (fun k_5 w_13 => k_5 v_j w_13) (fun t25_1 w_14 => 
   gd t18 true (fun k_6 w_15 => pur Try.prog (binS .sub 3 false true t25_1 (.int .i64 1)) fun t26 => k_6 t26 w_15) (fun t26_1 w_16 => 
   gd t18 true (fun k_7 w_17 => pur Try.prog (Instr.indexAt 22 t24_1 t26_1) fun t27 => k_7 t27 w_17) (fun t27_1 w_18 => 
   gd t18 true (fun k_8 w_19 => rd Try.prog (Instr.loadAt 3 t27_1) (fun t28 => k_8 t28 w_19) w_19) (fun t28_1 w_20 => 
   gd t18 true (fun k_9 w_21 => callS Try.prog 49 #[t23_1, t28_1] (fun t29 w_22 => k_9 t29 w_22) w_21) (fun t29_1 w_23 => 
   pur Try.prog (pickS t18 t29_1 (.bool false)) fun t30 => 
   condS t30
    (pur Try.prog (binS .sub 3 false true v_j (.int .i64 1)) fun t37 => 
   pur Try.prog (binS .sub 3 false true v_j (.int .i64 1)) fun t40 => 
   pur Try.prog (Instr.indexAt 22 v_data t40) fun t41 => 
   rd Try.prog (Instr.loadAt 3 t41) (fun t42 => 
   pur Try.prog (Instr.indexAt 22 v_data v_j) fun t45 => 
   rd Try.prog (Instr.loadAt 3 t45) (fun t46 => 
   pur Try.prog (Instr.indexAt 22 v_data v_j) fun t47 => 
   act Try.prog (thenU (Instr.storeAt 3 t47 t42)) (fun _ w_24 => 
   pur Try.prog (Instr.indexAt 22 v_data t37) fun t48 => 
   act Try.prog (thenU (Instr.storeAt 3 t48 t46)) (fun _ w_25 => 
   pur Try.prog (binS .sub 3 false true v_j (.int .i64 1)) fun t32 => 
   J_1 t32 w_25) w_24) (World.drew w_23)) (World.drew w_23)) (World.drew w_23))
    (pur Try.prog (binS .add 3 false true v_i (.int .i64 1)) fun t14 => 
  J t14 w_23)) w_20) w_18) w_16) w_14) w_12) w_10) w_8) w_6) w_4) (World.drew w_2)) [v_i] w_1)
   (Q (.tuple #[]) w_1)) [t9] w
theorem eq43 (v_data v_a v_b : Value) (Q : Value → World → Prop) (w : World) : semF Try.prog 43 [v_data, v_a, v_b] Q w = S43 v_data v_a v_b Q w := by kernel_rfl
theorem ref43 {v_data v_a v_b : Value} {Q : Value → World → Prop} {w : World} (h : S43 v_data v_a v_b Q w) : callS Try.prog 43 #[v_data, v_a, v_b] Q w :=
  callS_of mix (fun a w => Try.call43 a w) (by kernel_rfl) (by rw [eq43]; exact h)
-- slices.heapSortOrdered[int]
def S44 (v_data v_a v_b : Value) (Q : Value → World → Prop) (w : World) : Prop :=
 pur Try.prog (binS .sub 3 false false v_b v_a) fun t14 => 
 pur Try.prog (binS .sub 3 false true t14 (.int .i64 1)) fun t16 => 
 pur Try.prog (binS .quo 3 false true t16 (.int .i64 2)) fun t17 => 
 lp 1 (fun J => fun v_i w_1 => ∀ _j : Fr, 
  pur Try.prog (binS .geq 3 false true v_i (.int .i64 0)) fun t19 => 
  condS t19
   (callS Try.prog 54 #[v_data, v_i, t14, v_a] (fun _ w_2 => 
  pur Try.prog (binS .sub 3 false true v_i (.int .i64 1)) fun t21 => 
  J t21 w_2) w_1)
   (pur Try.prog (binS .sub 3 false true t14 (.int .i64 1)) fun t28 => 
 lp 1 (fun J_1 => fun v_i_1 w_3 => ∀ _j : Fr, 
  pur Try.prog (binS .geq 3 false true v_i_1 (.int .i64 0)) fun t30 => 
  condS t30
   (pur Try.prog (binS .add 3 false false v_a v_i_1) fun t38 => 
  pur Try.prog (binS .add 3 false false v_a v_i_1) fun t42 => 
  pur Try.prog (Instr.indexAt 22 v_data t42) fun t43 => 
  rd Try.prog (Instr.loadAt 3 t43) (fun t44 => 
  pur Try.prog (Instr.indexAt 22 v_data v_a) fun t47 => 
  rd Try.prog (Instr.loadAt 3 t47) (fun t48 => 
  pur Try.prog (Instr.indexAt 22 v_data v_a) fun t49 => 
  act Try.prog (thenU (Instr.storeAt 3 t49 t44)) (fun _ w_4 => 
  pur Try.prog (Instr.indexAt 22 v_data t38) fun t50 => 
  act Try.prog (thenU (Instr.storeAt 3 t50 t48)) (fun _ w_5 => 
  callS Try.prog 54 #[v_data, (.int .i64 0), v_i_1, v_a] (fun _ w_6 => 
  pur Try.prog (binS .sub 3 false true v_i_1 (.int .i64 1)) fun t32 => 
  J_1 t32 w_6) w_5) w_4) (World.drew w_3)) (World.drew w_3)) (World.drew w_3))
   (Q (.tuple #[]) w_3)) [t28] w_1)) [t17] w
theorem eq44 (v_data v_a v_b : Value) (Q : Value → World → Prop) (w : World) : semF Try.prog 44 [v_data, v_a, v_b] Q w = S44 v_data v_a v_b Q w := by kernel_rfl
theorem ref44 {v_data v_a v_b : Value} {Q : Value → World → Prop} {w : World} (h : S44 v_data v_a v_b Q w) : callS Try.prog 44 #[v_data, v_a, v_b] Q w :=
  callS_of mix (fun a w => Try.call44 a w) (by kernel_rfl) (by rw [eq44]; exact h)
-- slices.breakPatternsOrdered[int]
def S45 (v_data v_a v_b : Value) (Q : Value → World → Prop) (w : World) : Prop :=
 pur Try.prog (binS .sub 3 false false v_b v_a) fun t13 => 
 pur Try.prog (binS .geq 3 false true t13 (.int .i64 8)) fun t15 => 
 condS t15
  (pur Try.prog (convert 3 78 t13) fun t17 => 
  act Try.prog (Instr.alloc 78 true (.tuple #[])) (fun t7 w_1 => 
  act Try.prog (thenU (Instr.storeAt 78 t7 t17)) (fun _ w_2 => 
  callS Try.prog 55 #[t13] (fun t19 w_3 => 
  pur Try.prog (binS .quo 3 false true t13 (.int .i64 4)) fun t22 => 
  pur Try.prog (binS .mul 3 false true t22 (.int .i64 2)) fun t23 => 
  pur Try.prog (binS .add 3 false false v_a t23) fun t24 => 
  pur Try.prog (binS .sub 3 false true t24 (.int .i64 1)) fun t25 => 
  lp 1 (fun J => fun v_idx w_4 => ∀ _j : Fr, 
   pur Try.prog (binS .quo 3 false true t13 (.int .i64 4)) fun t29 => 
   pur Try.prog (binS .mul 3 false true t29 (.int .i64 2)) fun t30 => 
   pur Try.prog (binS .add 3 false false v_a t30) fun t31 => 
   pur Try.prog (binS .add 3 false true t31 (.int .i64 1)) fun t32 => 
   pur Try.prog (binS .leq 3 false false v_idx t32) fun t33 => 
   condS t33
    (callS Try.prog 56 #[t7] (fun t36 w_5 => 
   pur Try.prog (binS .sub 67 false true t19 (.int .u64 1)) fun t38 => 
   pur Try.prog (binS .and 67 false false t36 t38) fun t39 => 
   pur Try.prog (convert 67 3 t39) fun t40 => 
   jn 1 (fun J_1 => 
    pur Try.prog (binS .geq 3 false false t40 t13) fun t43 => 
    condS t43
     (pur Try.prog (binS .sub 3 false false t40 t13) fun t46 => 
     J_1 t46 w_5)
     (J_1 t40 w_5))
   (fun v_other w_6 => ∀ _j : Fr, 
    pur Try.prog (binS .add 3 false false v_a v_other) fun t52 => 
    pur Try.prog (binS .add 3 false false v_a v_other) fun t56 => 
    pur Try.prog (Instr.indexAt 22 v_data t56) fun t57 => 
    rd Try.prog (Instr.loadAt 3 t57) (fun t58 => 
    pur Try.prog (Instr.indexAt 22 v_data v_idx) fun t61 => 
    rd Try.prog (Instr.loadAt 3 t61) (fun t62 => 
    pur Try.prog (Instr.indexAt 22 v_data v_idx) fun t63 => 
    act Try.prog (thenU (Instr.storeAt 3 t63 t58)) (fun _ w_7 => 
    pur Try.prog (Instr.indexAt 22 v_data t52) fun t64 => 
    act Try.prog (thenU (Instr.storeAt 3 t64 t62)) (fun _ w_8 => 
    pur Try.prog (binS .add 3 false true v_idx (.int .i64 1)) fun t35 => 
   J t35 w_8) w_7) (World.drew w_6)) (World.drew w_6)) (World.drew w_6))) w_4)
    (Q (.tuple #[]) w_4)) [t25] w_3) w_2) w_1) w)
  (Q (.tuple #[]) w)
theorem eq45 (v_data v_a v_b : Value) (Q : Value → World → Prop) (w : World) : semF Try.prog 45 [v_data, v_a, v_b] Q w = S45 v_data v_a v_b Q w := by kernel_rfl
theorem ref45 {v_data v_a v_b : Value} {Q : Value → World → Prop} {w : World} (h : S45 v_data v_a v_b Q w) : callS Try.prog 45 #[v_data, v_a, v_b] Q w :=
  callS_of mix (fun a w => Try.call45 a w) (by kernel_rfl) (by rw [eq45]; exact h)
-- slices.choosePivotOrdered[int]
def S46 (v_data v_a v_b : Value) (Q : Value → World → Prop) (w : World) : Prop :=
 pur Try.prog (binS .sub 3 false false v_b v_a) fun t15 => 
 act Try.prog (Instr.alloc 3 true (.tuple #[])) (fun t9 w_1 => 
 pur Try.prog (binS .quo 3 false true t15 (.int .i64 4)) fun t18 => 
 pur Try.prog (binS .mul 3 false true t18 (.int .i64 1)) fun t19 => 
 pur Try.prog (binS .add 3 false false v_a t19) fun t20 => 
 pur Try.prog (binS .quo 3 false true t15 (.int .i64 4)) fun t23 => 
 pur Try.prog (binS .mul 3 false true t23 (.int .i64 2)) fun t24 => 
 pur Try.prog (binS .add 3 false false v_a t24) fun t25 => 
 pur Try.prog (binS .quo 3 false true t15 (.int .i64 4)) fun t28 => 
 pur Try.prog (binS .mul 3 false true t28 (.int .i64 3)) fun t29 => 
 pur Try.prog (binS .add 3 false false v_a t29) fun t30 => 
 jn 1 (fun J => 
  pur Try.prog (binS .geq 3 false true t15 (.int .i64 8)) fun t32 => 
  condS t32
   (jn 3 (fun J_1 => 
    pur Try.prog (binS .geq 3 false true t15 (.int .i64 50)) fun t34 => 
    condS t34
     (callS Try.prog 57 #[v_data, t20, t9] (fun t37 w_2 => 
     callS Try.prog 57 #[v_data, t25, t9] (fun t40 w_3 => 
     callS Try.prog 57 #[v_data, t30, t9] (fun t43 w_4 => 
     J_1 t37 t40 t43 w_4) w_3) w_2) w_1)
     (J_1 t20 t25 t30 w_1))
   (fun v_i v_j v_k w_5 => ∀ _j : Fr, 
    callS Try.prog 58 #[v_data, v_i, v_j, v_k, t9] (fun t48 w_6 => 
    J t48 w_6) w_5))
   (J t25 w_1))
 (fun v_j_1 w_7 => ∀ _j : Fr, 
  rd Try.prog (Instr.loadAt 3 t9) (fun t49 => 
  pur Try.prog (binS .eql 3 false true t49 (.int .i64 0)) fun t52 => 
  condS t52
   (Q (.tuple #[v_j_1, (.int .i64 1)]) w_7)
   (pur Try.prog (binS .eql 3 false true t49 (.int .i64 12)) fun t55 => 
   condS t55
    (Q (.tuple #[v_j_1, (.int .i64 2)]) w_7)
    (Q (.tuple #[v_j_1, (.int .i64 0)]) w_7))) w_7)) w
theorem eq46 (v_data v_a v_b : Value) (Q : Value → World → Prop) (w : World) : semF Try.prog 46 [v_data, v_a, v_b] Q w = S46 v_data v_a v_b Q w := by kernel_rfl
theorem ref46 {v_data v_a v_b : Value} {Q : Value → World → Prop} {w : World} (h : S46 v_data v_a v_b Q w) : callS Try.prog 46 #[v_data, v_a, v_b] Q w :=
  callS_of mix (fun a w => Try.call46 a w) (by kernel_rfl) (by rw [eq46]; exact h)
-- slices.reverseRangeOrdered[int]
def S47 (v_data v_a v_b : Value) (Q : Value → World → Prop) (w : World) : Prop :=
 pur Try.prog (binS .sub 3 false true v_b (.int .i64 1)) fun t10 => 
 lp 2 (fun J => fun v_i v_j w_1 => ∀ _j : Fr, 
  pur Try.prog (binS .lss 3 false false v_i v_j) fun t13 => 
  condS t13
   (pur Try.prog (Instr.indexAt 22 v_data v_j) fun t20 => 
  rd Try.prog (Instr.loadAt 3 t20) (fun t21 => 
  pur Try.prog (Instr.indexAt 22 v_data v_i) fun t24 => 
  rd Try.prog (Instr.loadAt 3 t24) (fun t25 => 
  pur Try.prog (Instr.indexAt 22 v_data v_i) fun t26 => 
  act Try.prog (thenU (Instr.storeAt 3 t26 t21)) (fun _ w_2 => 
  pur Try.prog (Instr.indexAt 22 v_data v_j) fun t27 => 
  act Try.prog (thenU (Instr.storeAt 3 t27 t25)) (fun _ w_3 => 
  pur Try.prog (binS .add 3 false true v_i (.int .i64 1)) fun t29 => 
  pur Try.prog (binS .sub 3 false true v_j (.int .i64 1)) fun t31 => 
  J t29 t31 w_3) w_2) (World.drew w_1)) (World.drew w_1)) (World.drew w_1))
   (Q (.tuple #[]) w_1)) [v_a, t10] w
theorem eq47 (v_data v_a v_b : Value) (Q : Value → World → Prop) (w : World) : semF Try.prog 47 [v_data, v_a, v_b] Q w = S47 v_data v_a v_b Q w := by kernel_rfl
theorem ref47 {v_data v_a v_b : Value} {Q : Value → World → Prop} {w : World} (h : S47 v_data v_a v_b Q w) : callS Try.prog 47 #[v_data, v_a, v_b] Q w :=
  callS_of mix (fun a w => Try.call47 a w) (by kernel_rfl) (by rw [eq47]; exact h)
-- slices.partialInsertionSortOrdered[int]
def S48 (v_data v_a v_b : Value) (Q : Value → World → Prop) (w : World) : Prop :=
 pur Try.prog (binS .add 3 false true v_a (.int .i64 1)) fun t12 => 
 lp 2 (fun J => fun v_i v_j w_1 => ∀ _j : Fr, 
  pur Try.prog (binS .lss 3 false true v_j (.int .i64 5)) fun t14 => 
  condS t14
   (jn 1 (fun J_1 => 
   lp 1 (fun J_2 => fun v_i_1 w_2 => ∀ _j : Fr, 
    pur Try.prog (binS .lss 3 false false v_i_1 v_b) fun t19 => 
    gd t19 true (fun k w_3 => k v_data w_3) (fun t21_1 w_4 => 
    gd t19 true (fun k_1 w_5 => k_1 v_i_1 w_5) (fun t22_1 w_6 => 
    gd t19 true (fun k_2 w_7 => pur Try.prog (Instr.indexAt 22 t21_1 t22_1) fun t23 => k_2 t23 w_7) (fun t23_1 w_8 => 
    gd t19 true (fun k_3 w_9 => rd Try.prog (Instr.loadAt 3 t23_1) (fun t24 => k_3 t24 w_9) w_9) (fun t24_1 w_10 => 
    gd t19 true (fun k_4 w_11 => k_4 v_data w_11) (fun t25_1 w_12 => 
    gd t19 true (fun k_5 w_13 => k_5 v_i_1 w_13) (fun t26_1 w_14 => 
    gd t19 true (fun k_6 w_15 => pur Try.prog (binS .sub 3 false true t26_1 (.int .i64 1)) fun t27 => k_6 t27 w_15) (fun t27_1 w_16 => 
    gd t19 true (fun k_7 w_17 => pur Try.prog (Instr.indexAt 22 t25_1 t27_1) fun t28 => k_7 t28 w_17) (fun t28_1 w_18 => 
    gd t19 true (fun k_8 w_19 => rd Try.prog (Instr.loadAt 3 t28_1) (fun t29 => k_8 t29 w_19) w_19) (fun t29_1 w_20 => 
    gd t19 true (fun k_9 w_21 => callS Try.prog 49 #[t24_1, t29_1] (fun t30 w_22 => k_9 t30 w_22) w_21) (fun t30_1 w_23 => 
    gd t19 true (fun k_10 w_24 => pur Try.prog (Op.unary .not t30_1) fun t31 => k_10 t31 w_24) (fun t31_1 w_25 => 
    pur Try.prog (pickS t19 t31_1 (.bool false)) fun t32 => 
    condS t32
     (pur Try.prog (binS .add 3 false true v_i_1 (.int .i64 1)) fun t34 => 
    J_2 t34 w_25)
     (pur Try.prog (binS .eql 3 false false v_i_1 v_b) fun t37 => 
   condS t37
    (Q (.bool true) w_25)
    (pur Try.prog (binS .sub 3 false false v_b v_a) fun t40 => 
   pur Try.prog (binS .lss 3 false true t40 (.int .i64 50)) fun t41 => 
   condS t41
    (Q (.bool false) w_25)
    (pur Try.prog (binS .sub 3 false true v_i_1 (.int .i64 1)) fun t46 => 
   pur Try.prog (binS .sub 3 false true v_i_1 (.int .i64 1)) fun t49 => 
   pur Try.prog (Instr.indexAt 22 v_data t49) fun t50 => 
   rd Try.prog (Instr.loadAt 3 t50) (fun t51 => 
   pur Try.prog (Instr.indexAt 22 v_data v_i_1) fun t54 => 
   rd Try.prog (Instr.loadAt 3 t54) (fun t55 => 
   pur Try.prog (Instr.indexAt 22 v_data v_i_1) fun t56 => 
   act Try.prog (thenU (Instr.storeAt 3 t56 t51)) (fun _ w_26 => 
   pur Try.prog (Instr.indexAt 22 v_data t46) fun t57 => 
   act Try.prog (thenU (Instr.storeAt 3 t57 t55)) (fun _ w_27 => 
   jn 0 (fun J_3 => 
    pur Try.prog (binS .sub 3 false false v_i_1 v_a) fun t60 => 
    pur Try.prog (binS .geq 3 false true t60 (.int .i64 2)) fun t61 => 
    condS t61
     (pur Try.prog (binS .sub 3 false true v_i_1 (.int .i64 1)) fun t63 => 
     lp 1 (fun J_4 => fun v_j_1 w_28 => ∀ _j : Fr, 
      pur Try.prog (binS .geq 3 false true v_j_1 (.int .i64 1)) fun t65 => 
      condS t65
       (pur Try.prog (Instr.indexAt 22 v_data v_j_1) fun t70 => 
      rd Try.prog (Instr.loadAt 3 t70) (fun t71 => 
      pur Try.prog (binS .sub 3 false true v_j_1 (.int .i64 1)) fun t74 => 
      pur Try.prog (Instr.indexAt 22 v_data t74) fun t75 => 
      rd Try.prog (Instr.loadAt 3 t75) (fun t76 => 
      callS Try.prog 49 #[t71, t76] (fun t77 w_29 => 
      pur Try.prog (Op.unary .not t77) fun t78 => 
      condS t78
       (J_3  w_29)
       (pur Try.prog (binS .sub 3 false true v_j_1 (.int .i64 1)) fun t83 => 
      pur Try.prog (binS .sub 3 false true v_j_1 (.int .i64 1)) fun t86 => 
      pur Try.prog (Instr.indexAt 22 v_data t86) fun t87 => 
      rd Try.prog (Instr.loadAt 3 t87) (fun t88 => 
      pur Try.prog (Instr.indexAt 22 v_data v_j_1) fun t91 => 
      rd Try.prog (Instr.loadAt 3 t91) (fun t92 => 
      pur Try.prog (Instr.indexAt 22 v_data v_j_1) fun t93 => 
      act Try.prog (thenU (Instr.storeAt 3 t93 t88)) (fun _ w_30 => 
      pur Try.prog (Instr.indexAt 22 v_data t83) fun t94 => 
      act Try.prog (thenU (Instr.storeAt 3 t94 t92)) (fun _ w_31 => 
      pur Try.prog (binS .sub 3 false true v_j_1 (.int .i64 1)) fun t67 => 
      J_4 t67 w_31) w_30) (World.drew w_29)) (World.drew w_29)) (World.drew w_29))) (World.drew w_28)) (World.drew w_28)) (World.drew w_28))
       (J_3  w_28)) [t63] w_27)
     (J_3  w_27))
   (fun  w_32 => ∀ _j : Fr, 
    pur Try.prog (binS .sub 3 false false v_b v_i_1) fun t97 => 
    pur Try.prog (binS .geq 3 false true t97 (.int .i64 2)) fun t98 => 
    condS t98
     (pur Try.prog (binS .add 3 false true v_i_1 (.int .i64 1)) fun t100 => 
     lp 1 (fun J_5 => fun v_j_2 w_33 => ∀ _j : Fr, 
      pur Try.prog (binS .lss 3 false false v_j_2 v_b) fun t103 => 
      condS t103
       (pur Try.prog (Instr.indexAt 22 v_data v_j_2) fun t108 => 
      rd Try.prog (Instr.loadAt 3 t108) (fun t109 => 
      pur Try.prog (binS .sub 3 false true v_j_2 (.int .i64 1)) fun t112 => 
      pur Try.prog (Instr.indexAt 22 v_data t112) fun t113 => 
      rd Try.prog (Instr.loadAt 3 t113) (fun t114 => 
      callS Try.prog 49 #[t109, t114] (fun t115 w_34 => 
      pur Try.prog (Op.unary .not t115) fun t116 => 
      condS t116
       (J_1 v_i_1 w_34)
       (pur Try.prog (binS .sub 3 false true v_j_2 (.int .i64 1)) fun t121 => 
      pur Try.prog (binS .sub 3 false true v_j_2 (.int .i64 1)) fun t124 => 
      pur Try.prog (Instr.indexAt 22 v_data t124) fun t125 => 
      rd Try.prog (Instr.loadAt 3 t125) (fun t126 => 
      pur Try.prog (Instr.indexAt 22 v_data v_j_2) fun t129 => 
      rd Try.prog (Instr.loadAt 3 t129) (fun t130 => 
      pur Try.prog (Instr.indexAt 22 v_data v_j_2) fun t131 => 
      act Try.prog (thenU (Instr.storeAt 3 t131 t126)) (fun _ w_35 => 
      pur Try.prog (Instr.indexAt 22 v_data t121) fun t132 => 
      act Try.prog (thenU (Instr.storeAt 3 t132 t130)) (fun _ w_36 => 
      pur Try.prog (binS .add 3 false true v_j_2 (.int .i64 1)) fun t105 => 
      J_5 t105 w_36) w_35) (World.drew w_34)) (World.drew w_34)) (World.drew w_34))) (World.drew w_33)) (World.drew w_33)) (World.drew w_33))
       (J_1 v_i_1 w_33)) [t100] w_32)
     (J_1 v_i_1 w_32))) w_26) (World.drew w_25)) (World.drew w_25)) (World.drew w_25))))) w_23) w_20) w_18) w_16) w_14) w_12) w_10) w_8) w_6) w_4) (World.drew w_2)) [v_i] w_1)
  (fun v_i_2 w_37 => ∀ _j : Fr, 
   pur Try.prog (binS .add 3 false true v_j (.int .i64 1)) fun t16 => 
   J v_i_2 t16 w_37))
   (Q (.bool false) w_1)) [t12, (.int .i64 0)] w
theorem eq48 (v_data v_a v_b : Value) (Q : Value → World → Prop) (w : World) : semF Try.prog 48 [v_data, v_a, v_b] Q w = S48 v_data v_a v_b Q w := by kernel_rfl
theorem ref48 {v_data v_a v_b : Value} {Q : Value → World → Prop} {w : World} (h : S48 v_data v_a v_b Q w) : callS Try.prog 48 #[v_data, v_a, v_b] Q w :=
  callS_of mix (fun a w => Try.call48 a w) (by kernel_rfl) (by rw [eq48]; exact h)
-- cmp.Less[int]
def S49 (v_x v_y : Value) (Q : Value → World → Prop) (w : World) : Prop :=
 callS Try.prog 59 #[v_x] (fun t6 w_1 => 
 gd t6 true (fun k w_2 => k v_y w_2) (fun t8_1 w_3 => 
 gd t6 true (fun k_1 w_4 => callS Try.prog 59 #[t8_1] (fun t9 w_5 => k_1 t9 w_5) w_4) (fun t9_1 w_6 => 
 gd t6 true (fun k_2 w_7 => pur Try.prog (Op.unary .not t9_1) fun t10 => k_2 t10 w_7) (fun t10_1 w_8 => 
 pur Try.prog (pickS t6 t10_1 (.bool false)) fun t11 => 
 gd t11 false (fun k_3 w_9 => k_3 v_x w_9) (fun t13_1 w_10 => 
 gd t11 false (fun k_4 w_11 => k_4 v_y w_11) (fun t14_1 w_12 => 
 gd t11 false (fun k_5 w_13 => pur Try.prog (binS .lss 3 false false t13_1 t14_1) fun t15 => k_5 t15 w_13) (fun t15_1 w_14 => 
 pur Try.prog (pickS t11 (.bool true) t15_1) fun t16 => 
 Q t16 w_14) w_12) w_10) w_8) w_6) w_3) w_1) w
theorem eq49 (v_x v_y : Value) (Q : Value → World → Prop) (w : World) : semF Try.prog 49 [v_x, v_y] Q w = S49 v_x v_y Q w := by kernel_rfl
theorem ref49 {v_x v_y : Value} {Q : Value → World → Prop} {w : World} (h : S49 v_x v_y Q w) : callS Try.prog 49 #[v_x, v_y] Q w :=
  callS_of mix (fun a w => Try.call49 a w) (by kernel_rfl) (by rw [eq49]; exact h)
-- slices.partitionEqualOrdered[int]
def S50 (v_data v_a v_b v_pivot : Value) (Q : Value → World → Prop) (w : World) : Prop :=
 pur Try.prog (Instr.indexAt 22 v_data v_pivot) fun t17 => 
 rd Try.prog (Instr.loadAt 3 t17) (fun t18 => 
 pur Try.prog (Instr.indexAt 22 v_data v_a) fun t21 => 
 rd Try.prog (Instr.loadAt 3 t21) (fun t22 => 
 pur Try.prog (Instr.indexAt 22 v_data v_a) fun t23 => 
 act Try.prog (thenU (Instr.storeAt 3 t23 t18)) (fun _ w_1 => 
 pur Try.prog (Instr.indexAt 22 v_data v_pivot) fun t24 => 
 act Try.prog (thenU (Instr.storeAt 3 t24 t22)) (fun _ w_2 => 
 pur Try.prog (binS .add 3 false true v_a (.int .i64 1)) fun t26 => 
 pur Try.prog (binS .sub 3 false true v_b (.int .i64 1)) fun t28 => 
 lp 2 (fun J => fun v_i v_j w_3 => ∀ _j : Fr, 
  lp 1 (fun J_1 => fun v_i_1 w_4 => ∀ _j : Fr, 
   pur Try.prog (binS .leq 3 false false v_i_1 v_j) fun t31 => 
   gd t31 true (fun k w_5 => k v_data w_5) (fun t33_1 w_6 => 
   gd t31 true (fun k_1 w_7 => k_1 v_a w_7) (fun t34_1 w_8 => 
   gd t31 true (fun k_2 w_9 => pur Try.prog (Instr.indexAt 22 t33_1 t34_1) fun t35 => k_2 t35 w_9) (fun t35_1 w_10 => 
   gd t31 true (fun k_3 w_11 => rd Try.prog (Instr.loadAt 3 t35_1) (fun t36 => k_3 t36 w_11) w_11) (fun t36_1 w_12 => 
   gd t31 true (fun k_4 w_13 => k_4 v_data w_13) (fun t37_1 w_14 => 
   gd t31 true (fun k_5 w_15 => k_5 v_i_1 w_15) (fun t38_1 w_16 => 
   gd t31 true (fun k_6 w_17 => pur Try.prog (Instr.indexAt 22 t37_1 t38_1) fun t39 => k_6 t39 w_17) (fun t39_1 w_18 => 
   gd t31 true (fun k_7 w_19 => rd Try.prog (Instr.loadAt 3 t39_1) (fun t40 => k_7 t40 w_19) w_19) (fun t40_1 w_20 => 
   gd t31 true (fun k_8 w_21 => callS Try.prog 49 #[t36_1, t40_1] (fun t41 w_22 => k_8 t41 w_22) w_21) (fun t41_1 w_23 => 
   gd t31 true (fun k_9 w_24 => pur Try.prog (Op.unary .not t41_1) fun t42 => k_9 t42 w_24) (fun t42_1 w_25 => 
   pur Try.prog (pickS t31 t42_1 (.bool false)) fun t43 => 
   condS t43
    (pur Try.prog (binS .add 3 false true v_i_1 (.int .i64 1)) fun t45 => 
   J_1 t45 w_25)
    (lp 1 (fun J_2 => fun v_j_1 w_26 => ∀ _j : Fr, 
   pur Try.prog (binS .leq 3 false false v_i_1 v_j_1) fun t48 => 
   gd t48 true (fun k_10 w_27 => k_10 v_data w_27) (fun t50_1 w_28 => 
   gd t48 true (fun k_11 w_29 => k_11 v_a w_29) (fun t51_1 w_30 => 
   gd t48 true (fun k_12 w_31 => pur Try.prog (Instr.indexAt 22 t50_1 t51_1) fun t52 => k_12 t52 w_31) (fun t52_1 w_32 => 
   gd t48 true (fun k_13 w_33 => rd Try.prog (Instr.loadAt 3 t52_1) (fun t53 => k_13 t53 w_33) w_33) (fun t53_1 w_34 => 
   gd t48 true (fun k_14 w_35 => k_14 v_data w_35) (fun t54_1 w_36 => 
   gd t48 true (fun k_15 w_37 => k_15 v_j_1 w_37) (fun t55_1 w_38 => 
   gd t48 true (fun k_16 w_39 => pur Try.prog (Instr.indexAt 22 t54_1 t55_1) fun t56 => k_16 t56 w_39) (fun t56_1 w_40 => 
   gd t48 true (fun k_17 w_41 => rd Try.prog (Instr.loadAt 3 t56_1) (fun t57 => k_17 t57 w_41) w_41) (fun t57_1 w_42 => 
   gd t48 true (fun k_18 w_43 => callS Try.prog 49 #[t53_1, t57_1] (fun t58 w_44 => k_18 t58 w_44) w_43) (fun t58_1 w_45 => 
   pur Try.prog (pickS t48 t58_1 (.bool false)) fun t59 => 
   condS t59
    (pur Try.prog (binS .sub 3 false true v_j_1 (.int .i64 1)) fun t61 => 
   J_2 t61 w_45)
    (pur Try.prog (binS .gtr 3 false false v_i_1 v_j_1) fun t64 => 
  condS t64
   (Q v_i_1 w_45)
   (pur Try.prog (Instr.indexAt 22 v_data v_j_1) fun t71 => 
  rd Try.prog (Instr.loadAt 3 t71) (fun t72 => 
  pur Try.prog (Instr.indexAt 22 v_data v_i_1) fun t75 => 
  rd Try.prog (Instr.loadAt 3 t75) (fun t76 => 
  pur Try.prog (Instr.indexAt 22 v_data v_i_1) fun t77 => 
  act Try.prog (thenU (Instr.storeAt 3 t77 t72)) (fun _ w_46 => 
  pur Try.prog (Instr.indexAt 22 v_data v_j_1) fun t78 => 
  act Try.prog (thenU (Instr.storeAt 3 t78 t76)) (fun _ w_47 => 
  pur Try.prog (binS .add 3 false true v_i_1 (.int .i64 1)) fun t80 => 
  pur Try.prog (binS .sub 3 false true v_j_1 (.int .i64 1)) fun t82 => 
  J t80 t82 w_47) w_46) (World.drew w_45)) (World.drew w_45)) (World.drew w_45)))) w_42) w_40) w_38) w_36) w_34) w_32) w_30) w_28) (World.drew w_26)) [v_j] w_25)) w_23) w_20) w_18) w_16) w_14) w_12) w_10) w_8) w_6) (World.drew w_4)) [v_i] w_3) [t26, t28] w_2) w_1) (World.drew w)) (World.drew w)) (World.drew w)
theorem eq50 (v_data v_a v_b v_pivot : Value) (Q : Value → World → Prop) (w : World) : semF Try.prog 50 [v_data, v_a, v_b, v_pivot] Q w = S50 v_data v_a v_b v_pivot Q w := by kernel_rfl
theorem ref50 {v_data v_a v_b v_pivot : Value} {Q : Value → World → Prop} {w : World} (h : S50 v_data v_a v_b v_pivot Q w) : callS Try.prog 50 #[v_data, v_a, v_b, v_pivot] Q w :=
  callS_of mix (fun a w => Try.call50 a w) (by kernel_rfl) (by rw [eq50]; exact h)
-- slices.partitionOrdered[int]
def S51 (v_data v_a v_b v_pivot : Value) (Q : Value → World → Prop) (w : World) : Prop :=
 pur Try.prog (Instr.indexAt 22 v_data v_pivot) fun t18 => 
 rd Try.prog (Instr.loadAt 3 t18) (fun t19 => 
 pur Try.prog (Instr.indexAt 22 v_data v_a) fun t22 => 
 rd Try.prog (Instr.loadAt 3 t22) (fun t23 => 
 pur Try.prog (Instr.indexAt 22 v_data v_a) fun t24 => 
 act Try.prog (thenU (Instr.storeAt 3 t24 t19)) (fun _ w_1 => 
 pur Try.prog (Instr.indexAt 22 v_data v_pivot) fun t25 => 
 act Try.prog (thenU (Instr.storeAt 3 t25 t23)) (fun _ w_2 => 
 pur Try.prog (binS .add 3 false true v_a (.int .i64 1)) fun t27 => 
 pur Try.prog (binS .sub 3 false true v_b (.int .i64 1)) fun t29 => 
 lp 1 (fun J => fun v_i w_3 => ∀ _j : Fr, 
  pur Try.prog (binS .leq 3 false false v_i t29) fun t32 => 
  gd t32 true (fun k w_4 => k v_data w_4) (fun t34_1 w_5 => 
  gd t32 true (fun k_1 w_6 => k_1 v_i w_6) (fun t35_1 w_7 => 
  gd t32 true (fun k_2 w_8 => pur Try.prog (Instr.indexAt 22 t34_1 t35_1) fun t36 => k_2 t36 w_8) (fun t36_1 w_9 => 
  gd t32 true (fun k_3 w_10 => rd Try.prog (Instr.loadAt 3 t36_1) (fun t37 => k_3 t37 w_10) w_10) (fun t37_1 w_11 => 
  gd t32 true (fun k_4 w_12 => k_4 v_data w_12) (fun t38_1 w_13 => 
  gd t32 true (fun k_5 w_14 => k_5 v_a w_14) (fun t39_1 w_15 => 
  gd t32 true (fun k_6 w_16 => pur Try.prog (Instr.indexAt 22 t38_1 t39_1) fun t40 => k_6 t40 w_16) (fun t40_1 w_17 => 
  gd t32 true (fun k_7 w_18 => rd Try.prog (Instr.loadAt 3 t40_1) (fun t41 => k_7 t41 w_18) w_18) (fun t41_1 w_19 => 
  gd t32 true (fun k_8 w_20 => callS Try.prog 49 #[t37_1, t41_1] (fun t42 w_21 => k_8 t42 w_21) w_20) (fun t42_1 w_22 => 
  pur Try.prog (pickS t32 t42_1 (.bool false)) fun t43 => 
  condS t43
   (pur Try.prog (binS .add 3 false true v_i (.int .i64 1)) fun t45 => 
  J t45 w_22)
   (lp 1 (fun J_1 => fun v_j w_23 => ∀ _j : Fr, 
  pur Try.prog (binS .leq 3 false false v_i v_j) fun t48 => 
  gd t48 true (fun k_9 w_24 => k_9 v_data w_24) (fun t50_1 w_25 => 
  gd t48 true (fun k_10 w_26 => k_10 v_j w_26) (fun t51_1 w_27 => 
  gd t48 true (fun k_11 w_28 => pur Try.prog (Instr.indexAt 22 t50_1 t51_1) fun t52 => k_11 t52 w_28) (fun t52_1 w_29 => 
  gd t48 true (fun k_12 w_30 => rd Try.prog (Instr.loadAt 3 t52_1) (fun t53 => k_12 t53 w_30) w_30) (fun t53_1 w_31 => 
  gd t48 true (fun k_13 w_32 => k_13 v_data w_32) (fun t54_1 w_33 => 
  gd t48 true (fun k_14 w_34 => k_14 v_a w_34) (fun t55_1 w_35 => 
  gd t48 true (fun k_15 w_36 => pur Try.prog (Instr.indexAt 22 t54_1 t55_1) fun t56 => k_15 t56 w_36) (fun t56_1 w_37 => 
  gd t48 true (fun k_16 w_38 => rd Try.prog (Instr.loadAt 3 t56_1) (fun t57 => k_16 t57 w_38) w_38) (fun t57_1 w_39 => 
  gd t48 true (fun k_17 w_40 => callS Try.prog 49 #[t53_1, t57_1] (fun t58 w_41 => k_17 t58 w_41) w_40) (fun t58_1 w_42 => 
  gd t48 true (fun k_18 w_43 => pur Try.prog (Op.unary .not t58_1) fun t59 => k_18 t59 w_43) (fun t59_1 w_44 => 
  pur Try.prog (pickS t48 t59_1 (.bool false)) fun t60 => 
  condS t60
   (pur Try.prog (binS .sub 3 false true v_j (.int .i64 1)) fun t62 => 
  J_1 t62 w_44)
   (pur Try.prog (binS .gtr 3 false false v_i v_j) fun t65 => 
 condS t65
  (pur Try.prog (Instr.indexAt 22 v_data v_a) fun t72 => 
  rd Try.prog (Instr.loadAt 3 t72) (fun t73 => 
  pur Try.prog (Instr.indexAt 22 v_data v_j) fun t76 => 
  rd Try.prog (Instr.loadAt 3 t76) (fun t77 => 
  pur Try.prog (Instr.indexAt 22 v_data v_j) fun t78 => 
  act Try.prog (thenU (Instr.storeAt 3 t78 t73)) (fun _ w_45 => 
  pur Try.prog (Instr.indexAt 22 v_data v_a) fun t79 => 
  act Try.prog (thenU (Instr.storeAt 3 t79 t77)) (fun _ w_46 => 
  Q (.tuple #[v_j, (.bool true)]) w_46) w_45) (World.drew w_44)) (World.drew w_44)) (World.drew w_44))
  (pur Try.prog (Instr.indexAt 22 v_data v_j) fun t87 => 
 rd Try.prog (Instr.loadAt 3 t87) (fun t88 => 
 pur Try.prog (Instr.indexAt 22 v_data v_i) fun t91 => 
 rd Try.prog (Instr.loadAt 3 t91) (fun t92 => 
 pur Try.prog (Instr.indexAt 22 v_data v_i) fun t93 => 
 act Try.prog (thenU (Instr.storeAt 3 t93 t88)) (fun _ w_47 => 
 pur Try.prog (Instr.indexAt 22 v_data v_j) fun t94 => 
 act Try.prog (thenU (Instr.storeAt 3 t94 t92)) (fun _ w_48 => 
 pur Try.prog (binS .add 3 false true v_i (.int .i64 1)) fun t96 => 
 pur Try.prog (binS .sub 3 false true v_j (.int .i64 1)) fun t98 => 
 lp 2 (fun J_2 => fun v_i_1 v_j_1 w_49 => ∀ _j : Fr, 
  lp 1 (fun J_3 => fun v_i_2 w_50 => ∀ _j : Fr, 
   pur Try.prog (binS .leq 3 false false v_i_2 v_j_1) fun t101 => 
   gd t101 true (fun k_19 w_51 => k_19 v_data w_51) (fun t103_1 w_52 => 
   gd t101 true (fun k_20 w_53 => k_20 v_i_2 w_53) (fun t104_1 w_54 => 
   gd t101 true (fun k_21 w_55 => pur Try.prog (Instr.indexAt 22 t103_1 t104_1) fun t105 => k_21 t105 w_55) (fun t105_1 w_56 => 
   gd t101 true (fun k_22 w_57 => rd Try.prog (Instr.loadAt 3 t105_1) (fun t106 => k_22 t106 w_57) w_57) (fun t106_1 w_58 => 
   gd t101 true (fun k_23 w_59 => k_23 v_data w_59) (fun t107_1 w_60 => 
   gd t101 true (fun k_24 w_61 => k_24 v_a w_61) (fun t108_1 w_62 => 
   gd t101 true (fun k_25 w_63 => pur Try.prog (Instr.indexAt 22 t107_1 t108_1) fun t109 => k_25 t109 w_63) (fun t109_1 w_64 => 
   gd t101 true (fun k_26 w_65 => rd Try.prog (Instr.loadAt 3 t109_1) (fun t110 => k_26 t110 w_65) w_65) (fun t110_1 w_66 => 
   gd t101 true (fun k_27 w_67 => callS Try.prog 49 #[t106_1, t110_1] (fun t111 w_68 => k_27 t111 w_68) w_67) (fun t111_1 w_69 => 
   pur Try.prog (pickS t101 t111_1 (.bool false)) fun t112 => 
   condS t112
    (pur Try.prog (binS .add 3 false true v_i_2 (.int .i64 1)) fun t114 => 
   J_3 t114 w_69)
    (lp 1 (fun J_4 => fun v_j_2 w_70 => ∀ _j : Fr, 
   pur Try.prog (binS .leq 3 false false v_i_2 v_j_2) fun t117 => 
   gd t117 true (fun k_28 w_71 => k_28 v_data w_71) (fun t119_1 w_72 => 
   gd t117 true (fun k_29 w_73 => k_29 v_j_2 w_73) (fun t120_1 w_74 => 
   gd t117 true (fun k_30 w_75 => pur Try.prog (Instr.indexAt 22 t119_1 t120_1) fun t121 => k_30 t121 w_75) (fun t121_1 w_76 => 
   gd t117 true (fun k_31 w_77 => rd Try.prog (Instr.loadAt 3 t121_1) (fun t122 => k_31 t122 w_77) w_77) (fun t122_1 w_78 => 
   gd t117 true (fun k_32 w_79 => k_32 v_data w_79) (fun t123_1 w_80 => 
   gd t117 true (fun k_33 w_81 => k_33 v_a w_81) (fun t124_1 w_82 => 
   gd t117 true (fun k_34 w_83 => pur Try.prog (Instr.indexAt 22 t123_1 t124_1) fun t125 => k_34 t125 w_83) (fun t125_1 w_84 => 
   gd t117 true (fun k_35 w_85 => rd Try.prog (Instr.loadAt 3 t125_1) (fun t126 => k_35 t126 w_85) w_85) (fun t126_1 w_86 => 
   gd t117 true (fun k_36 w_87 => callS Try.prog 49 #[t122_1, t126_1] (fun t127 w_88 => k_36 t127 w_88) w_87) (fun t127_1 w_89 => 
   gd t117 true (fun k_37 w_90 => pur Try.prog (Op.unary .not t127_1) fun t128 => k_37 t128 w_90) (fun t128_1 w_91 => 
   pur Try.prog (pickS t117 t128_1 (.bool false)) fun t129 => 
   condS t129
    (pur Try.prog (binS .sub 3 false true v_j_2 (.int .i64 1)) fun t131 => 
   J_4 t131 w_91)
    (pur Try.prog (binS .gtr 3 false false v_i_2 v_j_2) fun t134 => 
  condS t134
   (pur Try.prog (Instr.indexAt 22 v_data v_a) fun t159 => 
 rd Try.prog (Instr.loadAt 3 t159) (fun t160 => 
 pur Try.prog (Instr.indexAt 22 v_data v_j_2) fun t163 => 
 rd Try.prog (Instr.loadAt 3 t163) (fun t164 => 
 pur Try.prog (Instr.indexAt 22 v_data v_j_2) fun t165 => 
 act Try.prog (thenU (Instr.storeAt 3 t165 t160)) (fun _ w_92 => 
 pur Try.prog (Instr.indexAt 22 v_data v_a) fun t166 => 
 act Try.prog (thenU (Instr.storeAt 3 t166 t164)) (fun _ w_93 => 
 Q (.tuple #[v_j_2, (.bool false)]) w_93) w_92) (World.drew w_91)) (World.drew w_91)) (World.drew w_91))
   (pur Try.prog (Instr.indexAt 22 v_data v_j_2) fun t141 => 
  rd Try.prog (Instr.loadAt 3 t141) (fun t142 => 
  pur Try.prog (Instr.indexAt 22 v_data v_i_2) fun t145 => 
  rd Try.prog (Instr.loadAt 3 t145) (fun t146 => 
  pur Try.prog (Instr.indexAt 22 v_data v_i_2) fun t147 => 
  act Try.prog (thenU (Instr.storeAt 3 t147 t142)) (fun _ w_94 => 
  pur Try.prog (Instr.indexAt 22 v_data v_j_2) fun t148 => 
  act Try.prog (thenU (Instr.storeAt 3 t148 t146)) (fun _ w_95 => 
  pur Try.prog (binS .add 3 false true v_i_2 (.int .i64 1)) fun t150 => 
  pur Try.prog (binS .sub 3 false true v_j_2 (.int .i64 1)) fun t152 => 
  J_2 t150 t152 w_95) w_94) (World.drew w_91)) (World.drew w_91)) (World.drew w_91)))) w_89) w_86) w_84) w_82) w_80) w_78) w_76) w_74) w_72) (World.drew w_70)) [v_j_1] w_69)) w_66) w_64) w_62) w_60) w_58) w_56) w_54) w_52) (World.drew w_50)) [v_i_1] w_49) [t96, t98] w_48) w_47) (World.drew w_44)) (World.drew w_44)) (World.drew w_44)))) w_42) w_39) w_37) w_35) w_33) w_31) w_29) w_27) w_25) (World.drew w_23)) [t29] w_22)) w_19) w_17) w_15) w_13) w_11) w_9) w_7) w_5) (World.drew w_3)) [t27] w_2) w_1) (World.drew w)) (World.drew w)) (World.drew w)
theorem eq51 (v_data v_a v_b v_pivot : Value) (Q : Value → World → Prop) (w : World) : semF Try.prog 51 [v_data, v_a, v_b, v_pivot] Q w = S51 v_data v_a v_b v_pivot Q w := by kernel_rfl
theorem ref51 {v_data v_a v_b v_pivot : Value} {Q : Value → World → Prop} {w : World} (h : S51 v_data v_a v_b v_pivot Q w) : callS Try.prog 51 #[v_data, v_a, v_b, v_pivot] Q w :=
  callS_of mix (fun a w => Try.call51 a w) (by kernel_rfl) (by rw [eq51]; exact h)
-- math/bits.Len32
def S52 (v_x : Value) (Q : Value → World → Prop) (w : World) : Prop :=
 jn 2 (fun J => 
  pur Try.prog (binS .geq 76 false true v_x (.int .u32 65536)) fun t4 => 
  condS t4
   (pur Try.prog (binS .shr 76 false true v_x (.int .u64 16)) fun t6 => 
   J t6 (.int .i64 16) w)
   (J v_x (.int .i64 0) w))
 (fun v_x_1 v_n w_1 => ∀ _j : Fr, 
  jn 2 (fun J_1 => 
   pur Try.prog (binS .geq 76 false true v_x_1 (.int .u32 256)) fun t8 => 
   condS t8
    (pur Try.prog (binS .shr 76 false true v_x_1 (.int .u64 8)) fun t10 => 
    pur Try.prog (binS .add 3 false true v_n (.int .i64 8)) fun t12 => 
    J_1 t10 t12 w_1)
    (J_1 v_x_1 v_n w_1))
  (fun v_x_2 v_n_1 w_2 => ∀ _j : Fr, 
   pur Try.prog (convert 76 5 v_x_2) fun t15 => 
   pur Try.prog (Instr.index 9 (.string ⟨#[0, 1, 2, 2, 3, 3, 3, 3, 4, 4, 4, 4, 4, 4, 4, 4, 5, 5, 5, 5, 5, 5, 5, 5, 5, 5, 5, 5, 5, 5, 5, 5, 6, 6, 6, 6, 6, 6, 6, 6, 6, 6, 6, 6, 6, 6, 6, 6, 6, 6, 6, 6, 6, 6, 6, 6, 6, 6, 6, 6, 6, 6, 6, 6, 7, 7, 7, 7, 7, 7, 7, 7, 7, 7, 7, 7, 7, 7, 7, 7, 7, 7, 7, 7, 7, 7, 7, 7, 7, 7, 7, 7, 7, 7, 7, 7, 7, 7, 7, 7, 7, 7, 7, 7, 7, 7, 7, 7, 7, 7, 7, 7, 7, 7, 7, 7, 7, 7, 7, 7, 7, 7, 7, 7, 7, 7, 7, 7, 8, 8, 8, 8, 8, 8, 8, 8, 8, 8, 8, 8, 8, 8, 8, 8, 8, 8, 8, 8, 8, 8, 8, 8, 8, 8, 8, 8, 8, 8, 8, 8, 8, 8, 8, 8, 8, 8, 8, 8, 8, 8, 8, 8, 8, 8, 8, 8, 8, 8, 8, 8, 8, 8, 8, 8, 8, 8, 8, 8, 8, 8, 8, 8, 8, 8, 8, 8, 8, 8, 8, 8, 8, 8, 8, 8, 8, 8, 8, 8, 8, 8, 8, 8, 8, 8, 8, 8, 8, 8, 8, 8, 8, 8, 8, 8, 8, 8, 8, 8, 8, 8, 8, 8, 8, 8, 8, 8, 8, 8, 8, 8, 8, 8, 8, 8, 8, 8, 8, 8, 8, 8, 8, 8, 8, 8, 8, 8]⟩) t15) fun t16 => 
   pur Try.prog (convert 5 3 t16) fun t17 => 
   pur Try.prog (binS .add 3 false false v_n_1 t17) fun t18 => 
   Q t18 w_2))
theorem eq52 (v_x : Value) (Q : Value → World → Prop) (w : World) : semF Try.prog 52 [v_x] Q w = S52 v_x Q w := by kernel_rfl
theorem ref52 {v_x : Value} {Q : Value → World → Prop} {w : World} (h : S52 v_x Q w) : callS Try.prog 52 #[v_x] Q w :=
  callS_of mix (fun a w => Try.call52 a w) (by kernel_rfl) (by rw [eq52]; exact h)
-- math/bits.Len64
def S53 (v_x : Value) (Q : Value → World → Prop) (w : World) : Prop :=
 jn 2 (fun J => 
  pur Try.prog (binS .geq 57 false true v_x (.int .u64 4294967296)) fun t4 => 
  condS t4
   (pur Try.prog (binS .shr 57 false true v_x (.int .u64 32)) fun t6 => 
   J t6 (.int .i64 32) w)
   (J v_x (.int .i64 0) w))
 (fun v_x_1 v_n w_1 => ∀ _j : Fr, 
  jn 2 (fun J_1 => 
   pur Try.prog (binS .geq 57 false true v_x_1 (.int .u64 65536)) fun t8 => 
   condS t8
    (pur Try.prog (binS .shr 57 false true v_x_1 (.int .u64 16)) fun t10 => 
    pur Try.prog (binS .add 3 false true v_n (.int .i64 16)) fun t12 => 
    J_1 t10 t12 w_1)
    (J_1 v_x_1 v_n w_1))
  (fun v_x_2 v_n_1 w_2 => ∀ _j : Fr, 
   jn 2 (fun J_2 => 
    pur Try.prog (binS .geq 57 false true v_x_2 (.int .u64 256)) fun t14 => 
    condS t14
     (pur Try.prog (binS .shr 57 false true v_x_2 (.int .u64 8)) fun t16 => 
     pur Try.prog (binS .add 3 false true v_n_1 (.int .i64 8)) fun t18 => 
     J_2 t16 t18 w_2)
     (J_2 v_x_2 v_n_1 w_2))
   (fun v_x_3 v_n_2 w_3 => ∀ _j : Fr, 
    pur Try.prog (convert 57 5 v_x_3) fun t21 => 
    pur Try.prog (Instr.index 9 (.string ⟨#[0, 1, 2, 2, 3, 3, 3, 3, 4, 4, 4, 4, 4, 4, 4, 4, 5, 5, 5, 5, 5, 5, 5, 5, 5, 5, 5, 5, 5, 5, 5, 5, 6, 6, 6, 6, 6, 6, 6, 6, 6, 6, 6, 6, 6, 6, 6, 6, 6, 6, 6, 6, 6, 6, 6, 6, 6, 6, 6, 6, 6, 6, 6, 6, 7, 7, 7, 7, 7, 7, 7, 7, 7, 7, 7, 7, 7, 7, 7, 7, 7, 7, 7, 7, 7, 7, 7, 7, 7, 7, 7, 7, 7, 7, 7, 7, 7, 7, 7, 7, 7, 7, 7, 7, 7, 7, 7, 7, 7, 7, 7, 7, 7, 7, 7, 7, 7, 7, 7, 7, 7, 7, 7, 7, 7, 7, 7, 7, 8, 8, 8, 8, 8, 8, 8, 8, 8, 8, 8, 8, 8, 8, 8, 8, 8, 8, 8, 8, 8, 8, 8, 8, 8, 8, 8, 8, 8, 8, 8, 8, 8, 8, 8, 8, 8, 8, 8, 8, 8, 8, 8, 8, 8, 8, 8, 8, 8, 8, 8, 8, 8, 8, 8, 8, 8, 8, 8, 8, 8, 8, 8, 8, 8, 8, 8, 8, 8, 8, 8, 8, 8, 8, 8, 8, 8, 8, 8, 8, 8, 8, 8, 8, 8, 8, 8, 8, 8, 8, 8, 8, 8, 8, 8, 8, 8, 8, 8, 8, 8, 8, 8, 8, 8, 8, 8, 8, 8, 8, 8, 8, 8, 8, 8, 8, 8, 8, 8, 8, 8, 8, 8, 8, 8, 8, 8, 8]⟩) t21) fun t22 => 
    pur Try.prog (convert 5 3 t22) fun t23 => 
    pur Try.prog (binS .add 3 false false v_n_2 t23) fun t24 => 
    Q t24 w_3)))
theorem eq53 (v_x : Value) (Q : Value → World → Prop) (w : World) : semF Try.prog 53 [v_x] Q w = S53 v_x Q w := by kernel_rfl
theorem ref53 {v_x : Value} {Q : Value → World → Prop} {w : World} (h : S53 v_x Q w) : callS Try.prog 53 #[v_x] Q w :=
  callS_of mix (fun a w => Try.call53 a w) (by kernel_rfl) (by rw [eq53]; exact h)
-- slices.siftDownOrdered[int]
def S54 (v_data v_lo v_hi v_first : Value) (Q : Value → World → Prop) (w : World) : Prop :=
 lp 1 (fun J => fun v_root w_1 => ∀ _j : Fr, 
  pur Try.prog (binS .mul 3 true false (.int .i64 2) v_root) fun t12 => 
  pur Try.prog (binS .add 3 false true t12 (.int .i64 1)) fun t13 => 
  pur Try.prog (binS .geq 3 false false t13 v_hi) fun t16 => 
  condS t16
   (Q (.tuple #[]) w_1)
   (jn 1 (fun J_1 => 
   pur Try.prog (binS .add 3 false true t13 (.int .i64 1)) fun t18 => 
   pur Try.prog (binS .lss 3 false false t18 v_hi) fun t20 => 
   gd t20 true (fun k w_2 => k v_data w_2) (fun t22_1 w_3 => 
   gd t20 true (fun k_1 w_4 => k_1 v_first w_4) (fun t23_1 w_5 => 
   gd t20 true (fun k_2 w_6 => k_2 t13 w_6) (fun t24_1 w_7 => 
   gd t20 true (fun k_3 w_8 => pur Try.prog (binS .add 3 false false t23_1 t24_1) fun t25 => k_3 t25 w_8) (fun t25_1 w_9 => 
   gd t20 true (fun k_4 w_10 => pur Try.prog (Instr.indexAt 22 t22_1 t25_1) fun t26 => k_4 t26 w_10) (fun t26_1 w_11 => 
   gd t20 true (fun k_5 w_12 => rd Try.prog (Instr.loadAt 3 t26_1) (fun t27 => k_5 t27 w_12) w_12) (fun t27_1 w_13 => 
   gd t20 true (fun k_6 w_14 => k_6 v_data w_14) (fun t28_1 w_15 => 
   gd t20 true (fun k_7 w_16 => k_7 v_first w_16) (fun t29_1 w_17 => 
   gd t20 true (fun k_8 w_18 => k_8 t13 w_18) (fun t30_1 w_19 => 
   gd t20 true (fun k_9 w_20 => pur Try.prog (binS .add 3 false false t29_1 t30_1) fun t31 => k_9 t31 w_20) (fun t31_1 w_21 => 
   gd t20 true (fun k_10 w_22 => pur Try.prog (binS .add 3 false true t31_1 (.int .i64 1)) fun t32 => k_10 t32 w_22) (fun t32_1 w_23 => 
   gd t20 true (fun k_11 w_24 => pur Try.prog (Instr.indexAt 22 t28_1 t32_1) fun t33 => k_11 t33 w_24) (fun t33_1 w_25 => 
   gd t20 true (fun k_12 w_26 => rd Try.prog (Instr.loadAt 3 t33_1) (fun t34 => k_12 t34 w_26) w_26) (fun t34_1 w_27 => 
   gd t20 true (fun k_13 w_28 => callS Try.prog 49 #[t27_1, t34_1] (fun t35 w_29 => k_13 t35 w_29) w_28) (fun t35_1 w_30 => 
   pur Try.prog (pickS t20 t35_1 (.bool false)) fun t36 => 
   condS t36
    (pur Try.prog (binS .add 3 false true t13 (.int .i64 1)) fun t38 => 
    J_1 t38 w_30)
    (J_1 t13 w_30)) w_27) w_25) w_23) w_21) w_19) w_17) w_15) w_13) w_11) w_9) w_7) w_5) w_3) (World.drew w_1))
  (fun v_child w_31 => ∀ _j : Fr, 
   pur Try.prog (binS .add 3 false false v_first v_root) fun t42 => 
   pur Try.prog (Instr.indexAt 22 v_data t42) fun t43 => 
   rd Try.prog (Instr.loadAt 3 t43) (fun t44 => 
   pur Try.prog (binS .add 3 false false v_first v_child) fun t48 => 
   pur Try.prog (Instr.indexAt 22 v_data t48) fun t49 => 
   rd Try.prog (Instr.loadAt 3 t49) (fun t50 => 
   callS Try.prog 49 #[t44, t50] (fun t51 w_32 => 
   pur Try.prog (Op.unary .not t51) fun t52 => 
   condS t52
    (Q (.tuple #[]) w_32)
    (pur Try.prog (binS .add 3 false false v_first v_root) fun t56 => 
   pur Try.prog (binS .add 3 false false v_first v_child) fun t60 => 
   pur Try.prog (binS .add 3 false false v_first v_child) fun t64 => 
   pur Try.prog (Instr.indexAt 22 v_data t64) fun t65 => 
   rd Try.prog (Instr.loadAt 3 t65) (fun t66 => 
   pur Try.prog (binS .add 3 false false v_first v_root) fun t70 => 
   pur Try.prog (Instr.indexAt 22 v_data t70) fun t71 => 
   rd Try.prog (Instr.loadAt 3 t71) (fun t72 => 
   pur Try.prog (Instr.indexAt 22 v_data t56) fun t73 => 
   act Try.prog (thenU (Instr.storeAt 3 t73 t66)) (fun _ w_33 => 
   pur Try.prog (Instr.indexAt 22 v_data t60) fun t74 => 
   act Try.prog (thenU (Instr.storeAt 3 t74 t72)) (fun _ w_34 => 
   J v_child w_34) w_33) (World.drew w_32)) (World.drew w_32)) (World.drew w_32))) (World.drew w_31)) (World.drew w_31)) (World.drew w_31)))) [v_lo] w
theorem eq54 (v_data v_lo v_hi v_first : Value) (Q : Value → World → Prop) (w : World) : semF Try.prog 54 [v_data, v_lo, v_hi, v_first] Q w = S54 v_data v_lo v_hi v_first Q w := by kernel_rfl
theorem ref54 {v_data v_lo v_hi v_first : Value} {Q : Value → World → Prop} {w : World} (h : S54 v_data v_lo v_hi v_first Q w) : callS Try.prog 54 #[v_data, v_lo, v_hi, v_first] Q w :=
  callS_of mix (fun a w => Try.call54 a w) (by kernel_rfl) (by rw [eq54]; exact h)
-- slices.nextPowerOfTwo
def S55 (v_length : Value) (Q : Value → World → Prop) (w : World) : Prop :=
 pur Try.prog (convert 3 67 v_length) fun t4 => 
 callS Try.prog 42 #[t4] (fun t5 w_1 => 
 pur Try.prog (binS .shl 67 true false (.int .u64 1) t5) fun t6 => 
 Q t6 w_1) w
theorem eq55 (v_length : Value) (Q : Value → World → Prop) (w : World) : semF Try.prog 55 [v_length] Q w = S55 v_length Q w := by kernel_rfl
theorem ref55 {v_length : Value} {Q : Value → World → Prop} {w : World} (h : S55 v_length Q w) : callS Try.prog 55 #[v_length] Q w :=
  callS_of mix (fun a w => Try.call55 a w) (by kernel_rfl) (by rw [eq55]; exact h)
-- (*slices.xorshift).Next
def S56 (v_r : Value) (Q : Value → World → Prop) (w : World) : Prop :=
 pur Try.prog (nilV v_r) fun t4 => 
 rd Try.prog (Instr.loadAt 78 t4) (fun t5 => 
 pur Try.prog (nilV v_r) fun t7 => 
 rd Try.prog (Instr.loadAt 78 t7) (fun t8 => 
 pur Try.prog (binS .shl 78 false true t8 (.int .u64 13)) fun t9 => 
 pur Try.prog (binS .xor 78 false false t5 t9) fun t10 => 
 pur Try.prog (nilV v_r) fun t11 => 
 act Try.prog (thenU (Instr.storeAt 78 t11 t10)) (fun _ w_1 => 
 pur Try.prog (nilV v_r) fun t13 => 
 rd Try.prog (Instr.loadAt 78 t13) (fun t14 => 
 pur Try.prog (nilV v_r) fun t16 => 
 rd Try.prog (Instr.loadAt 78 t16) (fun t17 => 
 pur Try.prog (binS .shr 78 false true t17 (.int .u64 7)) fun t18 => 
 pur Try.prog (binS .xor 78 false false t14 t18) fun t19 => 
 pur Try.prog (nilV v_r) fun t20 => 
 act Try.prog (thenU (Instr.storeAt 78 t20 t19)) (fun _ w_2 => 
 pur Try.prog (nilV v_r) fun t22 => 
 rd Try.prog (Instr.loadAt 78 t22) (fun t23 => 
 pur Try.prog (nilV v_r) fun t25 => 
 rd Try.prog (Instr.loadAt 78 t25) (fun t26 => 
 pur Try.prog (binS .shl 78 false true t26 (.int .u64 17)) fun t27 => 
 pur Try.prog (binS .xor 78 false false t23 t27) fun t28 => 
 pur Try.prog (nilV v_r) fun t29 => 
 act Try.prog (thenU (Instr.storeAt 78 t29 t28)) (fun _ w_3 => 
 pur Try.prog (nilV v_r) fun t31 => 
 rd Try.prog (Instr.loadAt 78 t31) (fun t32 => 
 Q t32 w_3) w_3) (World.drew w_2)) (World.drew w_2)) (World.drew w_2)) (World.drew w_1)) (World.drew w_1)) (World.drew w_1)) (World.drew w)) (World.drew w)) (World.drew w)
theorem eq56 (v_r : Value) (Q : Value → World → Prop) (w : World) : semF Try.prog 56 [v_r] Q w = S56 v_r Q w := by kernel_rfl
theorem ref56 {v_r : Value} {Q : Value → World → Prop} {w : World} (h : S56 v_r Q w) : callS Try.prog 56 #[v_r] Q w :=
  callS_of mix (fun a w => Try.call56 a w) (by kernel_rfl) (by rw [eq56]; exact h)
-- slices.medianAdjacentOrdered[int]
def S57 (v_data v_a v_swaps : Value) (Q : Value → World → Prop) (w : World) : Prop :=
 pur Try.prog (binS .sub 3 false true v_a (.int .i64 1)) fun t9 => 
 pur Try.prog (binS .add 3 false true v_a (.int .i64 1)) fun t12 => 
 callS Try.prog 58 #[v_data, t9, v_a, t12, v_swaps] (fun t14 w_1 => 
 Q t14 w_1) w
theorem eq57 (v_data v_a v_swaps : Value) (Q : Value → World → Prop) (w : World) : semF Try.prog 57 [v_data, v_a, v_swaps] Q w = S57 v_data v_a v_swaps Q w := by kernel_rfl
theorem ref57 {v_data v_a v_swaps : Value} {Q : Value → World → Prop} {w : World} (h : S57 v_data v_a v_swaps Q w) : callS Try.prog 57 #[v_data, v_a, v_swaps] Q w :=
  callS_of mix (fun a w => Try.call57 a w) (by kernel_rfl) (by rw [eq57]; exact h)
-- slices.medianOrdered[int]
def S58 (v_data v_a v_b v_c v_swaps : Value) (Q : Value → World → Prop) (w : World) : Prop :=
 callS Try.prog 60 #[v_data, v_a, v_b, v_swaps] (fun t16 w_1 => 
 pur Try.prog (Instr.extract t16 0) fun t17 => 
 pur Try.prog (Instr.extract t16 1) fun t18 => 
 callS Try.prog 60 #[v_data, t18, v_c, v_swaps] (fun t24 w_2 => 
 pur Try.prog (Instr.extract t24 0) fun t25 => 
 pur Try.prog (Instr.extract t24 1) fun _ => 
 callS Try.prog 60 #[v_data, t17, t25, v_swaps] (fun t32 w_3 => 
 pur Try.prog (Instr.extract t32 0) fun _ => 
 pur Try.prog (Instr.extract t32 1) fun t34 => 
 Q t34 w_3) w_2) w_1) w
theorem eq58 (v_data v_a v_b v_c v_swaps : Value) (Q : Value → World → Prop) (w : World) : semF Try.prog 58 [v_data, v_a, v_b, v_c, v_swaps] Q w = S58 v_data v_a v_b v_c v_swaps Q w := by kernel_rfl
theorem ref58 {v_data v_a v_b v_c v_swaps : Value} {Q : Value → World → Prop} {w : World} (h : S58 v_data v_a v_b v_c v_swaps Q w) : callS Try.prog 58 #[v_data, v_a, v_b, v_c, v_swaps] Q w :=
  callS_of mix (fun a w => Try.call58 a w) (by kernel_rfl) (by rw [eq58]; exact h)
-- cmp.isNaN[int]
def S59 (v_x : Value) (Q : Value → World → Prop) (w : World) : Prop :=
 pur Try.prog (binS .neq 3 false false v_x v_x) fun t5 => 
 Q t5 w
theorem eq59 (v_x : Value) (Q : Value → World → Prop) (w : World) : semF Try.prog 59 [v_x] Q w = S59 v_x Q w := by kernel_rfl
theorem ref59 {v_x : Value} {Q : Value → World → Prop} {w : World} (h : S59 v_x Q w) : callS Try.prog 59 #[v_x] Q w :=
  callS_of mix (fun a w => Try.call59 a w) (by kernel_rfl) (by rw [eq59]; exact h)
-- slices.order2Ordered[int]
def S60 (v_data v_a v_b v_swaps : Value) (Q : Value → World → Prop) (w : World) : Prop :=
 pur Try.prog (Instr.indexAt 22 v_data v_b) fun t12 => 
 rd Try.prog (Instr.loadAt 3 t12) (fun t13 => 
 pur Try.prog (Instr.indexAt 22 v_data v_a) fun t16 => 
 rd Try.prog (Instr.loadAt 3 t16) (fun t17 => 
 callS Try.prog 49 #[t13, t17] (fun t18 w_1 => 
 condS t18
  (pur Try.prog (nilV v_swaps) fun t20 => 
  rd Try.prog (Instr.loadAt 3 t20) (fun t21 => 
  pur Try.prog (binS .add 3 false true t21 (.int .i64 1)) fun t22 => 
  pur Try.prog (nilV v_swaps) fun t23 => 
  act Try.prog (thenU (Instr.storeAt 3 t23 t22)) (fun _ w_2 => 
  Q (.tuple #[v_b, v_a]) w_2) w_1) w_1)
  (Q (.tuple #[v_a, v_b]) w_1)) (World.drew w)) (World.drew w)) (World.drew w)
theorem eq60 (v_data v_a v_b v_swaps : Value) (Q : Value → World → Prop) (w : World) : semF Try.prog 60 [v_data, v_a, v_b, v_swaps] Q w = S60 v_data v_a v_b v_swaps Q w := by kernel_rfl
theorem ref60 {v_data v_a v_b v_swaps : Value} {Q : Value → World → Prop} {w : World} (h : S60 v_data v_a v_b v_swaps Q w) : callS Try.prog 60 #[v_data, v_a, v_b, v_swaps] Q w :=
  callS_of mix (fun a w => Try.call60 a w) (by kernel_rfl) (by rw [eq60]; exact h)
end Go.Proofs.Ytcmcdiddplmkaaa
