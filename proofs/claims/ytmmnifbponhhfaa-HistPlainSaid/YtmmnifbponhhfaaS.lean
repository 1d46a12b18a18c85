/- The readings of the functions' code, printed by a program, each held equal to the one that is computed: for all arguments, all worlds.
   Conditions: none. -/
import Derived.Test.YtmmnifbponhhfaaShC
import Derived.Test.YtmmnifbponhhfaaProg
import Derived.KernelRfl
set_option linter.unusedSimpArgs false
set_option linter.unusedVariables false
namespace Go.Proofs.Ytmmnifbponhhfaa
open Go.Sh
set_option maxRecDepth 100000
theorem mix : Try.prog.follows .mixedOrders = true := by kernel_rfl

-- gosem.cut.init
def S2 (Q : Value → World → Prop) (w : World) : Prop :=
 callS Try.prog 1 #[] (fun _ w_1 => 
 Q (.tuple #[]) w_1) w
theorem eq2 (Q : Value → World → Prop) (w : World) : semF Try.prog 2 [] Q w = S2 Q w := by kernel_rfl
theorem ref2 {Q : Value → World → Prop} {w : World} (h : S2 Q w) : callS Try.prog 2 #[] Q w :=
  callS_of mix (fun a w => Try.call2 a w) (by kernel_rfl) (by rw [eq2]; exact h)
-- commons/commonslaw26.HistPlain
def S3 (v_writes v_reads v_at : Value) (Q : Value → World → Prop) (w : World) : Prop :=
 pur Try.prog (Builtin.len_ #[22] 3 #[v_writes]) fun t25 => 
 pur Try.prog (binS .gtr 3 false true t25 (.int .i64 30)) fun t26 => 
 gd t26 false (fun k w_1 => k v_reads w_1) (fun t28_1 w_2 => 
 gd t26 false (fun k_1 w_3 => pur Try.prog (Builtin.len_ #[22] 3 #[t28_1]) fun t29 => k_1 t29 w_3) (fun t29_1 w_4 => 
 gd t26 false (fun k_2 w_5 => pur Try.prog (binS .gtr 3 false true t29_1 (.int .i64 30)) fun t30 => k_2 t30 w_5) (fun t30_1 w_6 => 
 pur Try.prog (pickS t26 (.bool true) t30_1) fun t31 => 
 condS t31
  (callS Try.prog 6 #[] (fun t32 w_7 => 
  Q t32 w_7) w_6)
  (act Try.prog (Instr.makeSlice 25 (.int .i64 10) (.int .i64 10)) (fun t33 w_8 => 
 lp 1 (fun J => fun v_i w_9 => ∀ _j : Fr, 
  pur Try.prog (binS .lss 3 false true v_i (.int .i64 10)) fun t35 => 
  condS t35
   (act Try.prog (Instr.makeSlice 26 (.int .i64 96) (.int .i64 96)) (fun t41 w_10 => 
  act Try.prog (convert 26 9 t41) (fun t42 w_11 => 
  pur Try.prog (Instr.build 29 #[(0, v_i), (2, t42)]) fun t43 => 
  pur Try.prog (Instr.indexAt 25 t33 v_i) fun t44 => 
  act Try.prog (thenU (Instr.storeAt 29 t44 t43)) (fun _ w_12 => 
  pur Try.prog (binS .add 3 false true v_i (.int .i64 1)) fun t37 => 
  J t37 w_12) w_11) w_10) w_9)
   (lp 3 (fun J_1 => fun v_l v_n v_i_1 w_13 => ∀ _j : Fr, 
  pur Try.prog (Builtin.len_ #[22] 3 #[v_writes]) fun t47 => 
  pur Try.prog (binS .lss 3 false false v_i_1 t47) fun t48 => 
  condS t48
   (pur Try.prog (Instr.indexAt 22 v_writes v_i_1) fun t53 => 
  rd Try.prog (Instr.loadAt 30 t53) (fun t54 => 
  pur Try.prog (Builtin.len_ #[30] 3 #[t54]) fun t55 => 
  pur Try.prog (binS .gtr 3 false true t55 (.int .i64 10)) fun t56 => 
  condS t56
   (Q (.bool true) w_13)
   (pur Try.prog (binS .rem 3 false true v_i_1 (.int .i64 3)) fun t58 => 
  pur Try.prog (binS .add 3 true false (.int .i64 1) t58) fun t59 => 
  pur Try.prog (binS .rem 3 false true v_i_1 (.int .i64 3)) fun t61 => 
  pur Try.prog (binS .add 3 true false (.int .i64 1) t61) fun t62 => 
  pur Try.prog (convert 3 27 t62) fun t63 => 
  pur Try.prog (binS .add 3 true false (.int .i64 1) v_i_1) fun t65 => 
  pur Try.prog (convert 3 27 t65) fun t66 => 
  pur Try.prog (Instr.build 32 #[(0, (.int .i64 1)), (1, t59), (2, t63), (3, t66)]) fun t67 => 
  act Try.prog (Instr.alloc 32 true (.tuple #[])) (fun t12 w_14 => 
  act Try.prog (thenU (Instr.storeAt 32 t12 t67)) (fun _ w_15 => 
  lp 2 (fun J_2 => fun v_n_1 v_k w_16 => ∀ _j : Fr, 
   pur Try.prog (Builtin.len_ #[22] 3 #[v_reads]) fun t70 => 
   pur Try.prog (binS .lss 3 false false v_i_1 t70) fun t71 => 
   gd t71 true (fun k_3 w_17 => k_3 v_k w_17) (fun t73_1 w_18 => 
   gd t71 true (fun k_4 w_19 => k_4 v_reads w_19) (fun t74_1 w_20 => 
   gd t71 true (fun k_5 w_21 => k_5 v_i_1 w_21) (fun t75_1 w_22 => 
   gd t71 true (fun k_6 w_23 => pur Try.prog (Instr.indexAt 22 t74_1 t75_1) fun t76 => k_6 t76 w_23) (fun t76_1 w_24 => 
   gd t71 true (fun k_7 w_25 => rd Try.prog (Instr.loadAt 30 t76_1) (fun t77 => k_7 t77 w_25) w_25) (fun t77_1 w_26 => 
   gd t71 true (fun k_8 w_27 => pur Try.prog (Builtin.len_ #[30] 3 #[t77_1]) fun t78 => k_8 t78 w_27) (fun t78_1 w_28 => 
   gd t71 true (fun k_9 w_29 => pur Try.prog (binS .lss 3 false false t73_1 t78_1) fun t79 => k_9 t79 w_29) (fun t79_1 w_30 => 
   pur Try.prog (pickS t71 t79_1 (.bool false)) fun t80 => 
   gd t80 true (fun k_10 w_31 => k_10 v_k w_31) (fun t82_1 w_32 => 
   gd t80 true (fun k_11 w_33 => pur Try.prog (binS .lss 3 false true t82_1 (.int .i64 10)) fun t83 => k_11 t83 w_33) (fun t83_1 w_34 => 
   pur Try.prog (pickS t80 t83_1 (.bool false)) fun t84 => 
   condS t84
    (jn 0 (fun J_3 => 
    pur Try.prog (Instr.fieldAt 32 t12 4) fun t87 => 
    pur Try.prog (Instr.indexAt 22 v_reads v_i_1) fun t92 => 
    rd Try.prog (Instr.loadAt 30 t92) (fun t93 => 
    pur Try.prog (Instr.indexAt 30 t93 v_k) fun t95 => 
    rd Try.prog (Instr.loadAt 3 t95) (fun t96 => 
    pur Try.prog (binS .and 3 false true t96 (.int .i64 7)) fun t97 => 
    pur Try.prog (Instr.indexAt 25 t33 t97) fun t98 => 
    rd Try.prog (Instr.loadAt 29 t98) (fun t99 => 
    (rd Try.prog (Instr.loadAt 25 t87) (fun t88 => 
    act Try.prog (Instr.buildSlice 25 1 #[(0, t99)]) (fun t100 w_35 => 
    act Try.prog (Builtin.append_ #[25, 25] 25 #[t88, t100]) (fun t101 w_36 => 
    pur Try.prog (Instr.fieldAt 32 t12 4) fun t102 => 
    act Try.prog (thenU (Instr.storeAt 25 t102 t101)) (fun _ w_37 => 
    J_3  w_37) w_36) w_35) (World.drew w_34)) (World.drew w_34)
    ) ∧ (act Try.prog (Instr.buildSlice 25 1 #[(0, t99)]) (fun t100_1 w_38 => 
    rd Try.prog (Instr.loadAt 25 t87) (fun t88_1 => 
    act Try.prog (Builtin.append_ #[25, 25] 25 #[t88_1, t100_1]) (fun t101_1 w_39 => 
    pur Try.prog (Instr.fieldAt 32 t12 4) fun t102_1 => 
    act Try.prog (thenU (Instr.storeAt 25 t102_1 t101_1)) (fun _ w_40 => 
    J_3  w_40) w_39) w_38) w_38) (World.drew w_34))) (World.drew w_34)) (World.drew w_34)) (World.drew w_34))
   (fun  w_41 => ∀ _j : Fr, 
    pur Try.prog (binS .add 3 false true v_n_1 (.int .i64 1)) fun t104 => 
   pur Try.prog (binS .add 3 false true v_k (.int .i64 1)) fun t86 => 
   J_2 t104 t86 w_41))
    (lp 1 (fun J_4 => fun v_k_1 w_42 => ∀ _j : Fr, 
   pur Try.prog (Instr.indexAt 22 v_writes v_i_1) fun t108 => 
   rd Try.prog (Instr.loadAt 30 t108) (fun t109 => 
   pur Try.prog (Builtin.len_ #[30] 3 #[t109]) fun t110 => 
   pur Try.prog (binS .lss 3 false false v_k_1 t110) fun t111 => 
   condS t111
    (pur Try.prog (Instr.indexAt 22 v_writes v_i_1) fun t116 => 
   rd Try.prog (Instr.loadAt 30 t116) (fun t117 => 
   pur Try.prog (Instr.indexAt 30 t117 v_k_1) fun t119 => 
   rd Try.prog (Instr.loadAt 3 t119) (fun t120 => 
   pur Try.prog (binS .and 3 false true t120 (.int .i64 7)) fun t121 => 
   callS Try.prog 7 #[t121, (.int .u64 0)] (fun t123 w_43 => 
   act Try.prog (Instr.alloc 29 true (.tuple #[])) (fun t16 w_44 => 
   act Try.prog (thenU (Instr.storeAt 29 t16 t123)) (fun _ w_45 => 
   jn 0 (fun J_5 => 
    pur Try.prog (binS .add 3 false true v_i_1 (.int .i64 1)) fun t125 => 
    pur Try.prog (convert 3 5 t125) fun t126 => 
    pur Try.prog (convert 3 5 v_k_1) fun t128 => 
    pur Try.prog (Instr.fieldAt 29 t16 2) fun t131 => 
    (act Try.prog (Instr.buildSlice 26 2 #[(0, t126), (1, t128)]) (fun t129 w_46 => 
    (act Try.prog (convert 26 9 t129) (fun t130 w_47 => 
    rd Try.prog (Instr.loadAt 9 t131) (fun t132 => 
    pur Try.prog (Instr.sliceAt 9 t132 (some (.int .i64 2)) none none) fun t133 => 
    pur Try.prog (binS .add 9 false false t130 t133) fun t134 => 
    pur Try.prog (Instr.fieldAt 29 t16 2) fun t135 => 
    act Try.prog (thenU (Instr.storeAt 9 t135 t134)) (fun _ w_48 => 
    J_5  w_48) w_47) w_47) w_46
    ) ∧ (rd Try.prog (Instr.loadAt 9 t131) (fun t132_1 => 
    act Try.prog (convert 26 9 t129) (fun t130_1 w_49 => 
    pur Try.prog (Instr.sliceAt 9 t132_1 (some (.int .i64 2)) none none) fun t133_1 => 
    pur Try.prog (binS .add 9 false false t130_1 t133_1) fun t134_1 => 
    pur Try.prog (Instr.fieldAt 29 t16 2) fun t135_1 => 
    act Try.prog (thenU (Instr.storeAt 9 t135_1 t134_1)) (fun _ w_50 => 
    J_5  w_50) w_49) w_46) w_46)) (World.drew w_45)
    ) ∧ (rd Try.prog (Instr.loadAt 9 t131) (fun t132_2 => 
    act Try.prog (Instr.buildSlice 26 2 #[(0, t126), (1, t128)]) (fun t129_1 w_51 => 
    act Try.prog (convert 26 9 t129_1) (fun t130_2 w_52 => 
    pur Try.prog (Instr.sliceAt 9 t132_2 (some (.int .i64 2)) none none) fun t133_2 => 
    pur Try.prog (binS .add 9 false false t130_2 t133_2) fun t134_2 => 
    pur Try.prog (Instr.fieldAt 29 t16 2) fun t135_2 => 
    act Try.prog (thenU (Instr.storeAt 9 t135_2 t134_2)) (fun _ w_53 => 
    J_5  w_53) w_52) w_51) (World.drew w_45)) (World.drew w_45)))
   (fun  w_54 => ∀ _j : Fr, 
    pur Try.prog (Instr.fieldAt 32 t12 5) fun t136 => 
   rd Try.prog (Instr.loadAt 25 t136) (fun t137 => 
   rd Try.prog (Instr.loadAt 29 t16) (fun t138 => 
   act Try.prog (Instr.buildSlice 25 1 #[(0, t138)]) (fun t139 w_55 => 
   act Try.prog (Builtin.append_ #[25, 25] 25 #[t137, t139]) (fun t140 w_56 => 
   pur Try.prog (Instr.fieldAt 32 t12 5) fun t141 => 
   act Try.prog (thenU (Instr.storeAt 25 t141 t140)) (fun _ w_57 => 
   rd Try.prog (Instr.loadAt 29 t16) (fun t144 => 
   pur Try.prog (Instr.indexAt 25 t33 t121) fun t145 => 
   act Try.prog (thenU (Instr.storeAt 29 t145 t144)) (fun _ w_58 => 
   pur Try.prog (binS .add 3 false true v_k_1 (.int .i64 1)) fun t113 => 
   J_4 t113 w_58) w_57) w_57) w_56) w_55) w_54) w_54) w_54)) w_44) w_43) w_42) w_42) w_42)
    (rd Try.prog (Instr.loadAt 32 t12) (fun t147 => 
  act Try.prog (Instr.buildSlice 24 1 #[(0, t147)]) (fun t148 w_59 => 
  act Try.prog (Builtin.append_ #[24, 24] 24 #[v_l, t148]) (fun t149 w_60 => 
  pur Try.prog (binS .add 3 false true v_i_1 (.int .i64 1)) fun t50 => 
  J_1 t149 v_n_1 t50 w_60) w_59) w_42) w_42)) w_42) [(.int .i64 0)] w_34)) w_32) w_30) w_28) w_26) w_24) w_22) w_20) w_18) w_16) [v_n, (.int .i64 0)] w_15) w_14) w_13)) w_13)
   (act Try.prog (Builtin.append_ #[24, 24] 24 #[(.slice none 0 0), v_l]) (fun t152 w_61 => 
 pur Try.prog (Instr.build 32 #[(0, (.int .i64 4)), (4, t33)]) fun t154 => 
 act Try.prog (Instr.buildSlice 24 1 #[(0, t154)]) (fun t155 w_62 => 
 act Try.prog (Builtin.append_ #[24, 24] 24 #[t152, t155]) (fun t156 w_63 => 
 callS Try.prog 8 #[t156] (fun t157 w_64 => 
 pur Try.prog (Instr.extract t157 0) fun t158 => 
 pur Try.prog (Instr.extract t157 1) fun t159 => 
 pur Try.prog (Op.unary .not t158) fun t161 => 
 gd t161 false (fun k_12 w_65 => k_12 t159 w_65) (fun t163_1 w_66 => 
 gd t161 false (fun k_13 w_67 => pur Try.prog (binS .neq 34 false true t163_1 (.int .i64 0)) fun t164 => k_13 t164 w_67) (fun t164_1 w_68 => 
 pur Try.prog (pickS t161 (.bool true) t164_1) fun t165 => 
 gd t165 false (fun k_14 w_69 => k_14 v_n w_69) (fun t167_1 w_70 => 
 gd t165 false (fun k_15 w_71 => pur Try.prog (binS .eql 3 false true t167_1 (.int .i64 0)) fun t168 => k_15 t168 w_71) (fun t168_1 w_72 => 
 pur Try.prog (pickS t165 (.bool true) t168_1) fun t169 => 
 condS t169
  (gd t158 true (fun k_16 w_73 => k_16 t159 w_73) (fun t172_1 w_74 => 
  gd t158 true (fun k_17 w_75 => pur Try.prog (binS .eql 34 false true t172_1 (.int .i64 0)) fun t173 => k_17 t173 w_75) (fun t173_1 w_76 => 
  pur Try.prog (pickS t158 t173_1 (.bool false)) fun t174 => 
  gd t174 true (fun k_18 w_77 => callS Try.prog 6 #[] (fun t176 w_78 => k_18 t176 w_78) w_77) (fun t176_1 w_79 => 
  pur Try.prog (pickS t174 t176_1 (.bool false)) fun t177 => 
  Q t177 w_79) w_76) w_74) w_72)
  (pur Try.prog (binS .rem 3 false false v_at v_n) fun t180 => 
 jn 1 (fun J_6 => 
  pur Try.prog (binS .lss 3 false true t180 (.int .i64 0)) fun t182 => 
  condS t182
   (pur Try.prog (binS .add 3 false false t180 v_n) fun t185 => 
   J_6 t185 w_72)
   (J_6 t180 w_72))
 (fun v_k_2 w_80 => ∀ _j : Fr, 
  jn 0 (fun J_7 => 
   lp 2 (fun J_8 => fun v_k_3 v_i_2 w_81 => ∀ _j : Fr, 
    pur Try.prog (Builtin.len_ #[24] 3 #[v_l]) fun t188 => 
    pur Try.prog (binS .lss 3 false false v_i_2 t188) fun t189 => 
    condS t189
     (pur Try.prog (Instr.indexAt 24 v_l v_i_2) fun t195 => 
    pur Try.prog (Instr.fieldAt 32 t195 4) fun t196 => 
    rd Try.prog (Instr.loadAt 25 t196) (fun t197 => 
    pur Try.prog (Builtin.len_ #[25] 3 #[t197]) fun t198 => 
    pur Try.prog (binS .lss 3 false false v_k_3 t198) fun t199 => 
    condS t199
     (pur Try.prog (Instr.indexAt 24 v_l v_i_2) fun t202 => 
     pur Try.prog (Instr.fieldAt 32 t202 4) fun t203 => 
     rd Try.prog (Instr.loadAt 25 t203) (fun t204 => 
     act Try.prog (Builtin.append_ #[25, 25] 25 #[(.slice none 0 0), t204]) (fun t205 w_82 => 
     pur Try.prog (Instr.indexAt 25 t205 v_k_3) fun t210 => 
     pur Try.prog (Instr.fieldAt 29 t210 2) fun t211 => 
     rd Try.prog (Instr.loadAt 9 t211) (fun t212 => 
     pur Try.prog (Instr.sliceAt 9 t212 (some (.int .i64 1)) none none) fun t213 => 
     pur Try.prog (binS .add 9 true false (.string ⟨#[238]⟩) t213) fun t214 => 
     pur Try.prog (Instr.indexAt 25 t205 v_k_3) fun t215 => 
     pur Try.prog (Instr.fieldAt 29 t215 2) fun t216 => 
     act Try.prog (thenU (Instr.storeAt 9 t216 t214)) (fun _ w_83 => 
     pur Try.prog (Instr.indexAt 24 v_l v_i_2) fun t220 => 
     pur Try.prog (Instr.fieldAt 32 t220 4) fun t221 => 
     act Try.prog (thenU (Instr.storeAt 25 t221 t205)) (fun _ w_84 => 
     J_7  w_84) w_83) w_82) w_82) w_81) w_81)
     (pur Try.prog (Instr.indexAt 24 v_l v_i_2) fun t225 => 
    pur Try.prog (Instr.fieldAt 32 t225 4) fun t226 => 
    rd Try.prog (Instr.loadAt 25 t226) (fun t227 => 
    pur Try.prog (Builtin.len_ #[25] 3 #[t227]) fun t228 => 
    pur Try.prog (binS .sub 3 false false v_k_3 t228) fun t229 => 
    pur Try.prog (binS .add 3 false true v_i_2 (.int .i64 1)) fun t191 => 
    J_8 t229 t191 w_81) w_81)) w_81)
     (J_7  w_81)) [v_k_2, (.int .i64 0)] w_80)
  (fun  w_85 => ∀ _j : Fr, 
   callS Try.prog 8 #[v_l] (fun t232 w_86 => 
   pur Try.prog (Instr.extract t232 0) fun t233 => 
   pur Try.prog (Instr.extract t232 1) fun t234 => 
   callS Try.prog 6 #[] (fun t235 w_87 => 
   gd t235 true (fun k_19 w_88 => k_19 t233 w_88) (fun t237_1 w_89 => 
   gd t235 true (fun k_20 w_90 => pur Try.prog (Op.unary .not t237_1) fun t238 => k_20 t238 w_90) (fun t238_1 w_91 => 
   pur Try.prog (pickS t235 t238_1 (.bool false)) fun t239 => 
   gd t239 true (fun k_21 w_92 => k_21 t234 w_92) (fun t241_1 w_93 => 
   gd t239 true (fun k_22 w_94 => pur Try.prog (binS .eql 34 false true t241_1 (.int .i64 0)) fun t242 => k_22 t242 w_94) (fun t242_1 w_95 => 
   pur Try.prog (pickS t239 t242_1 (.bool false)) fun t243 => 
   Q t243 w_95) w_93) w_91) w_89) w_87) w_86) w_85)))) w_70) w_68) w_66) w_64) w_63) w_62) w_61) w_13)) [(.slice none 0 0), (.int .i64 0), (.int .i64 0)] w_9)) [(.int .i64 0)] w_8) w_6)) w_4) w_2) w
theorem eq3 (v_writes v_reads v_at : Value) (Q : Value → World → Prop) (w : World) : semF Try.prog 3 [v_writes, v_reads, v_at] Q w = S3 v_writes v_reads v_at Q w := by kernel_rfl
theorem ref3 {v_writes v_reads v_at : Value} {Q : Value → World → Prop} {w : World} (h : S3 v_writes v_reads v_at Q w) : callS Try.prog 3 #[v_writes, v_reads, v_at] Q w :=
  callS_of mix (fun a w => Try.call3 a w) (by kernel_rfl) (by rw [eq3]; exact h)
-- commons/commonslaw26.HistVanish
def S4 (v_n v_synced v_read : Value) (Q : Value → World → Prop) (w : World) : Prop :=
 pur Try.prog (binS .lss 3 false true v_n (.int .i64 1)) fun t15 => 
 gd t15 false (fun k w_1 => k v_n w_1) (fun t17_1 w_2 => 
 gd t15 false (fun k_1 w_3 => pur Try.prog (binS .gtr 3 false true t17_1 (.int .i64 20)) fun t18 => k_1 t18 w_3) (fun t18_1 w_4 => 
 pur Try.prog (pickS t15 (.bool true) t18_1) fun t19 => 
 gd t19 false (fun k_2 w_5 => k_2 v_synced w_5) (fun t21_1 w_6 => 
 gd t19 false (fun k_3 w_7 => pur Try.prog (binS .lss 3 false true t21_1 (.int .i64 0)) fun t22 => k_3 t22 w_7) (fun t22_1 w_8 => 
 pur Try.prog (pickS t19 (.bool true) t22_1) fun t23 => 
 gd t23 false (fun k_4 w_9 => k_4 v_synced w_9) (fun t25_1 w_10 => 
 gd t23 false (fun k_5 w_11 => k_5 v_n w_11) (fun t26_1 w_12 => 
 gd t23 false (fun k_6 w_13 => pur Try.prog (binS .gtr 3 false false t25_1 t26_1) fun t27 => k_6 t27 w_13) (fun t27_1 w_14 => 
 pur Try.prog (pickS t23 (.bool true) t27_1) fun t28 => 
 condS t28
  (callS Try.prog 6 #[] (fun t29 w_15 => 
  Q t29 w_15) w_14)
  (lp 2 (fun J => fun v_l v_i w_16 => ∀ _j : Fr, 
  pur Try.prog (binS .leq 3 false false v_i v_n) fun t32 => 
  condS t32
   (pur Try.prog (convert 3 27 v_i) fun t37 => 
  callS Try.prog 7 #[v_i, (.int .u64 0)] (fun t39 w_17 => 
  act Try.prog (Instr.buildSlice 25 1 #[(0, t39)]) (fun t40 w_18 => 
  pur Try.prog (Instr.build 32 #[(0, (.int .i64 1)), (1, (.int .i64 1)), (2, (.int .u64 4)), (3, t37), (5, t40)]) fun t41 => 
  act Try.prog (Instr.buildSlice 24 1 #[(0, t41)]) (fun t42 w_19 => 
  act Try.prog (Builtin.append_ #[24, 24] 24 #[v_l, t42]) (fun t43 w_20 => 
  pur Try.prog (binS .add 3 false true v_i (.int .i64 1)) fun t34 => 
  J t43 t34 w_20) w_19) w_18) w_17) w_16)
   (jn 1 (fun J_1 => 
  pur Try.prog (binS .gtr 3 false true v_synced (.int .i64 0)) fun t45 => 
  condS t45
   (pur Try.prog (convert 3 27 v_synced) fun t48 => 
   pur Try.prog (Instr.build 32 #[(0, (.int .i64 2)), (1, (.int .i64 1)), (2, (.int .u64 4)), (3, t48)]) fun t49 => 
   act Try.prog (Instr.buildSlice 24 1 #[(0, t49)]) (fun t50 w_21 => 
   act Try.prog (Builtin.append_ #[24, 24] 24 #[v_l, t50]) (fun t51 w_22 => 
   J_1 t51 w_22) w_21) w_16)
   (J_1 v_l w_16))
 (fun v_l_1 w_23 => ∀ _j : Fr, 
  jn 1 (fun J_2 => 
   condS v_read
    (callS Try.prog 7 #[v_n, (.int .u64 0)] (fun t55 w_24 => 
    act Try.prog (Instr.buildSlice 25 1 #[(0, t55)]) (fun t56 w_25 => 
    pur Try.prog (Instr.build 32 #[(0, (.int .i64 1)), (1, (.int .i64 2)), (2, (.int .u64 5)), (3, (.int .u64 1)), (4, t56)]) fun t57 => 
    act Try.prog (Instr.buildSlice 24 1 #[(0, t57)]) (fun t58 w_26 => 
    act Try.prog (Builtin.append_ #[24, 24] 24 #[v_l_1, t58]) (fun t59 w_27 => 
    J_2 t59 w_27) w_26) w_25) w_24) w_23)
    (J_2 v_l_1 w_23))
  (fun v_l_2 w_28 => ∀ _j : Fr, 
   pur Try.prog (Instr.build 32 #[(0, (.int .i64 3)), (1, (.int .i64 1)), (2, (.int .u64 4))]) fun t61 => 
   act Try.prog (Instr.buildSlice 24 1 #[(0, t61)]) (fun t62 w_29 => 
   act Try.prog (Builtin.append_ #[24, 24] 24 #[v_l_2, t62]) (fun t63 w_30 => 
   act Try.prog (Instr.makeSlice 26 (.int .i64 96) (.int .i64 96)) (fun t65 w_31 => 
   act Try.prog (convert 26 9 t65) (fun t66 w_32 => 
   pur Try.prog (Instr.build 29 #[(0, v_n), (2, t66)]) fun t67 => 
   act Try.prog (Instr.alloc 29 true (.tuple #[])) (fun t9 w_33 => 
   act Try.prog (thenU (Instr.storeAt 29 t9 t67)) (fun _ w_34 => 
   jn 2 (fun J_3 => 
    ∃ S : World → Prop, S (World.drew w_34) ∧ 
   hld Try.prog S (Instr.loadAt 29 t9) fun t71 => 
    (act Try.prog (Builtin.append_ #[24, 24] 24 #[(.slice none 0 0), t63]) (fun t70 w_35 => S w_35 ∧ 
    act Try.prog (Instr.buildSlice 25 1 #[(0, t71)]) (fun t72 w_36 => S w_36 ∧ 
    pur Try.prog (Instr.build 32 #[(0, (.int .i64 4)), (4, t72)]) fun t73 => 
    act Try.prog (Instr.buildSlice 24 1 #[(0, t73)]) (fun t74 w_37 => S w_37 ∧ 
    act Try.prog (Builtin.append_ #[24, 24] 24 #[t70, t74]) (fun t75 w_38 => S w_38 ∧ 
    callS Try.prog 8 #[t75] (fun t76 w_39 => S w_39 ∧ 
    pur Try.prog (Instr.extract t76 0) fun t77 => 
    pur Try.prog (Instr.extract t76 1) fun t78 => 
    J_3 t77 t78 w_39) w_38) w_37) w_36) w_35) (World.drew w_34)
    ) ∧ (act Try.prog (Instr.buildSlice 25 1 #[(0, t71)]) (fun t72_1 w_40 => S w_40 ∧ 
    pur Try.prog (Instr.build 32 #[(0, (.int .i64 4)), (4, t72_1)]) fun t73_1 => 
    (act Try.prog (Builtin.append_ #[24, 24] 24 #[(.slice none 0 0), t63]) (fun t70_1 w_41 => S w_41 ∧ 
    act Try.prog (Instr.buildSlice 24 1 #[(0, t73_1)]) (fun t74_1 w_42 => S w_42 ∧ 
    act Try.prog (Builtin.append_ #[24, 24] 24 #[t70_1, t74_1]) (fun t75_1 w_43 => S w_43 ∧ 
    callS Try.prog 8 #[t75_1] (fun t76_1 w_44 => S w_44 ∧ 
    pur Try.prog (Instr.extract t76_1 0) fun t77_1 => 
    pur Try.prog (Instr.extract t76_1 1) fun t78_1 => 
    J_3 t77_1 t78_1 w_44) w_43) w_42) w_41) w_40
    ) ∧ (act Try.prog (Instr.buildSlice 24 1 #[(0, t73_1)]) (fun t74_2 w_45 => S w_45 ∧ 
    act Try.prog (Builtin.append_ #[24, 24] 24 #[(.slice none 0 0), t63]) (fun t70_2 w_46 => S w_46 ∧ 
    act Try.prog (Builtin.append_ #[24, 24] 24 #[t70_2, t74_2]) (fun t75_2 w_47 => S w_47 ∧ 
    callS Try.prog 8 #[t75_2] (fun t76_2 w_48 => S w_48 ∧ 
    pur Try.prog (Instr.extract t76_2 0) fun t77_2 => 
    pur Try.prog (Instr.extract t76_2 1) fun t78_2 => 
    J_3 t77_2 t78_2 w_48) w_47) w_46) w_45) w_40)) (World.drew w_34)))
   (fun v_a v_e w_49 => ∀ _j : Fr, 
    act Try.prog (Builtin.append_ #[24, 24] 24 #[(.slice none 0 0), t63]) (fun t81 w_50 => 
   callS Try.prog 7 #[v_n, (.int .u64 0)] (fun t83 w_51 => 
   act Try.prog (Instr.buildSlice 25 1 #[(0, t83)]) (fun t84 w_52 => 
   pur Try.prog (Instr.build 32 #[(0, (.int .i64 4)), (4, t84)]) fun t85 => 
   act Try.prog (Instr.buildSlice 24 1 #[(0, t85)]) (fun t86 w_53 => 
   act Try.prog (Builtin.append_ #[24, 24] 24 #[t81, t86]) (fun t87 w_54 => 
   callS Try.prog 8 #[t87] (fun t88 w_55 => 
   pur Try.prog (Instr.extract t88 0) fun t89 => 
   pur Try.prog (Instr.extract t88 1) fun t90 => 
   callS Try.prog 6 #[] (fun t91 w_56 => 
   gd t91 true (fun k_7 w_57 => k_7 v_e w_57) (fun t93_1 w_58 => 
   gd t91 true (fun k_8 w_59 => pur Try.prog (binS .eql 34 false true t93_1 (.int .i64 0)) fun t94 => k_8 t94 w_59) (fun t94_1 w_60 => 
   pur Try.prog (pickS t91 t94_1 (.bool false)) fun t95 => 
   gd t95 true (fun k_9 w_61 => k_9 t90 w_61) (fun t97_1 w_62 => 
   gd t95 true (fun k_10 w_63 => pur Try.prog (binS .eql 34 false true t97_1 (.int .i64 0)) fun t98 => k_10 t98 w_63) (fun t98_1 w_64 => 
   pur Try.prog (pickS t95 t98_1 (.bool false)) fun t99 => 
   gd t99 true (fun k_11 w_65 => k_11 v_a w_65) (fun t101_1 w_66 => 
   gd t99 true (fun k_12 w_67 => k_12 v_synced w_67) (fun t102_1 w_68 => 
   gd t99 true (fun k_13 w_69 => k_13 v_n w_69) (fun t103_1 w_70 => 
   gd t99 true (fun k_14 w_71 => pur Try.prog (binS .lss 3 false false t102_1 t103_1) fun t104 => k_14 t104 w_71) (fun t104_1 w_72 => 
   gd t99 true (fun k_15 w_73 => k_15 t104_1 w_73) (fun t105_1 w_74 => 
   gd t105_1 true (fun k_16 w_75 => k_16 v_read w_75) (fun t106_1 w_76 => 
   gd t105_1 true (fun k_17 w_77 => pur Try.prog (Op.unary .not t106_1) fun t107 => k_17 t107 w_77) (fun t107_1 w_78 => 
   gd t99 true (fun k_18 w_79 => pur Try.prog (pickS t105_1 t107_1 (.bool false)) fun t108 => k_18 t108 w_79) (fun t108_1 w_80 => 
   gd t99 true (fun k_19 w_81 => pur Try.prog (binS .eql 4 false false t101_1 t108_1) fun t109 => k_19 t109 w_81) (fun t109_1 w_82 => 
   pur Try.prog (pickS t99 t109_1 (.bool false)) fun t110 => 
   gd t110 true (fun k_20 w_83 => k_20 t89 w_83) (fun t112_1 w_84 => 
   pur Try.prog (pickS t110 t112_1 (.bool false)) fun t113 => 
   Q t113 w_84) w_82) w_80) w_78) w_76) w_74) w_72) w_70) w_68) w_66) w_64) w_62) w_60) w_58) w_56) w_55) w_54) w_53) w_52) w_51) w_50) w_49)) w_33) w_32) w_31) w_30) w_29) w_28)))) [(.slice none 0 0), (.int .i64 1)] w_14)) w_12) w_10) w_8) w_6) w_4) w_2) w
theorem eq4 (v_n v_synced v_read : Value) (Q : Value → World → Prop) (w : World) : semF Try.prog 4 [v_n, v_synced, v_read] Q w = S4 v_n v_synced v_read Q w := by kernel_rfl
theorem ref4 {v_n v_synced v_read : Value} {Q : Value → World → Prop} {w : World} (h : S4 v_n v_synced v_read Q w) : callS Try.prog 4 #[v_n, v_synced, v_read] Q w :=
  callS_of mix (fun a w => Try.call4 a w) (by kernel_rfl) (by rw [eq4]; exact h)
-- commons/commonslaw26.HistOrder
def S5 (v_block v_read : Value) (Q : Value → World → Prop) (w : World) : Prop :=
 pur Try.prog (binS .lss 3 false true v_block (.int .i64 0)) fun t16 => 
 gd t16 false (fun k w_1 => k v_block w_1) (fun t18_1 w_2 => 
 gd t16 false (fun k_1 w_3 => pur Try.prog (binS .gtr 3 false true t18_1 (.int .i64 100)) fun t19 => k_1 t19 w_3) (fun t19_1 w_4 => 
 pur Try.prog (pickS t16 (.bool true) t19_1) fun t20 => 
 condS t20
  (callS Try.prog 6 #[] (fun t21 w_5 => 
  Q t21 w_5) w_4)
  (callS Try.prog 7 #[v_block, (.int .u64 0)] (fun t23 w_6 => 
 callS Try.prog 7 #[v_block, (.int .u64 0)] (fun t25 w_7 => 
 act Try.prog (Instr.alloc 29 true (.tuple #[])) (fun t5 w_8 => 
 act Try.prog (Instr.alloc 29 true (.tuple #[])) (fun t6 w_9 => 
 act Try.prog (thenU (Instr.storeAt 29 t5 t23)) (fun _ w_10 => 
 act Try.prog (thenU (Instr.storeAt 29 t6 t25)) (fun _ w_11 => 
 jn 0 (fun J => 
  pur Try.prog (Instr.fieldAt 29 t5 2) fun t26 => 
  rd Try.prog (Instr.loadAt 9 t26) (fun t27 => 
  pur Try.prog (Instr.sliceAt 9 t27 (some (.int .i64 1)) none none) fun t28 => 
  pur Try.prog (binS .add 9 true false (.string ⟨#[97]⟩) t28) fun t29 => 
  pur Try.prog (Instr.fieldAt 29 t6 2) fun t30 => 
  pur Try.prog (Instr.fieldAt 29 t5 2) fun t34 => 
  (rd Try.prog (Instr.loadAt 9 t30) (fun t31 => 
  pur Try.prog (Instr.sliceAt 9 t31 (some (.int .i64 1)) none none) fun t32 => 
  pur Try.prog (binS .add 9 true false (.string ⟨#[98]⟩) t32) fun t33 => 
  act Try.prog (thenU (Instr.storeAt 9 t34 t29)) (fun _ w_12 => 
  pur Try.prog (Instr.fieldAt 29 t6 2) fun t35 => 
  act Try.prog (thenU (Instr.storeAt 9 t35 t33)) (fun _ w_13 => 
  J  w_13) w_12) (World.drew w_11)) (World.drew w_11)
  ) ∧ (act Try.prog (thenU (Instr.storeAt 9 t34 t29)) (fun _ w_14 => 
  rd Try.prog (Instr.loadAt 9 t30) (fun t31_1 => 
  pur Try.prog (Instr.sliceAt 9 t31_1 (some (.int .i64 1)) none none) fun t32_1 => 
  pur Try.prog (binS .add 9 true false (.string ⟨#[98]⟩) t32_1) fun t33_1 => 
  pur Try.prog (Instr.fieldAt 29 t6 2) fun t35_1 => 
  act Try.prog (thenU (Instr.storeAt 9 t35_1 t33_1)) (fun _ w_15 => 
  J  w_15) w_14) w_14) (World.drew w_11))) (World.drew w_11))
 (fun  w_16 => ∀ _j : Fr, 
  rd Try.prog (Instr.loadAt 29 t5) (fun t36 => 
 act Try.prog (Instr.buildSlice 25 1 #[(0, t36)]) (fun t37 w_17 => 
 pur Try.prog (Instr.build 32 #[(0, (.int .i64 1)), (1, (.int .i64 1)), (2, (.int .u64 1)), (3, (.int .u64 1)), (5, t37)]) fun t38 => 
 act Try.prog (Instr.alloc 32 true (.tuple #[])) (fun t7 w_18 => 
 act Try.prog (thenU (Instr.storeAt 32 t7 t38)) (fun _ w_19 => 
 rd Try.prog (Instr.loadAt 29 t6) (fun t39 => 
 act Try.prog (Instr.buildSlice 25 1 #[(0, t39)]) (fun t40 w_20 => 
 pur Try.prog (Instr.build 32 #[(0, (.int .i64 1)), (1, (.int .i64 2)), (2, (.int .u64 2)), (3, (.int .u64 1)), (5, t40)]) fun t41 => 
 act Try.prog (Instr.alloc 32 true (.tuple #[])) (fun t8 w_21 => 
 act Try.prog (thenU (Instr.storeAt 32 t8 t41)) (fun _ w_22 => 
 jn 0 (fun J_1 => 
  condS v_read
   (rd Try.prog (Instr.loadAt 29 t5) (fun t43 => 
   act Try.prog (Instr.buildSlice 25 1 #[(0, t43)]) (fun t44 w_23 => 
   pur Try.prog (Instr.fieldAt 32 t8 4) fun t45 => 
   act Try.prog (thenU (Instr.storeAt 25 t45 t44)) (fun _ w_24 => 
   J_1  w_24) w_23) w_22) w_22)
   (J_1  w_22))
 (fun  w_25 => ∀ _j : Fr, 
  rd Try.prog (Instr.loadAt 32 t7) (fun t47 => 
  rd Try.prog (Instr.loadAt 32 t8) (fun t48 => 
  rd Try.prog (Instr.loadAt 29 t6) (fun t49 => 
  act Try.prog (Instr.buildSlice 25 1 #[(0, t49)]) (fun t50 w_26 => 
  pur Try.prog (Instr.build 32 #[(0, (.int .i64 4)), (4, t50)]) fun t51 => 
  act Try.prog (Instr.buildSlice 24 3 #[(0, t47), (1, t48), (2, t51)]) (fun t52 w_27 => 
  callS Try.prog 8 #[t52] (fun t53 w_28 => 
  pur Try.prog (Instr.extract t53 0) fun t54 => 
  pur Try.prog (Instr.extract t53 1) fun t55 => 
  rd Try.prog (Instr.loadAt 32 t8) (fun t57 => 
  rd Try.prog (Instr.loadAt 32 t7) (fun t58 => 
  rd Try.prog (Instr.loadAt 29 t5) (fun t59 => 
  act Try.prog (Instr.buildSlice 25 1 #[(0, t59)]) (fun t60 w_29 => 
  pur Try.prog (Instr.build 32 #[(0, (.int .i64 4)), (4, t60)]) fun t61 => 
  act Try.prog (Instr.buildSlice 24 3 #[(0, t57), (1, t58), (2, t61)]) (fun t62 w_30 => 
  callS Try.prog 8 #[t62] (fun t63 w_31 => 
  pur Try.prog (Instr.extract t63 0) fun t64 => 
  pur Try.prog (Instr.extract t63 1) fun t65 => 
  rd Try.prog (Instr.loadAt 32 t8) (fun t67 => 
  rd Try.prog (Instr.loadAt 32 t7) (fun t68 => 
  rd Try.prog (Instr.loadAt 29 t6) (fun t69 => 
  act Try.prog (Instr.buildSlice 25 1 #[(0, t69)]) (fun t70 w_32 => 
  pur Try.prog (Instr.build 32 #[(0, (.int .i64 4)), (4, t70)]) fun t71 => 
  act Try.prog (Instr.buildSlice 24 3 #[(0, t67), (1, t68), (2, t71)]) (fun t72 w_33 => 
  callS Try.prog 8 #[t72] (fun t73 w_34 => 
  pur Try.prog (Instr.extract t73 0) fun t74 => 
  pur Try.prog (Instr.extract t73 1) fun t75 => 
  callS Try.prog 6 #[] (fun t76 w_35 => 
  gd t76 true (fun k_2 w_36 => k_2 t55 w_36) (fun t78_1 w_37 => 
  gd t76 true (fun k_3 w_38 => pur Try.prog (binS .eql 34 false true t78_1 (.int .i64 0)) fun t79 => k_3 t79 w_38) (fun t79_1 w_39 => 
  pur Try.prog (pickS t76 t79_1 (.bool false)) fun t80 => 
  gd t80 true (fun k_4 w_40 => k_4 t65 w_40) (fun t82_1 w_41 => 
  gd t80 true (fun k_5 w_42 => pur Try.prog (binS .eql 34 false true t82_1 (.int .i64 0)) fun t83 => k_5 t83 w_42) (fun t83_1 w_43 => 
  pur Try.prog (pickS t80 t83_1 (.bool false)) fun t84 => 
  gd t84 true (fun k_6 w_44 => k_6 t75 w_44) (fun t86_1 w_45 => 
  gd t84 true (fun k_7 w_46 => pur Try.prog (binS .eql 34 false true t86_1 (.int .i64 0)) fun t87 => k_7 t87 w_46) (fun t87_1 w_47 => 
  pur Try.prog (pickS t84 t87_1 (.bool false)) fun t88 => 
  gd t88 true (fun k_8 w_48 => k_8 t54 w_48) (fun t90_1 w_49 => 
  pur Try.prog (pickS t88 t90_1 (.bool false)) fun t91 => 
  gd t91 true (fun k_9 w_50 => k_9 t64 w_50) (fun t93_1 w_51 => 
  gd t91 true (fun k_10 w_52 => k_10 v_read w_52) (fun t94_1 w_53 => 
  gd t91 true (fun k_11 w_54 => pur Try.prog (Op.unary .not t94_1) fun t95 => k_11 t95 w_54) (fun t95_1 w_55 => 
  gd t91 true (fun k_12 w_56 => pur Try.prog (binS .eql 4 false false t93_1 t95_1) fun t96 => k_12 t96 w_56) (fun t96_1 w_57 => 
  pur Try.prog (pickS t91 t96_1 (.bool false)) fun t97 => 
  gd t97 true (fun k_13 w_58 => k_13 t74 w_58) (fun t99_1 w_59 => 
  gd t97 true (fun k_14 w_60 => pur Try.prog (Op.unary .not t99_1) fun t100 => k_14 t100 w_60) (fun t100_1 w_61 => 
  pur Try.prog (pickS t97 t100_1 (.bool false)) fun t101 => 
  Q t101 w_61) w_59) w_57) w_55) w_53) w_51) w_49) w_47) w_45) w_43) w_41) w_39) w_37) w_35) w_34) w_33) w_32) w_31) w_31) w_31) w_31) w_30) w_29) w_28) w_28) w_28) w_28) w_27) w_26) w_25) w_25) w_25) w_25)) w_21) w_20) w_19) w_19) w_18) w_17) w_16) w_16)) w_10) w_9) w_8) w_7) w_6) w_4)) w_2) w
theorem eq5 (v_block v_read : Value) (Q : Value → World → Prop) (w : World) : semF Try.prog 5 [v_block, v_read] Q w = S5 v_block v_read Q w := by kernel_rfl
theorem ref5 {v_block v_read : Value} {Q : Value → World → Prop} {w : World} (h : S5 v_block v_read Q w) : callS Try.prog 5 #[v_block, v_read] Q w :=
  callS_of mix (fun a w => Try.call5 a w) (by kernel_rfl) (by rw [eq5]; exact h)
-- commons/commonslaw26.alive
def S6 (Q : Value → World → Prop) (w : World) : Prop :=
 act Try.prog (Instr.makeSlice 26 (.int .i64 96) (.int .i64 96)) (fun t6 w_1 => 
 act Try.prog (convert 26 9 t6) (fun t7 w_2 => 
 pur Try.prog (Instr.build 29 #[(0, (.int .i64 1)), (2, t7)]) fun t8 => 
 act Try.prog (Instr.alloc 29 true (.tuple #[])) (fun t1 w_3 => 
 act Try.prog (thenU (Instr.storeAt 29 t1 t8)) (fun _ w_4 => 
 jn 2 (fun J => 
  ∃ S : World → Prop, S (World.drew w_4) ∧ 
 pur Try.prog (Instr.build 32 #[(0, (.int .i64 3)), (1, (.int .i64 1)), (2, (.int .u64 1))]) fun t13 => 
  hld Try.prog S (Instr.loadAt 29 t1) fun t14 => 
  (callS Try.prog 7 #[(.int .i64 1), (.int .u64 0)] (fun t10 w_5 => S w_5 ∧ 
  (act Try.prog (Instr.buildSlice 25 1 #[(0, t10)]) (fun t11 w_6 => S w_6 ∧ 
  pur Try.prog (Instr.build 32 #[(0, (.int .i64 1)), (1, (.int .i64 1)), (2, (.int .u64 1)), (3, (.int .u64 1)), (5, t11)]) fun t12 => 
  act Try.prog (Instr.buildSlice 25 1 #[(0, t14)]) (fun t15 w_7 => S w_7 ∧ 
  pur Try.prog (Instr.build 32 #[(0, (.int .i64 1)), (1, (.int .i64 2)), (2, (.int .u64 2)), (4, t15)]) fun t16 => 
  act Try.prog (Instr.buildSlice 24 3 #[(0, t12), (1, t13), (2, t16)]) (fun t17 w_8 => S w_8 ∧ 
  callS Try.prog 8 #[t17] (fun t18 w_9 => S w_9 ∧ 
  pur Try.prog (Instr.extract t18 0) fun t19 => 
  pur Try.prog (Instr.extract t18 1) fun t20 => 
  J t19 t20 w_9) w_8) w_7) w_6) w_5
  ) ∧ (act Try.prog (Instr.buildSlice 25 1 #[(0, t14)]) (fun t15_1 w_10 => S w_10 ∧ 
  act Try.prog (Instr.buildSlice 25 1 #[(0, t10)]) (fun t11_1 w_11 => S w_11 ∧ 
  pur Try.prog (Instr.build 32 #[(0, (.int .i64 1)), (1, (.int .i64 1)), (2, (.int .u64 1)), (3, (.int .u64 1)), (5, t11_1)]) fun t12_1 => 
  pur Try.prog (Instr.build 32 #[(0, (.int .i64 1)), (1, (.int .i64 2)), (2, (.int .u64 2)), (4, t15_1)]) fun t16_1 => 
  act Try.prog (Instr.buildSlice 24 3 #[(0, t12_1), (1, t13), (2, t16_1)]) (fun t17_1 w_12 => S w_12 ∧ 
  callS Try.prog 8 #[t17_1] (fun t18_1 w_13 => S w_13 ∧ 
  pur Try.prog (Instr.extract t18_1 0) fun t19_1 => 
  pur Try.prog (Instr.extract t18_1 1) fun t20_1 => 
  J t19_1 t20_1 w_13) w_12) w_11) w_10) w_5)) (World.drew w_4)
  ) ∧ (act Try.prog (Instr.buildSlice 25 1 #[(0, t14)]) (fun t15_2 w_14 => S w_14 ∧ 
  callS Try.prog 7 #[(.int .i64 1), (.int .u64 0)] (fun t10_1 w_15 => S w_15 ∧ 
  act Try.prog (Instr.buildSlice 25 1 #[(0, t10_1)]) (fun t11_2 w_16 => S w_16 ∧ 
  pur Try.prog (Instr.build 32 #[(0, (.int .i64 1)), (1, (.int .i64 1)), (2, (.int .u64 1)), (3, (.int .u64 1)), (5, t11_2)]) fun t12_2 => 
  pur Try.prog (Instr.build 32 #[(0, (.int .i64 1)), (1, (.int .i64 2)), (2, (.int .u64 2)), (4, t15_2)]) fun t16_2 => 
  act Try.prog (Instr.buildSlice 24 3 #[(0, t12_2), (1, t13), (2, t16_2)]) (fun t17_2 w_17 => S w_17 ∧ 
  callS Try.prog 8 #[t17_2] (fun t18_2 w_18 => S w_18 ∧ 
  pur Try.prog (Instr.extract t18_2 0) fun t19_2 => 
  pur Try.prog (Instr.extract t18_2 1) fun t20_2 => 
  J t19_2 t20_2 w_18) w_17) w_16) w_15) w_14) (World.drew w_4)))
 (fun v_ok v_e w_19 => ∀ _j : Fr, 
  callS Try.prog 7 #[(.int .i64 1), (.int .u64 0)] (fun t22 w_20 => 
 act Try.prog (Instr.buildSlice 25 1 #[(0, t22)]) (fun t23 w_21 => 
 pur Try.prog (Instr.build 32 #[(0, (.int .i64 4)), (4, t23)]) fun t24 => 
 act Try.prog (Instr.buildSlice 24 1 #[(0, t24)]) (fun t25 w_22 => 
 callS Try.prog 8 #[t25] (fun t26 w_23 => 
 pur Try.prog (Instr.extract t26 0) fun t27 => 
 pur Try.prog (Instr.extract t26 1) fun t28 => 
 gd v_ok true (fun k w_24 => k v_e w_24) (fun t31_1 w_25 => 
 gd v_ok true (fun k_1 w_26 => pur Try.prog (binS .eql 34 false true t31_1 (.int .i64 0)) fun t32 => k_1 t32 w_26) (fun t32_1 w_27 => 
 pur Try.prog (pickS v_ok t32_1 (.bool false)) fun t33 => 
 gd t33 true (fun k_2 w_28 => k_2 t27 w_28) (fun t35_1 w_29 => 
 gd t33 true (fun k_3 w_30 => pur Try.prog (Op.unary .not t35_1) fun t36 => k_3 t36 w_30) (fun t36_1 w_31 => 
 pur Try.prog (pickS t33 t36_1 (.bool false)) fun t37 => 
 gd t37 true (fun k_4 w_32 => k_4 t28 w_32) (fun t39_1 w_33 => 
 gd t37 true (fun k_5 w_34 => pur Try.prog (binS .eql 34 false true t39_1 (.int .i64 0)) fun t40 => k_5 t40 w_34) (fun t40_1 w_35 => 
 pur Try.prog (pickS t37 t40_1 (.bool false)) fun t41 => 
 Q t41 w_35) w_33) w_31) w_29) w_27) w_25) w_23) w_22) w_21) w_20) w_19)) w_3) w_2) w_1) w
theorem eq6 (Q : Value → World → Prop) (w : World) : semF Try.prog 6 [] Q w = S6 Q w := by kernel_rfl
theorem ref6 {Q : Value → World → Prop} {w : World} (h : S6 Q w) : callS Try.prog 6 #[] Q w :=
  callS_of mix (fun a w => Try.call6 a w) (by kernel_rfl) (by rw [eq6]; exact h)
-- commons/commonslaw11.One
def S7 (v_n v_v : Value) (Q : Value → World → Prop) (w : World) : Prop :=
 act Try.prog (Instr.alloc 29 true (.tuple #[])) (fun t4 w_1 => 
 act Try.prog (Instr.makeSlice 26 (.int .i64 96) (.int .i64 96)) (fun t6 w_2 => 
 pur Try.prog (convert 3 5 v_n) fun t9 => 
 pur Try.prog (Instr.indexAt 26 t6 (.int .i64 0)) fun t10 => 
 act Try.prog (thenU (Instr.storeAt 5 t10 t9)) (fun _ w_3 => 
 act Try.prog (convert 26 9 t6) (fun t14 w_4 => 
 pur Try.prog (Instr.build 29 #[(0, v_n), (1, v_v), (2, t14)]) fun t15 => 
 act Try.prog (thenU (Instr.storeAt 29 t4 t15)) (fun _ w_5 => 
 rd Try.prog (resL 29 t4) (fun r => Q r w_5) w_5) w_4) w_3) w_2) w_1) w
theorem eq7 (v_n v_v : Value) (Q : Value → World → Prop) (w : World) : semF Try.prog 7 [v_n, v_v] Q w = S7 v_n v_v Q w := by kernel_rfl
theorem ref7 {v_n v_v : Value} {Q : Value → World → Prop} {w : World} (h : S7 v_n v_v Q w) : callS Try.prog 7 #[v_n, v_v] Q w :=
  callS_of mix (fun a w => Try.call7 a w) (by kernel_rfl) (by rw [eq7]; exact h)
-- commons/hist.Judge
def S8 (v_l : Value) (Q : Value → World → Prop) (w : World) : Prop :=
 callS Try.prog 9 #[v_l] (fun t15 w_1 => 
 pur Try.prog (Instr.extract t15 0) fun t16 => 
 pur Try.prog (Instr.extract t15 1) fun t17 => 
 pur Try.prog (binS .neq 34 false true t17 (.int .i64 0)) fun t19 => 
 condS t19
  (Q (.tuple #[(.bool false), t17]) w_1)
  (pur Try.prog (Builtin.len_ #[40] 3 #[t16]) fun t22 => 
 act Try.prog (Instr.makeSlice 30 t22 t22) (fun t23 w_2 => 
 lp 0 (fun J => fun  w_3 => ∀ _j : Fr, 
  pur Try.prog (Builtin.len_ #[40] 3 #[t16]) fun t25 => 
  lp 2 (fun J_1 => fun v_cuts t26 w_4 => ∀ _j : Fr, 
   pur Try.prog (binS .lss 3 false false t26 t25) fun t27 => 
   condS t27
    (pur Try.prog (Instr.indexAt 40 t16 t26) fun t29 => 
   rd Try.prog (Instr.loadAt 43 t29) (fun t30 => 
   pur Try.prog (Instr.indexAt 30 t23 t26) fun t35 => 
   rd Try.prog (Instr.loadAt 3 t35) (fun t36 => 
   pur Try.prog (Instr.indexAt 43 t30 t36) fun t37 => 
   rd Try.prog (Instr.loadAt 27 t37) (fun t38 => 
   act Try.prog (Instr.buildSlice 43 1 #[(0, t38)]) (fun t39 w_5 => 
   act Try.prog (Builtin.append_ #[43, 43] 43 #[v_cuts, t39]) (fun t40 w_6 => 
   pur Try.prog (binS .add 3 false true t26 (.int .i64 1)) fun t41 => 
   J_1 t40 t41 w_6) w_5) w_4) w_4) w_4) w_4)
    (callS Try.prog 10 #[v_l, v_cuts] (fun t45 w_7 => 
  pur Try.prog (Instr.extract t45 0) fun t46 => 
  pur Try.prog (Instr.extract t45 1) fun _ => 
  condS t46
   (Q (.tuple #[(.bool true), (.int .i64 0)]) w_7)
   (lp 1 (fun J_2 => fun v_i w_8 => ∀ _j : Fr, 
   pur Try.prog (Builtin.len_ #[30] 3 #[t23]) fun t51 => 
   pur Try.prog (binS .lss 3 false false v_i t51) fun t52 => 
   gd t52 true (fun k w_9 => k t23 w_9) (fun t54_1 w_10 => 
   gd t52 true (fun k_1 w_11 => k_1 v_i w_11) (fun t55_1 w_12 => 
   gd t52 true (fun k_2 w_13 => pur Try.prog (Instr.indexAt 30 t54_1 t55_1) fun t56 => k_2 t56 w_13) (fun t56_1 w_14 => 
   gd t52 true (fun k_3 w_15 => rd Try.prog (Instr.loadAt 3 t56_1) (fun t57 => k_3 t57 w_15) w_15) (fun t57_1 w_16 => 
   gd t52 true (fun k_4 w_17 => k_4 t16 w_17) (fun t58_1 w_18 => 
   gd t52 true (fun k_5 w_19 => k_5 v_i w_19) (fun t59_1 w_20 => 
   gd t52 true (fun k_6 w_21 => pur Try.prog (Instr.indexAt 40 t58_1 t59_1) fun t60 => k_6 t60 w_21) (fun t60_1 w_22 => 
   gd t52 true (fun k_7 w_23 => rd Try.prog (Instr.loadAt 43 t60_1) (fun t61 => k_7 t61 w_23) w_23) (fun t61_1 w_24 => 
   gd t52 true (fun k_8 w_25 => pur Try.prog (Builtin.len_ #[43] 3 #[t61_1]) fun t62 => k_8 t62 w_25) (fun t62_1 w_26 => 
   gd t52 true (fun k_9 w_27 => pur Try.prog (binS .sub 3 false true t62_1 (.int .i64 1)) fun t63 => k_9 t63 w_27) (fun t63_1 w_28 => 
   gd t52 true (fun k_10 w_29 => pur Try.prog (binS .eql 3 false false t57_1 t63_1) fun t64 => k_10 t64 w_29) (fun t64_1 w_30 => 
   pur Try.prog (pickS t52 t64_1 (.bool false)) fun t65 => 
   condS t65
    (pur Try.prog (Instr.indexAt 30 t23 v_i) fun t68 => 
   act Try.prog (thenU (Instr.storeAt 3 t68 (.int .i64 0))) (fun _ w_31 => 
   pur Try.prog (binS .add 3 false true v_i (.int .i64 1)) fun t70 => 
   J_2 t70 w_31) w_30)
    (pur Try.prog (Builtin.len_ #[30] 3 #[t23]) fun t73 => 
  pur Try.prog (binS .eql 3 false false v_i t73) fun t74 => 
  condS t74
   (Q (.tuple #[(.bool false), (.int .i64 0)]) w_30)
   (pur Try.prog (Instr.indexAt 30 t23 v_i) fun t77 => 
  rd Try.prog (Instr.loadAt 3 t77) (fun t78 => 
  pur Try.prog (binS .add 3 false true t78 (.int .i64 1)) fun t79 => 
  pur Try.prog (Instr.indexAt 30 t23 v_i) fun t80 => 
  act Try.prog (thenU (Instr.storeAt 3 t80 t79)) (fun _ w_32 => 
  J  w_32) w_30) w_30))) w_28) w_26) w_24) w_22) w_20) w_18) w_16) w_14) w_12) w_10) (World.drew w_8)) [(.int .i64 0)] w_7)) w_4)) [(.slice none 0 0), (.int .i64 0)] w_3) [] w_2) w_1)) w
theorem eq8 (v_l : Value) (Q : Value → World → Prop) (w : World) : semF Try.prog 8 [v_l] Q w = S8 v_l Q w := by kernel_rfl
theorem ref8 {v_l : Value} {Q : Value → World → Prop} {w : World} (h : S8 v_l Q w) : callS Try.prog 8 #[v_l] Q w :=
  callS_of mix (fun a w => Try.call8 a w) (by kernel_rfl) (by rw [eq8]; exact h)
-- commons/hist.Cuts
def S9 (v_l : Value) (Q : Value → World → Prop) (w : World) : Prop :=
 pur Try.prog (Builtin.len_ #[24] 3 #[v_l]) fun t17 => 
 pur Try.prog (binS .gtr 3 false true t17 (.int .i64 200)) fun t18 => 
 condS t18
  (Q (.tuple #[(.slice none 0 0), (.int .i64 2)]) w)
  (pur Try.prog (Builtin.len_ #[24] 3 #[v_l]) fun t20 => 
 lp 2 (fun J => fun v_ways t21 w_1 => ∀ _j : Fr, 
  pur Try.prog (binS .lss 3 false false t21 t20) fun t22 => 
  condS t22
   (jn 1 (fun J_1 => 
   pur Try.prog (Instr.indexAt 24 v_l t21) fun t24 => 
   rd Try.prog (Instr.loadAt 32 t24) (fun t25 => 
   act Try.prog (Instr.alloc 32 true (.tuple #[])) (fun t6 w_2 => 
   act Try.prog (thenU (Instr.storeAt 32 t6 t25)) (fun _ w_3 => 
   pur Try.prog (Instr.fieldAt 32 t6 0) fun t26 => 
   rd Try.prog (Instr.loadAt 3 t26) (fun t27 => 
   pur Try.prog (binS .neq 3 false true t27 (.int .i64 3)) fun t28 => 
   condS t28
    (J_1 v_ways w_3)
    (callS Try.prog 11 #[v_l, t21] (fun t32 w_4 => 
   pur Try.prog (Instr.extract t32 0) fun t33 => 
   pur Try.prog (Instr.extract t32 1) fun t34 => 
   pur Try.prog (binS .sub 27 false false t34 t33) fun t37 => 
   pur Try.prog (binS .geq 27 false true t37 (.int .u64 3000)) fun t38 => 
   gd t38 false (fun k w_5 => k v_ways w_5) (fun t40_1 w_6 => 
   gd t38 false (fun k_1 w_7 => k_1 t34 w_7) (fun t41_1 w_8 => 
   gd t38 false (fun k_2 w_9 => k_2 t33 w_9) (fun t42_1 w_10 => 
   gd t38 false (fun k_3 w_11 => pur Try.prog (binS .sub 27 false false t41_1 t42_1) fun t43 => k_3 t43 w_11) (fun t43_1 w_12 => 
   gd t38 false (fun k_4 w_13 => pur Try.prog (binS .add 27 false true t43_1 (.int .u64 1)) fun t44 => k_4 t44 w_13) (fun t44_1 w_14 => 
   gd t38 false (fun k_5 w_15 => pur Try.prog (binS .mul 27 false false t40_1 t44_1) fun t45 => k_5 t45 w_15) (fun t45_1 w_16 => 
   gd t38 false (fun k_6 w_17 => pur Try.prog (binS .gtr 27 false true t45_1 (.int .u64 3000)) fun t46 => k_6 t46 w_17) (fun t46_1 w_18 => 
   pur Try.prog (pickS t38 (.bool true) t46_1) fun t47 => 
   condS t47
    (Q (.tuple #[(.slice none 0 0), (.int .i64 2)]) w_18)
    (pur Try.prog (binS .sub 27 false false t34 t33) fun t51 => 
   pur Try.prog (binS .add 27 false true t51 (.int .u64 1)) fun t52 => 
   pur Try.prog (binS .mul 27 false false v_ways t52) fun t53 => 
   J_1 t53 w_18)) w_16) w_14) w_12) w_10) w_8) w_6) w_4) w_3)) w_3) w_2) w_1) w_1)
  (fun v_ways_1 w_19 => ∀ _j : Fr, 
   pur Try.prog (binS .add 3 false true t21 (.int .i64 1)) fun t54 => 
   J v_ways_1 t54 w_19))
   (pur Try.prog (Builtin.len_ #[24] 3 #[v_l]) fun t56 => 
 lp 2 (fun J_2 => fun v_out t57 w_20 => ∀ _j : Fr, 
  pur Try.prog (binS .lss 3 false false t57 t56) fun t58 => 
  condS t58
   (jn 1 (fun J_3 => 
   pur Try.prog (Instr.indexAt 24 v_l t57) fun t60 => 
   rd Try.prog (Instr.loadAt 32 t60) (fun t61 => 
   act Try.prog (Instr.alloc 32 true (.tuple #[])) (fun t11 w_21 => 
   act Try.prog (thenU (Instr.storeAt 32 t11 t61)) (fun _ w_22 => 
   pur Try.prog (Instr.fieldAt 32 t11 0) fun t63 => 
   rd Try.prog (Instr.loadAt 3 t63) (fun t64 => 
   pur Try.prog (binS .lss 3 false true t64 (.int .i64 1)) fun t65 => 
   gd t65 false (fun k_7 w_23 => pur Try.prog (Instr.fieldAt 32 t11 0) fun t67 => k_7 t67 w_23) (fun t67_1 w_24 => 
   gd t65 false (fun k_8 w_25 => rd Try.prog (Instr.loadAt 3 t67_1) (fun t68 => k_8 t68 w_25) w_25) (fun t68_1 w_26 => 
   gd t65 false (fun k_9 w_27 => pur Try.prog (binS .gtr 3 false true t68_1 (.int .i64 4)) fun t69 => k_9 t69 w_27) (fun t69_1 w_28 => 
   pur Try.prog (pickS t65 (.bool true) t69_1) fun t70 => 
   condS t70
    (Q (.tuple #[(.slice none 0 0), (.int .i64 1)]) w_28)
    (pur Try.prog (Instr.fieldAt 32 t11 0) fun t72 => 
    rd Try.prog (Instr.loadAt 3 t72) (fun t73 => 
    pur Try.prog (binS .neq 3 false true t73 (.int .i64 3)) fun t74 => 
    condS t74
     (J_3 v_out w_28)
     (callS Try.prog 11 #[v_l, t57] (fun t78 w_29 => 
   pur Try.prog (Instr.extract t78 0) fun t79 => 
   pur Try.prog (Instr.extract t78 1) fun t80 => 
   pur Try.prog (binS .sub 27 false false t80 t79) fun t83 => 
   pur Try.prog (binS .add 27 false true t83 (.int .u64 1)) fun t84 => 
   pur Try.prog (convert 27 3 t84) fun t85 => 
   lp 2 (fun J_4 => fun v_cuts t86 w_30 => ∀ _j : Fr, 
    pur Try.prog (binS .lss 3 false false t86 t85) fun t87 => 
    condS t87
     (pur Try.prog (convert 3 27 t86) fun t92 => 
    pur Try.prog (binS .add 27 false false t79 t92) fun t93 => 
    act Try.prog (Instr.buildSlice 43 1 #[(0, t93)]) (fun t94 w_31 => 
    act Try.prog (Builtin.append_ #[43, 43] 43 #[v_cuts, t94]) (fun t95 w_32 => 
    pur Try.prog (binS .add 3 false true t86 (.int .i64 1)) fun t96 => 
    J_4 t95 t96 w_32) w_31) w_30)
     (act Try.prog (Instr.buildSlice 40 1 #[(0, v_cuts)]) (fun t99 w_33 => 
   act Try.prog (Builtin.append_ #[40, 40] 40 #[v_out, t99]) (fun t100 w_34 => 
   J_3 t100 w_34) w_33) w_30)) [(.slice none 0 0), (.int .i64 0)] w_29) w_28)) w_28)) w_26) w_24) w_22) w_22) w_21) w_20) w_20)
  (fun v_out_1 w_35 => ∀ _j : Fr, 
   pur Try.prog (binS .add 3 false true t57 (.int .i64 1)) fun t101 => 
   J_2 v_out_1 t101 w_35))
   (Q (.tuple #[v_out, (.int .i64 0)]) w_20)) [(.slice none 0 0), (.int .i64 0)] w_1)) [(.int .u64 1), (.int .i64 0)] w)
theorem eq9 (v_l : Value) (Q : Value → World → Prop) (w : World) : semF Try.prog 9 [v_l] Q w = S9 v_l Q w := by kernel_rfl
theorem ref9 {v_l : Value} {Q : Value → World → Prop} {w : World} (h : S9 v_l Q w) : callS Try.prog 9 #[v_l] Q w :=
  callS_of mix (fun a w => Try.call9 a w) (by kernel_rfl) (by rw [eq9]; exact h)
-- commons/hist.Play
def S10 (v_l v_cuts : Value) (Q : Value → World → Prop) (w : World) : Prop :=
 act Try.prog (Instr.makeMap 49 none) (fun t20 w_1 => 
 act Try.prog (Instr.makeMap 50 none) (fun t21 w_2 => 
 pur Try.prog (Builtin.len_ #[24] 3 #[v_l]) fun t23 => 
 lp 5 (fun J => fun v_cuts_1 v_a v_ok v_stay t24 w_3 => ∀ _j : Fr, 
  pur Try.prog (binS .lss 3 false false t24 t23) fun t25 => 
  condS t25
   (jn 4 (fun J_1 => 
   pur Try.prog (Instr.indexAt 24 v_l t24) fun t27 => 
   rd Try.prog (Instr.loadAt 32 t27) (fun t28 => 
   act Try.prog (Instr.alloc 32 true (.tuple #[])) (fun t11 w_4 => 
   act Try.prog (thenU (Instr.storeAt 32 t11 t28)) (fun _ w_5 => 
   pur Try.prog (Instr.fieldAt 32 t11 1) fun t29 => 
   rd Try.prog (Instr.loadAt 3 t29) (fun t30 => 
   pur Try.prog (Instr.fieldAt 32 t11 2) fun t31 => 
   rd Try.prog (Instr.loadAt 27 t31) (fun t32 => 
   pur Try.prog (Instr.build 52 #[(0, t30), (1, t32)]) fun t33 => 
   act Try.prog (Instr.alloc 52 true (.tuple #[])) (fun t12 w_6 => 
   act Try.prog (thenU (Instr.storeAt 52 t12 t33)) (fun _ w_7 => 
   pur Try.prog (Instr.fieldAt 32 t11 0) fun t34 => 
   rd Try.prog (Instr.loadAt 3 t34) (fun t35 => 
   pur Try.prog (binS .eql 3 false true t35 (.int .i64 1)) fun t37 => 
   condS t37
    (rd Try.prog (Instr.loadAt 52 t12) (fun t40 => 
    rd Try.prog (Instr.lookup 50 t21 t40 true) (fun t41 => 
    pur Try.prog (Instr.extract t41 0) fun _ => 
    pur Try.prog (Instr.extract t41 1) fun t43 => 
    condS t43
     (J_1 v_cuts_1 v_a v_ok v_stay w_7)
     (gd v_ok true (fun k w_8 => k v_a w_8) (fun t47_1 w_9 => 
    gd v_ok true (fun k_1 w_10 => pur Try.prog (Instr.fieldAt 32 t11 4) fun t48 => k_1 t48 w_10) (fun t48_1 w_11 => 
    gd v_ok true (fun k_2 w_12 => rd Try.prog (Instr.loadAt 25 t48_1) (fun t49 => k_2 t49 w_12) w_12) (fun t49_1 w_13 => 
    gd v_ok true (fun k_3 w_14 => callS Try.prog 12 #[t47_1, t49_1] (fun t50 w_15 => k_3 t50 w_15) w_14) (fun t50_1 w_16 => 
    pur Try.prog (pickS v_ok t50_1 (.bool false)) fun t51 => 
    pur Try.prog (Instr.fieldAt 32 t11 5) fun t53 => 
    rd Try.prog (Instr.loadAt 25 t53) (fun t54 => 
    callS Try.prog 13 #[v_a, t54] (fun _ w_17 => 
    rd Try.prog (Instr.loadAt 32 t11) (fun t57 => 
    pur Try.prog (Instr.sliceAt 24 v_l none (some t24) none) fun t60 => 
    callS Try.prog 14 #[t57, t60] (fun t61 w_18 => 
    act Try.prog (Instr.buildSlice 24 1 #[(0, t61)]) (fun t62 w_19 => 
    act Try.prog (Builtin.append_ #[24, 24] 24 #[v_stay, t62]) (fun t63 w_20 => 
    J_1 v_cuts_1 v_a t51 t63 w_20) w_19) w_18) (World.drew w_17)) (World.drew w_17)) w_16) w_16) w_13) w_11) w_9) w_7)) w_7) w_7)
    (pur Try.prog (binS .eql 3 false true t35 (.int .i64 3)) fun t65 => 
    condS t65
     (act Try.prog (Instr.alloc 27 true (.tuple #[])) (fun t15 w_21 => 
     act Try.prog (thenU (Instr.storeAt 27 t15 (.int .u64 0))) (fun _ w_22 => 
     jn 1 (fun J_2 => 
      pur Try.prog (Builtin.len_ #[43] 3 #[v_cuts_1]) fun t67 => 
      pur Try.prog (binS .gtr 3 false true t67 (.int .i64 0)) fun t68 => 
      condS t68
       (pur Try.prog (Instr.indexAt 43 v_cuts_1 (.int .i64 0)) fun t70 => 
       rd Try.prog (Instr.loadAt 27 t70) (fun t71 => 
       pur Try.prog (Instr.sliceAt 43 v_cuts_1 (some (.int .i64 1)) none none) fun t73 => 
       act Try.prog (thenU (Instr.storeAt 27 t15 t71)) (fun _ w_23 => 
       J_2 t73 w_23) (World.drew w_22)) (World.drew w_22))
       (J_2 v_cuts_1 w_22))
     (fun v_cuts_2 w_24 => ∀ _j : Fr, 
      rd Try.prog (Instr.loadAt 52 t12) (fun t75 => 
      rd Try.prog (Instr.loadAt 27 t15) (fun t76 => 
      act Try.prog (thenU (Instr.mapUpdate 50 t21 t75 t76)) (fun _ w_25 => 
      pur Try.prog (pure (.func (.func 16) #[] #[t11, t15])) fun t78 => 
      callS Try.prog 15 #[v_stay, t78] (fun t79 w_26 => 
      callS Try.prog 17 #[t79] (fun t82 w_27 => 
      pur Try.prog (Instr.extract t82 0) fun t83 => 
      pur Try.prog (Instr.extract t82 1) fun _ => 
      J_1 v_cuts_2 t83 v_ok t79 w_27) w_26) w_25) w_24) w_24) w_24)) w_21) w_7)
     (pur Try.prog (binS .eql 3 false true t35 (.int .i64 4)) fun t86 => 
     condS t86
      (gd v_ok true (fun k_4 w_28 => k_4 v_a w_28) (fun t89_1 w_29 => 
      gd v_ok true (fun k_5 w_30 => pur Try.prog (Instr.fieldAt 32 t11 4) fun t90 => k_5 t90 w_30) (fun t90_1 w_31 => 
      gd v_ok true (fun k_6 w_32 => rd Try.prog (Instr.loadAt 25 t90_1) (fun t91 => k_6 t91 w_32) w_32) (fun t91_1 w_33 => 
      gd v_ok true (fun k_7 w_34 => callS Try.prog 12 #[t89_1, t91_1] (fun t92 w_35 => k_7 t92 w_35) w_34) (fun t92_1 w_36 => 
      pur Try.prog (pickS v_ok t92_1 (.bool false)) fun t93 => 
      J_1 v_cuts_1 v_a t93 v_stay w_36) w_33) w_31) w_29) w_7)
      (J_1 v_cuts_1 v_a v_ok v_stay w_7)))) w_7) w_6) w_5) w_5) w_5) w_4) w_3) w_3)
  (fun v_cuts_3 v_a_1 v_ok_1 v_stay_1 w_37 => ∀ _j : Fr, 
   pur Try.prog (binS .add 3 false true t24 (.int .i64 1)) fun t94 => 
   J v_cuts_3 v_a_1 v_ok_1 v_stay_1 t94 w_37))
   (callS Try.prog 17 #[v_stay] (fun t97 w_38 => 
 pur Try.prog (Instr.extract t97 0) fun t98 => 
 pur Try.prog (Instr.extract t97 1) fun t99 => 
 callS Try.prog 19 #[t98] (fun t101 w_39 => 
 callS Try.prog 18 #[t101] (fun t102 w_40 => 
 pur Try.prog (Builtin.len_ #[30] 3 #[t102]) fun t103 => 
 lp 2 (fun J_3 => fun v_out t104 w_41 => ∀ _j : Fr, 
  pur Try.prog (binS .lss 3 false false t104 t103) fun t105 => 
  condS t105
   (pur Try.prog (Instr.indexAt 30 t102 t104) fun t106 => 
  rd Try.prog (Instr.loadAt 3 t106) (fun t107 => 
  rd Try.prog (Instr.lookup 49 t98 t107 false) (fun t112 => 
  callS Try.prog 20 #[t112] (fun t113 w_42 => 
  pur Try.prog (Instr.build 29 #[(0, t107), (2, t113)]) fun t114 => 
  act Try.prog (Instr.buildSlice 25 1 #[(0, t114)]) (fun t115 w_43 => 
  act Try.prog (Builtin.append_ #[25, 25] 25 #[v_out, t115]) (fun t116 w_44 => 
  pur Try.prog (binS .add 3 false true t104 (.int .i64 1)) fun t117 => 
  J_3 t116 t117 w_44) w_43) w_42) w_41) w_41) w_41)
   (gd v_ok true (fun k_8 w_45 => k_8 t99 w_45) (fun t120_1 w_46 => 
 pur Try.prog (pickS v_ok t120_1 (.bool false)) fun t121 => 
 Q (.tuple #[t121, v_out]) w_46) w_41)) [(.slice none 0 0), (.int .i64 0)] w_40) w_39) w_38) w_3)) [v_cuts, t20, (.bool true), (.slice none 0 0), (.int .i64 0)] w_2) w_1) w
theorem eq10 (v_l v_cuts : Value) (Q : Value → World → Prop) (w : World) : semF Try.prog 10 [v_l, v_cuts] Q w = S10 v_l v_cuts Q w := by kernel_rfl
theorem ref10 {v_l v_cuts : Value} {Q : Value → World → Prop} {w : World} (h : S10 v_l v_cuts Q w) : callS Try.prog 10 #[v_l, v_cuts] Q w :=
  callS_of mix (fun a w => Try.call10 a w) (by kernel_rfl) (by rw [eq10]; exact h)
-- commons/hist.bounds
def S11 (v_l v_at : Value) (Q : Value → World → Prop) (w : World) : Prop :=
 pur Try.prog (Instr.indexAt 24 v_l v_at) fun t13 => 
 rd Try.prog (Instr.loadAt 32 t13) (fun t14 => 
 act Try.prog (Instr.alloc 32 true (.tuple #[])) (fun t6 w_1 => 
 act Try.prog (thenU (Instr.storeAt 32 t6 t14)) (fun _ w_2 => 
 pur Try.prog (Instr.sliceAt 24 v_l none (some v_at) none) fun t17 => 
 pur Try.prog (Builtin.len_ #[24] 3 #[t17]) fun t18 => 
 lp 3 (fun J => fun v_least v_most t19 w_3 => ∀ _j : Fr, 
  pur Try.prog (binS .lss 3 false false t19 t18) fun t20 => 
  condS t20
   (jn 2 (fun J_1 => 
   pur Try.prog (Instr.indexAt 24 t17 t19) fun t21 => 
   rd Try.prog (Instr.loadAt 32 t21) (fun t22 => 
   act Try.prog (Instr.alloc 32 true (.tuple #[])) (fun t10 w_4 => 
   act Try.prog (thenU (Instr.storeAt 32 t10 t22)) (fun _ w_5 => 
   pur Try.prog (Instr.fieldAt 32 t10 1) fun t23 => 
   rd Try.prog (Instr.loadAt 3 t23) (fun t24 => 
   pur Try.prog (Instr.fieldAt 32 t6 1) fun t25 => 
   rd Try.prog (Instr.loadAt 3 t25) (fun t26 => 
   pur Try.prog (binS .neq 3 false false t24 t26) fun t27 => 
   gd t27 false (fun k w_6 => pur Try.prog (Instr.fieldAt 32 t10 2) fun t29 => k t29 w_6) (fun t29_1 w_7 => 
   gd t27 false (fun k_1 w_8 => rd Try.prog (Instr.loadAt 27 t29_1) (fun t30 => k_1 t30 w_8) w_8) (fun t30_1 w_9 => 
   gd t27 false (fun k_2 w_10 => pur Try.prog (Instr.fieldAt 32 t6 2) fun t31 => k_2 t31 w_10) (fun t31_1 w_11 => 
   gd t27 false (fun k_3 w_12 => rd Try.prog (Instr.loadAt 27 t31_1) (fun t32 => k_3 t32 w_12) w_12) (fun t32_1 w_13 => 
   gd t27 false (fun k_4 w_14 => pur Try.prog (binS .neq 27 false false t30_1 t32_1) fun t33 => k_4 t33 w_14) (fun t33_1 w_15 => 
   pur Try.prog (pickS t27 (.bool true) t33_1) fun t34 => 
   condS t34
    (J_1 v_least v_most w_15)
    (pur Try.prog (Instr.fieldAt 32 t10 0) fun t35 => 
   rd Try.prog (Instr.loadAt 3 t35) (fun t36 => 
   pur Try.prog (binS .eql 3 false true t36 (.int .i64 2)) fun t38 => 
   condS t38
    (pur Try.prog (Instr.fieldAt 32 t10 3) fun t40 => 
    rd Try.prog (Instr.loadAt 27 t40) (fun t41 => 
    pur Try.prog (Builtin.max_ #[27, 27] 27 #[v_least, t41]) fun t42 => 
    J_1 t42 v_most w_15) w_15)
    (pur Try.prog (binS .eql 3 false true t36 (.int .i64 1)) fun t44 => 
    condS t44
     (pur Try.prog (Instr.fieldAt 32 t10 3) fun t46 => 
     rd Try.prog (Instr.loadAt 27 t46) (fun t47 => 
     pur Try.prog (Builtin.max_ #[27, 27] 27 #[v_most, t47]) fun t48 => 
     J_1 v_least t48 w_15) w_15)
     (J_1 v_least v_most w_15))) w_15)) w_13) w_11) w_9) w_7) w_5) w_5) w_5) w_4) w_3) w_3)
  (fun v_least_1 v_most_1 w_16 => ∀ _j : Fr, 
   pur Try.prog (binS .add 3 false true t19 (.int .i64 1)) fun t49 => 
   J v_least_1 v_most_1 t49 w_16))
   (pur Try.prog (Builtin.max_ #[27, 27] 27 #[v_least, v_most]) fun t53 => 
 Q (.tuple #[v_least, t53]) w_3)) [(.int .u64 0), (.int .u64 0), (.int .i64 0)] w_2) w_1) w) w
theorem eq11 (v_l v_at : Value) (Q : Value → World → Prop) (w : World) : semF Try.prog 11 [v_l, v_at] Q w = S11 v_l v_at Q w := by kernel_rfl
theorem ref11 {v_l v_at : Value} {Q : Value → World → Prop} {w : World} (h : S11 v_l v_at Q w) : callS Try.prog 11 #[v_l, v_at] Q w :=
  callS_of mix (fun a w => Try.call11 a w) (by kernel_rfl) (by rw [eq11]; exact h)
-- (commons/hist.array).reads
def S12 (v_a v_l : Value) (Q : Value → World → Prop) (w : World) : Prop :=
 act Try.prog (Instr.box 49 v_a) (fun t2 w_1 => 
 pur Try.prog (pure (.func (.func 22) #[] #[t2])) fun t6 => 
 callS Try.prog 21 #[v_l, t6] (fun t7 w_2 => 
 pur Try.prog (Op.unary .not t7) fun t8 => 
 Q t8 w_2) w_1) w
theorem eq12 (v_a v_l : Value) (Q : Value → World → Prop) (w : World) : semF Try.prog 12 [v_a, v_l] Q w = S12 v_a v_l Q w := by kernel_rfl
theorem ref12 {v_a v_l : Value} {Q : Value → World → Prop} {w : World} (h : S12 v_a v_l Q w) : callS Try.prog 12 #[v_a, v_l] Q w :=
  callS_of mix (fun a w => Try.call12 a w) (by kernel_rfl) (by rw [eq12]; exact h)
-- (commons/hist.array).write
def S13 (v_a v_l : Value) (Q : Value → World → Prop) (w : World) : Prop :=
 pur Try.prog (Builtin.len_ #[25] 3 #[v_l]) fun t7 => 
 lp 1 (fun J => fun t8 w_1 => ∀ _j : Fr, 
  pur Try.prog (binS .lss 3 false false t8 t7) fun t9 => 
  condS t9
   (pur Try.prog (Instr.indexAt 25 v_l t8) fun t10 => 
  rd Try.prog (Instr.loadAt 29 t10) (fun t11 => 
  act Try.prog (Instr.alloc 29 true (.tuple #[])) (fun t5 w_2 => 
  act Try.prog (thenU (Instr.storeAt 29 t5 t11)) (fun _ w_3 => 
  pur Try.prog (Instr.fieldAt 29 t5 0) fun t13 => 
  rd Try.prog (Instr.loadAt 3 t13) (fun t14 => 
  pur Try.prog (Instr.fieldAt 29 t5 2) fun t15 => 
  rd Try.prog (Instr.loadAt 9 t15) (fun t16 => 
  act Try.prog (thenU (Instr.mapUpdate 49 v_a t14 t16)) (fun _ w_4 => 
  pur Try.prog (binS .add 3 false true t8 (.int .i64 1)) fun t17 => 
  J t17 w_4) w_3) w_3) w_3) w_2) w_1) w_1)
   (Q (.tuple #[]) w_1)) [(.int .i64 0)] w
theorem eq13 (v_a v_l : Value) (Q : Value → World → Prop) (w : World) : semF Try.prog 13 [v_a, v_l] Q w = S13 v_a v_l Q w := by kernel_rfl
theorem ref13 {v_a v_l : Value} {Q : Value → World → Prop} {w : World} (h : S13 v_a v_l Q w) : callS Try.prog 13 #[v_a, v_l] Q w :=
  callS_of mix (fun a w => Try.call13 a w) (by kernel_rfl) (by rw [eq13]; exact h)
-- commons/hist.greatest
def S14 (v_e v_l : Value) (Q : Value → World → Prop) (w : World) : Prop :=
 act Try.prog (Instr.box 32 v_e) (fun t2 w_1 => 
 act Try.prog (Instr.alloc 32 true (.tuple #[])) (fun t4 w_2 => 
 pur Try.prog (Instr.fieldAt 32 t2 3) fun t7 => 
 rd Try.prog (Instr.loadAt 27 t7) (fun t8 => 
 pur Try.prog (binS .gtr 27 false true t8 (.int .u64 0)) fun t9 => 
 condS t9
  (rd Try.prog (Instr.loadAt 32 t2) (fun t10 => 
  act Try.prog (thenU (Instr.storeAt 32 t4 t10)) (fun _ w_3 => 
  rd Try.prog (resL 32 t4) (fun r => Q r w_3) w_3) w_2) w_2)
  (pur Try.prog (Builtin.len_ #[24] 3 #[v_l]) fun t12 => 
 lp 1 (fun J => fun t13 w_4 => ∀ _j : Fr, 
  pur Try.prog (binS .lss 3 false false t13 t12) fun t14 => 
  condS t14
   (jn 0 (fun J_1 => 
   pur Try.prog (Instr.indexAt 24 v_l t13) fun t15 => 
   rd Try.prog (Instr.loadAt 32 t15) (fun t16 => 
   act Try.prog (Instr.alloc 32 true (.tuple #[])) (fun t6 w_5 => 
   act Try.prog (thenU (Instr.storeAt 32 t6 t16)) (fun _ w_6 => 
   pur Try.prog (Instr.fieldAt 32 t6 0) fun t17 => 
   rd Try.prog (Instr.loadAt 3 t17) (fun t18 => 
   pur Try.prog (binS .eql 3 false true t18 (.int .i64 1)) fun t19 => 
   gd t19 true (fun k w_7 => pur Try.prog (Instr.fieldAt 32 t6 1) fun t21 => k t21 w_7) (fun t21_1 w_8 => 
   gd t19 true (fun k_1 w_9 => rd Try.prog (Instr.loadAt 3 t21_1) (fun t22 => k_1 t22 w_9) w_9) (fun t22_1 w_10 => 
   gd t19 true (fun k_2 w_11 => pur Try.prog (Instr.fieldAt 32 t2 1) fun t23 => k_2 t23 w_11) (fun t23_1 w_12 => 
   gd t19 true (fun k_3 w_13 => rd Try.prog (Instr.loadAt 3 t23_1) (fun t24 => k_3 t24 w_13) w_13) (fun t24_1 w_14 => 
   gd t19 true (fun k_4 w_15 => pur Try.prog (binS .eql 3 false false t22_1 t24_1) fun t25 => k_4 t25 w_15) (fun t25_1 w_16 => 
   pur Try.prog (pickS t19 t25_1 (.bool false)) fun t26 => 
   gd t26 true (fun k_5 w_17 => pur Try.prog (Instr.fieldAt 32 t6 2) fun t28 => k_5 t28 w_17) (fun t28_1 w_18 => 
   gd t26 true (fun k_6 w_19 => rd Try.prog (Instr.loadAt 27 t28_1) (fun t29 => k_6 t29 w_19) w_19) (fun t29_1 w_20 => 
   gd t26 true (fun k_7 w_21 => pur Try.prog (Instr.fieldAt 32 t2 2) fun t30 => k_7 t30 w_21) (fun t30_1 w_22 => 
   gd t26 true (fun k_8 w_23 => rd Try.prog (Instr.loadAt 27 t30_1) (fun t31 => k_8 t31 w_23) w_23) (fun t31_1 w_24 => 
   gd t26 true (fun k_9 w_25 => pur Try.prog (binS .eql 27 false false t29_1 t31_1) fun t32 => k_9 t32 w_25) (fun t32_1 w_26 => 
   pur Try.prog (pickS t26 t32_1 (.bool false)) fun t33 => 
   condS t33
    (pur Try.prog (Instr.fieldAt 32 t2 3) fun t34 => 
    rd Try.prog (Instr.loadAt 27 t34) (fun t35 => 
    pur Try.prog (Instr.fieldAt 32 t6 3) fun t36 => 
    rd Try.prog (Instr.loadAt 27 t36) (fun t37 => 
    pur Try.prog (Builtin.max_ #[27, 27] 27 #[t35, t37]) fun t38 => 
    pur Try.prog (Instr.fieldAt 32 t2 3) fun t39 => 
    act Try.prog (thenU (Instr.storeAt 27 t39 t38)) (fun _ w_27 => 
    J_1  w_27) w_26) w_26) w_26)
    (J_1  w_26)) w_24) w_22) w_20) w_18) w_16) w_14) w_12) w_10) w_8) w_6) w_6) w_5) w_4) w_4)
  (fun  w_28 => ∀ _j : Fr, 
   pur Try.prog (binS .add 3 false true t13 (.int .i64 1)) fun t40 => 
   J t40 w_28))
   (rd Try.prog (Instr.loadAt 32 t2) (fun t41 => 
 act Try.prog (thenU (Instr.storeAt 32 t4 t41)) (fun _ w_29 => 
 rd Try.prog (resL 32 t4) (fun r_1 => Q r_1 w_29) w_29) w_4) w_4)) [(.int .i64 0)] w_2)) w_2) w_1) w
theorem eq14 (v_e v_l : Value) (Q : Value → World → Prop) (w : World) : semF Try.prog 14 [v_e, v_l] Q w = S14 v_e v_l Q w := by kernel_rfl
theorem ref14 {v_e v_l : Value} {Q : Value → World → Prop} {w : World} (h : S14 v_e v_l Q w) : callS Try.prog 14 #[v_e, v_l] Q w :=
  callS_of mix (fun a w => Try.call14 a w) (by kernel_rfl) (by rw [eq14]; exact h)
-- slices.DeleteFunc[[]commons/hist.Event,commons/hist.Event]
def S15 (v_s v_del : Value) (Q : Value → World → Prop) (w : World) : Prop :=
 callS Try.prog 24 #[v_s, v_del] (fun t10 w_1 => 
 pur Try.prog (binS .eql 3 false true t10 (.int .i64 (-1))) fun t12 => 
 condS t12
  (Q v_s w_1)
  (pur Try.prog (binS .add 3 false true t10 (.int .i64 1)) fun t15 => 
 lp 2 (fun J => fun v_i v_j w_2 => ∀ _j : Fr, 
  pur Try.prog (Builtin.len_ #[24] 3 #[v_s]) fun t18 => 
  pur Try.prog (binS .lss 3 false false v_j t18) fun t19 => 
  condS t19
   (jn 1 (fun J_1 => 
   pur Try.prog (Instr.indexAt 24 v_s v_j) fun t24 => 
   rd Try.prog (Instr.loadAt 32 t24) (fun t25 => 
   act Try.prog (Instr.alloc 32 true (.tuple #[])) (fun t7 w_3 => 
   act Try.prog (thenU (Instr.storeAt 32 t7 t25)) (fun _ w_4 => 
   rd Try.prog (Instr.loadAt 32 t7) (fun t27 => 
   callF Try.prog v_del #[t27] (fun t28 w_5 => 
   pur Try.prog (Op.unary .not t28) fun t29 => 
   condS t29
    (rd Try.prog (Instr.loadAt 32 t7) (fun t32 => 
    pur Try.prog (Instr.indexAt 24 v_s v_i) fun t33 => 
    act Try.prog (thenU (Instr.storeAt 32 t33 t32)) (fun _ w_6 => 
    pur Try.prog (binS .add 3 false true v_i (.int .i64 1)) fun t35 => 
    J_1 t35 w_6) w_5) w_5)
    (J_1 v_i w_5)) w_4) w_4) w_3) w_2) w_2)
  (fun v_i_1 w_7 => ∀ _j : Fr, 
   pur Try.prog (binS .add 3 false true v_j (.int .i64 1)) fun t21 => 
   J v_i_1 t21 w_7))
   (pur Try.prog (Instr.sliceAt 24 v_s (some v_i) none none) fun t38 => 
 act Try.prog (Builtin.clear_ #[24] 0 #[t38]) (fun _ w_8 => 
 pur Try.prog (Instr.sliceAt 24 v_s none (some v_i) none) fun t41 => 
 Q t41 w_8) w_2)) [t10, t15] w_1)) w
theorem eq15 (v_s v_del : Value) (Q : Value → World → Prop) (w : World) : semF Try.prog 15 [v_s, v_del] Q w = S15 v_s v_del Q w := by kernel_rfl
theorem ref15 {v_s v_del : Value} {Q : Value → World → Prop} {w : World} (h : S15 v_s v_del Q w) : callS Try.prog 15 #[v_s, v_del] Q w :=
  callS_of mix (fun a w => Try.call15 a w) (by kernel_rfl) (by rw [eq15]; exact h)
-- commons/hist.Play$1
def S16 (v_x t1 t2 : Value) (Q : Value → World → Prop) (w : World) : Prop :=
 act Try.prog (Instr.box 32 v_x) (fun t3 w_1 => 
 pur Try.prog (Instr.fieldAt 32 t3 1) fun t5 => 
 rd Try.prog (Instr.loadAt 3 t5) (fun t6 => 
 pur Try.prog (Instr.fieldAt 32 t1 1) fun t7 => 
 rd Try.prog (Instr.loadAt 3 t7) (fun t8 => 
 pur Try.prog (binS .eql 3 false false t6 t8) fun t9 => 
 gd t9 true (fun k w_2 => pur Try.prog (Instr.fieldAt 32 t3 2) fun t11 => k t11 w_2) (fun t11_1 w_3 => 
 gd t9 true (fun k_1 w_4 => rd Try.prog (Instr.loadAt 27 t11_1) (fun t12 => k_1 t12 w_4) w_4) (fun t12_1 w_5 => 
 gd t9 true (fun k_2 w_6 => pur Try.prog (Instr.fieldAt 32 t1 2) fun t13 => k_2 t13 w_6) (fun t13_1 w_7 => 
 gd t9 true (fun k_3 w_8 => rd Try.prog (Instr.loadAt 27 t13_1) (fun t14 => k_3 t14 w_8) w_8) (fun t14_1 w_9 => 
 gd t9 true (fun k_4 w_10 => pur Try.prog (binS .eql 27 false false t12_1 t14_1) fun t15 => k_4 t15 w_10) (fun t15_1 w_11 => 
 pur Try.prog (pickS t9 t15_1 (.bool false)) fun t16 => 
 gd t16 true (fun k_5 w_12 => pur Try.prog (Instr.fieldAt 32 t3 3) fun t18 => k_5 t18 w_12) (fun t18_1 w_13 => 
 gd t16 true (fun k_6 w_14 => rd Try.prog (Instr.loadAt 27 t18_1) (fun t19 => k_6 t19 w_14) w_14) (fun t19_1 w_15 => 
 gd t16 true (fun k_7 w_16 => rd Try.prog (Instr.loadAt 27 t2) (fun t20 => k_7 t20 w_16) w_16) (fun t20_1 w_17 => 
 gd t16 true (fun k_8 w_18 => pur Try.prog (binS .gtr 27 false false t19_1 t20_1) fun t21 => k_8 t21 w_18) (fun t21_1 w_19 => 
 pur Try.prog (pickS t16 t21_1 (.bool false)) fun t22 => 
 Q t22 w_19) w_17) w_15) w_13) w_11) w_9) w_7) w_5) w_3) w_1) w_1) w_1) w
theorem eq16 (v_x t1 t2 : Value) (Q : Value → World → Prop) (w : World) : semF Try.prog 16 [v_x, t1, t2] Q w = S16 v_x t1 t2 Q w := by kernel_rfl
theorem ref16 {v_x t1 t2 : Value} {Q : Value → World → Prop} {w : World} (h : S16 v_x t1 t2 Q w) : callS Try.prog 16 #[v_x, t1, t2] Q w :=
  callS_of mix (fun a w => Try.call16 a w) (by kernel_rfl) (by rw [eq16]; exact h)
-- commons/hist.alone
def S17 (v_l : Value) (Q : Value → World → Prop) (w : World) : Prop :=
 act Try.prog (Instr.makeMap 49 none) (fun t8 w_1 => 
 pur Try.prog (Builtin.len_ #[24] 3 #[v_l]) fun t10 => 
 lp 2 (fun J => fun v_ok t11 w_2 => ∀ _j : Fr, 
  pur Try.prog (binS .lss 3 false false t11 t10) fun t12 => 
  condS t12
   (pur Try.prog (Instr.indexAt 24 v_l t11) fun t13 => 
  rd Try.prog (Instr.loadAt 32 t13) (fun t14 => 
  act Try.prog (Instr.alloc 32 true (.tuple #[])) (fun t7 w_3 => 
  act Try.prog (thenU (Instr.storeAt 32 t7 t14)) (fun _ w_4 => 
  gd v_ok true (fun k w_5 => k t8 w_5) (fun t17_1 w_6 => 
  gd v_ok true (fun k_1 w_7 => pur Try.prog (Instr.fieldAt 32 t7 4) fun t18 => k_1 t18 w_7) (fun t18_1 w_8 => 
  gd v_ok true (fun k_2 w_9 => rd Try.prog (Instr.loadAt 25 t18_1) (fun t19 => k_2 t19 w_9) w_9) (fun t19_1 w_10 => 
  gd v_ok true (fun k_3 w_11 => callS Try.prog 12 #[t17_1, t19_1] (fun t20 w_12 => k_3 t20 w_12) w_11) (fun t20_1 w_13 => 
  pur Try.prog (pickS v_ok t20_1 (.bool false)) fun t21 => 
  pur Try.prog (Instr.fieldAt 32 t7 5) fun t23 => 
  rd Try.prog (Instr.loadAt 25 t23) (fun t24 => 
  callS Try.prog 13 #[t8, t24] (fun _ w_14 => 
  pur Try.prog (binS .add 3 false true t11 (.int .i64 1)) fun t26 => 
  J t21 t26 w_14) w_13) w_13) w_10) w_8) w_6) w_4) w_3) w_2) w_2)
   (Q (.tuple #[t8, v_ok]) w_2)) [(.bool true), (.int .i64 0)] w_1) w
theorem eq17 (v_l : Value) (Q : Value → World → Prop) (w : World) : semF Try.prog 17 [v_l] Q w = S17 v_l Q w := by kernel_rfl
theorem ref17 {v_l : Value} {Q : Value → World → Prop} {w : World} (h : S17 v_l Q w) : callS Try.prog 17 #[v_l] Q w :=
  callS_of mix (fun a w => Try.call17 a w) (by kernel_rfl) (by rw [eq17]; exact h)
-- slices.Sorted[int]
def S18 (v_seq : Value) (Q : Value → World → Prop) (w : World) : Prop :=
 callS Try.prog 25 #[v_seq] (fun t5 w_1 => 
 callS Try.prog 26 #[t5] (fun _ w_2 => 
 Q t5 w_2) w_1) w
theorem eq18 (v_seq : Value) (Q : Value → World → Prop) (w : World) : semF Try.prog 18 [v_seq] Q w = S18 v_seq Q w := by kernel_rfl
theorem ref18 {v_seq : Value} {Q : Value → World → Prop} {w : World} (h : S18 v_seq Q w) : callS Try.prog 18 #[v_seq] Q w :=
  callS_of mix (fun a w => Try.call18 a w) (by kernel_rfl) (by rw [eq18]; exact h)
-- maps.Keys[commons/hist.array,int,string]
def S19 (v_m : Value) (Q : Value → World → Prop) (w : World) : Prop :=
 act Try.prog (Instr.box 49 v_m) (fun t1 w_1 => 
 pur Try.prog (pure (.func (.func 27) #[] #[t1])) fun t3 => 
 Q t3 w_1) w
theorem eq19 (v_m : Value) (Q : Value → World → Prop) (w : World) : semF Try.prog 19 [v_m] Q w = S19 v_m Q w := by kernel_rfl
theorem ref19 {v_m : Value} {Q : Value → World → Prop} {w : World} (h : S19 v_m Q w) : callS Try.prog 19 #[v_m] Q w :=
  callS_of mix (fun a w => Try.call19 a w) (by kernel_rfl) (by rw [eq19]; exact h)
-- strings.Clone
def S20 (v_s : Value) (Q : Value → World → Prop) (w : World) : Prop :=
 callS Try.prog 28 #[v_s] (fun t4 w_1 => 
 Q t4 w_1) w
theorem eq20 (v_s : Value) (Q : Value → World → Prop) (w : World) : semF Try.prog 20 [v_s] Q w = S20 v_s Q w := by kernel_rfl
theorem ref20 {v_s : Value} {Q : Value → World → Prop} {w : World} (h : S20 v_s Q w) : callS Try.prog 20 #[v_s] Q w :=
  callS_of mix (fun a w => Try.call20 a w) (by kernel_rfl) (by rw [eq20]; exact h)
-- slices.ContainsFunc[[]commons/api.Image,commons/api.Image]
def S21 (v_s v_f : Value) (Q : Value → World → Prop) (w : World) : Prop :=
 callS Try.prog 29 #[v_s, v_f] (fun t7 w_1 => 
 pur Try.prog (binS .geq 3 false true t7 (.int .i64 0)) fun t8 => 
 Q t8 w_1) w
theorem eq21 (v_s v_f : Value) (Q : Value → World → Prop) (w : World) : semF Try.prog 21 [v_s, v_f] Q w = S21 v_s v_f Q w := by kernel_rfl
theorem ref21 {v_s v_f : Value} {Q : Value → World → Prop} {w : World} (h : S21 v_s v_f Q w) : callS Try.prog 21 #[v_s, v_f] Q w :=
  callS_of mix (fun a w => Try.call21 a w) (by kernel_rfl) (by rw [eq21]; exact h)
-- (commons/hist.array).reads$1
def S22 (v_i t1 : Value) (Q : Value → World → Prop) (w : World) : Prop :=
 act Try.prog (Instr.box 29 v_i) (fun t2 w_1 => 
 rd Try.prog (Instr.loadAt 49 t1) (fun t7 => 
 pur Try.prog (Instr.fieldAt 29 t2 0) fun t8 => 
 rd Try.prog (Instr.loadAt 3 t8) (fun t9 => 
 rd Try.prog (Instr.lookup 49 t7 t9 true) (fun t10 => 
 pur Try.prog (Instr.extract t10 0) fun t11 => 
 pur Try.prog (Instr.extract t10 1) fun t12 => 
 jn 1 (fun J => 
  pur Try.prog (Op.unary .not t12) fun t14 => 
  condS t14
   (callS Try.prog 23 #[] (fun t15 w_2 => 
   J t15 w_2) w_1)
   (J t11 w_1))
 (fun v_s w_3 => ∀ _j : Fr, 
  pur Try.prog (Instr.fieldAt 29 t2 2) fun t17 => 
  rd Try.prog (Instr.loadAt 9 t17) (fun t18 => 
  pur Try.prog (binS .neq 9 false false v_s t18) fun t19 => 
  Q t19 w_3) w_3)) w_1) w_1) w_1) w
theorem eq22 (v_i t1 : Value) (Q : Value → World → Prop) (w : World) : semF Try.prog 22 [v_i, t1] Q w = S22 v_i t1 Q w := by kernel_rfl
theorem ref22 {v_i t1 : Value} {Q : Value → World → Prop} {w : World} (h : S22 v_i t1 Q w) : callS Try.prog 22 #[v_i, t1] Q w :=
  callS_of mix (fun a w => Try.call22 a w) (by kernel_rfl) (by rw [eq22]; exact h)
-- commons/hist.zero
def S23 (Q : Value → World → Prop) (w : World) : Prop :=
 callS Try.prog 30 #[(.string ⟨#[0]⟩), (.int .i64 96)] (fun t1 w_1 => 
 Q t1 w_1) w
theorem eq23 (Q : Value → World → Prop) (w : World) : semF Try.prog 23 [] Q w = S23 Q w := by kernel_rfl
theorem ref23 {Q : Value → World → Prop} {w : World} (h : S23 Q w) : callS Try.prog 23 #[] Q w :=
  callS_of mix (fun a w => Try.call23 a w) (by kernel_rfl) (by rw [eq23]; exact h)
-- slices.IndexFunc[[]commons/hist.Event,commons/hist.Event]
def S24 (v_s v_f : Value) (Q : Value → World → Prop) (w : World) : Prop :=
 pur Try.prog (Builtin.len_ #[24] 3 #[v_s]) fun t7 => 
 lp 1 (fun J => fun t8 w_1 => ∀ _j : Fr, 
  pur Try.prog (binS .lss 3 false false t8 t7) fun t9 => 
  condS t9
   (pur Try.prog (Instr.indexAt 24 v_s t8) fun t14 => 
  rd Try.prog (Instr.loadAt 32 t14) (fun t15 => 
  callF Try.prog v_f #[t15] (fun t16 w_2 => 
  condS t16
   (Q t8 w_2)
   (pur Try.prog (binS .add 3 false true t8 (.int .i64 1)) fun t18 => 
  J t18 w_2)) w_1) w_1)
   (Q (.int .i64 (-1)) w_1)) [(.int .i64 0)] w
theorem eq24 (v_s v_f : Value) (Q : Value → World → Prop) (w : World) : semF Try.prog 24 [v_s, v_f] Q w = S24 v_s v_f Q w := by kernel_rfl
theorem ref24 {v_s v_f : Value} {Q : Value → World → Prop} {w : World} (h : S24 v_s v_f Q w) : callS Try.prog 24 #[v_s, v_f] Q w :=
  callS_of mix (fun a w => Try.call24 a w) (by kernel_rfl) (by rw [eq24]; exact h)
-- slices.Collect[int]
def S25 (v_seq : Value) (Q : Value → World → Prop) (w : World) : Prop :=
 callS Try.prog 31 #[(.slice none 0 0), v_seq] (fun t4 w_1 => 
 Q t4 w_1) w
theorem eq25 (v_seq : Value) (Q : Value → World → Prop) (w : World) : semF Try.prog 25 [v_seq] Q w = S25 v_seq Q w := by kernel_rfl
theorem ref25 {v_seq : Value} {Q : Value → World → Prop} {w : World} (h : S25 v_seq Q w) : callS Try.prog 25 #[v_seq] Q w :=
  callS_of mix (fun a w => Try.call25 a w) (by kernel_rfl) (by rw [eq25]; exact h)
-- slices.Sort[[]int,int]
def S26 (v_x : Value) (Q : Value → World → Prop) (w : World) : Prop :=
 pur Try.prog (Builtin.len_ #[30] 3 #[v_x]) fun t4 => 
 pur Try.prog (convert 3 78 t4) fun t8 => 
 callS Try.prog 33 #[t8] (fun t9 w_1 => 
 callS Try.prog 32 #[v_x, (.int .i64 0), t4, t9] (fun _ w_2 => 
 Q (.tuple #[]) w_2) w_1) w
theorem eq26 (v_x : Value) (Q : Value → World → Prop) (w : World) : semF Try.prog 26 [v_x] Q w = S26 v_x Q w := by kernel_rfl
theorem ref26 {v_x : Value} {Q : Value → World → Prop} {w : World} (h : S26 v_x Q w) : callS Try.prog 26 #[v_x] Q w :=
  callS_of mix (fun a w => Try.call26 a w) (by kernel_rfl) (by rw [eq26]; exact h)
-- maps.Keys[commons/hist.array,int,string]$1
def S27 (v_yield t1 : Value) (Q : Value → World → Prop) (w : World) : Prop :=
 rd Try.prog (Instr.loadAt 49 t1) (fun t4 => 
 act Try.prog (Instr.range 49 t4) (fun t5 w_1 => 
 lp 0 (fun J => fun  w_2 => ∀ _j : Fr, 
  act Try.prog (Instr.next t5 false 0) (fun t6 w_3 => 
  pur Try.prog (Instr.extract t6 0) fun t7 => 
  condS t7
   (rd Try.prog (Instr.entry t5) (fun t8 => 
  pur Try.prog (Instr.extract t8 0) fun t9 => 
  callF Try.prog v_yield #[t9] (fun t12 w_4 => 
  pur Try.prog (Op.unary .not t12) fun t13 => 
  condS t13
   (Q (.tuple #[]) w_4)
   (J  w_4)) w_3) w_3)
   (Q (.tuple #[]) w_3)) w_2) [] w_1) w) w
theorem eq27 (v_yield t1 : Value) (Q : Value → World → Prop) (w : World) : semF Try.prog 27 [v_yield, t1] Q w = S27 v_yield t1 Q w := by kernel_rfl
theorem ref27 {v_yield t1 : Value} {Q : Value → World → Prop} {w : World} (h : S27 v_yield t1 Q w) : callS Try.prog 27 #[v_yield, t1] Q w :=
  callS_of mix (fun a w => Try.call27 a w) (by kernel_rfl) (by rw [eq27]; exact h)
-- internal/stringslite.Clone
def S28 (v_s : Value) (Q : Value → World → Prop) (w : World) : Prop :=
 pur Try.prog (Builtin.len_ #[9] 3 #[v_s]) fun t5 => 
 pur Try.prog (binS .eql 3 false true t5 (.int .i64 0)) fun t6 => 
 condS t6
  (Q (.string ⟨#[]⟩) w)
  (pur Try.prog (Builtin.len_ #[9] 3 #[v_s]) fun t8 => 
 act Try.prog (Instr.makeSlice 26 t8 t8) (fun t9 w_1 => 
 act Try.prog (Builtin.copy_ #[26, 9] 3 #[t9, v_s]) (fun _ w_2 => 
 pur Try.prog (Instr.indexAt 26 t9 (.int .i64 0)) fun _ => 
 pur Try.prog (Builtin.len_ #[26] 3 #[t9]) fun _ => 
 act Try.prog (stuck "no such builtin here") (fun t17 w_3 => 
 Q t17 w_3) w_2) w_1) w)
theorem eq28 (v_s : Value) (Q : Value → World → Prop) (w : World) : semF Try.prog 28 [v_s] Q w = S28 v_s Q w := by kernel_rfl
theorem ref28 {v_s : Value} {Q : Value → World → Prop} {w : World} (h : S28 v_s Q w) : callS Try.prog 28 #[v_s] Q w :=
  callS_of mix (fun a w => Try.call28 a w) (by kernel_rfl) (by rw [eq28]; exact h)
-- slices.IndexFunc[[]commons/api.Image,commons/api.Image]
def S29 (v_s v_f : Value) (Q : Value → World → Prop) (w : World) : Prop :=
 pur Try.prog (Builtin.len_ #[25] 3 #[v_s]) fun t7 => 
 lp 1 (fun J => fun t8 w_1 => ∀ _j : Fr, 
  pur Try.prog (binS .lss 3 false false t8 t7) fun t9 => 
  condS t9
   (pur Try.prog (Instr.indexAt 25 v_s t8) fun t14 => 
  rd Try.prog (Instr.loadAt 29 t14) (fun t15 => 
  callF Try.prog v_f #[t15] (fun t16 w_2 => 
  condS t16
   (Q t8 w_2)
   (pur Try.prog (binS .add 3 false true t8 (.int .i64 1)) fun t18 => 
  J t18 w_2)) w_1) w_1)
   (Q (.int .i64 (-1)) w_1)) [(.int .i64 0)] w
theorem eq29 (v_s v_f : Value) (Q : Value → World → Prop) (w : World) : semF Try.prog 29 [v_s, v_f] Q w = S29 v_s v_f Q w := by kernel_rfl
theorem ref29 {v_s v_f : Value} {Q : Value → World → Prop} {w : World} (h : S29 v_s v_f Q w) : callS Try.prog 29 #[v_s, v_f] Q w :=
  callS_of mix (fun a w => Try.call29 a w) (by kernel_rfl) (by rw [eq29]; exact h)
-- strings.Repeat
def S30 (v_s v_count : Value) (Q : Value → World → Prop) (w : World) : Prop :=
 pur Try.prog (binS .eql 3 false true v_count (.int .i64 0)) fun t13 => 
 condS t13
  (Q (.string ⟨#[]⟩) w)
  (pur Try.prog (binS .eql 3 false true v_count (.int .i64 1)) fun t15 => 
  condS t15
   (Q v_s w)
   (jn 0 (fun J => 
  pur Try.prog (binS .lss 3 false true v_count (.int .i64 0)) fun t18 => 
  condS t18
   (act Try.prog (Instr.makeInterface 9 (.string ⟨#[115, 116, 114, 105, 110, 103, 115, 58, 32, 110, 101, 103, 97, 116, 105, 118, 101, 32, 82, 101, 112, 101, 97, 116, 32, 99, 111, 117, 110, 116]⟩)) (fun _ w_1 => 
   act Try.prog (stuck "no such operation here") (fun _ w_2 => 
   J  w_2) w_1) w)
   (J  w))
 (fun  w_3 => ∀ _j : Fr, 
  pur Try.prog (Builtin.len_ #[9] 3 #[v_s]) fun t22 => 
  pur Try.prog (convert 3 78 t22) fun t23 => 
  pur Try.prog (convert 3 78 v_count) fun t25 => 
  callS Try.prog 34 #[t23, t25] (fun t26 w_4 => 
  pur Try.prog (Instr.extract t26 0) fun t27 => 
  pur Try.prog (Instr.extract t26 1) fun t28 => 
  jn 0 (fun J_1 => 
   pur Try.prog (binS .gtr 78 false true t27 (.int .u64 0)) fun t30 => 
   gd t30 false (fun k w_5 => k t28 w_5) (fun t32_1 w_6 => 
   gd t30 false (fun k_1 w_7 => pur Try.prog (binS .gtr 78 false true t32_1 (.int .u64 9223372036854775807)) fun t33 => k_1 t33 w_7) (fun t33_1 w_8 => 
   pur Try.prog (pickS t30 (.bool true) t33_1) fun t34 => 
   condS t34
    (act Try.prog (Instr.makeInterface 9 (.string ⟨#[115, 116, 114, 105, 110, 103, 115, 58, 32, 82, 101, 112, 101, 97, 116, 32, 111, 117, 116, 112, 117, 116, 32, 108, 101, 110, 103, 116, 104, 32, 111, 118, 101, 114, 102, 108, 111, 119]⟩)) (fun _ w_9 => 
    act Try.prog (stuck "no such operation here") (fun _ w_10 => 
    J_1  w_10) w_9) w_8)
    (J_1  w_8)) w_6) w_4)
  (fun  w_11 => ∀ _j : Fr, 
   pur Try.prog (convert 78 3 t28) fun t37 => 
   pur Try.prog (Builtin.len_ #[9] 3 #[v_s]) fun t39 => 
   pur Try.prog (binS .eql 3 false true t39 (.int .i64 0)) fun t40 => 
   condS t40
    (Q (.string ⟨#[]⟩) w_11)
    (jn 0 (fun J_2 => 
    pur Try.prog (Instr.index 9 v_s (.int .i64 0)) fun t42 => 
    jn 1 (fun J_3 => 
     pur Try.prog (binS .eql 5 false true t42 (.int .u8 32)) fun t44 => 
     condS t44
      (J_3 t44 w_11)
      (pur Try.prog (binS .eql 5 false true t42 (.int .u8 45)) fun t45 => 
      condS t45
       (J_3 t45 w_11)
       (pur Try.prog (binS .eql 5 false true t42 (.int .u8 48)) fun t46 => 
       condS t46
        (J_3 t46 w_11)
        (pur Try.prog (binS .eql 5 false true t42 (.int .u8 61)) fun t47 => 
        condS t47
         (J_3 t47 w_11)
         (pur Try.prog (binS .eql 5 false true t42 (.int .u8 9)) fun t48 => 
         J_3 t48 w_11)))))
    (fun t43 w_12 => ∀ _j : Fr, 
     condS t43
      (pur Try.prog (binS .leq 3 false true t37 (.int .i64 128)) fun t51 => 
      gd t51 true (fun k_2 w_13 => k_2 v_s w_13) (fun t53_1 w_14 => 
      gd t51 true (fun k_3 w_15 => callS Try.prog 35 #[(.string ⟨#[32, 32, 32, 32, 32, 32, 32, 32, 32, 32, 32, 32, 32, 32, 32, 32, 32, 32, 32, 32, 32, 32, 32, 32, 32, 32, 32, 32, 32, 32, 32, 32, 32, 32, 32, 32, 32, 32, 32, 32, 32, 32, 32, 32, 32, 32, 32, 32, 32, 32, 32, 32, 32, 32, 32, 32, 32, 32, 32, 32, 32, 32, 32, 32, 32, 32, 32, 32, 32, 32, 32, 32, 32, 32, 32, 32, 32, 32, 32, 32, 32, 32, 32, 32, 32, 32, 32, 32, 32, 32, 32, 32, 32, 32, 32, 32, 32, 32, 32, 32, 32, 32, 32, 32, 32, 32, 32, 32, 32, 32, 32, 32, 32, 32, 32, 32, 32, 32, 32, 32, 32, 32, 32, 32, 32, 32, 32, 32]⟩), t53_1] (fun t54 w_16 => k_3 t54 w_16) w_15) (fun t54_1 w_17 => 
      pur Try.prog (pickS t51 t54_1 (.bool false)) fun t55 => 
      condS t55
       (pur Try.prog (Instr.sliceAt 9 (.string ⟨#[32, 32, 32, 32, 32, 32, 32, 32, 32, 32, 32, 32, 32, 32, 32, 32, 32, 32, 32, 32, 32, 32, 32, 32, 32, 32, 32, 32, 32, 32, 32, 32, 32, 32, 32, 32, 32, 32, 32, 32, 32, 32, 32, 32, 32, 32, 32, 32, 32, 32, 32, 32, 32, 32, 32, 32, 32, 32, 32, 32, 32, 32, 32, 32, 32, 32, 32, 32, 32, 32, 32, 32, 32, 32, 32, 32, 32, 32, 32, 32, 32, 32, 32, 32, 32, 32, 32, 32, 32, 32, 32, 32, 32, 32, 32, 32, 32, 32, 32, 32, 32, 32, 32, 32, 32, 32, 32, 32, 32, 32, 32, 32, 32, 32, 32, 32, 32, 32, 32, 32, 32, 32, 32, 32, 32, 32, 32, 32]⟩) none (some t37) none) fun t57 => 
       Q t57 w_17)
       (pur Try.prog (binS .leq 3 false true t37 (.int .i64 128)) fun t60 => 
       gd t60 true (fun k_4 w_18 => k_4 v_s w_18) (fun t62_1 w_19 => 
       gd t60 true (fun k_5 w_20 => callS Try.prog 35 #[(.string ⟨#[45, 45, 45, 45, 45, 45, 45, 45, 45, 45, 45, 45, 45, 45, 45, 45, 45, 45, 45, 45, 45, 45, 45, 45, 45, 45, 45, 45, 45, 45, 45, 45, 45, 45, 45, 45, 45, 45, 45, 45, 45, 45, 45, 45, 45, 45, 45, 45, 45, 45, 45, 45, 45, 45, 45, 45, 45, 45, 45, 45, 45, 45, 45, 45, 45, 45, 45, 45, 45, 45, 45, 45, 45, 45, 45, 45, 45, 45, 45, 45, 45, 45, 45, 45, 45, 45, 45, 45, 45, 45, 45, 45, 45, 45, 45, 45, 45, 45, 45, 45, 45, 45, 45, 45, 45, 45, 45, 45, 45, 45, 45, 45, 45, 45, 45, 45, 45, 45, 45, 45, 45, 45, 45, 45, 45, 45, 45, 45]⟩), t62_1] (fun t63 w_21 => k_5 t63 w_21) w_20) (fun t63_1 w_22 => 
       pur Try.prog (pickS t60 t63_1 (.bool false)) fun t64 => 
       condS t64
        (pur Try.prog (Instr.sliceAt 9 (.string ⟨#[45, 45, 45, 45, 45, 45, 45, 45, 45, 45, 45, 45, 45, 45, 45, 45, 45, 45, 45, 45, 45, 45, 45, 45, 45, 45, 45, 45, 45, 45, 45, 45, 45, 45, 45, 45, 45, 45, 45, 45, 45, 45, 45, 45, 45, 45, 45, 45, 45, 45, 45, 45, 45, 45, 45, 45, 45, 45, 45, 45, 45, 45, 45, 45, 45, 45, 45, 45, 45, 45, 45, 45, 45, 45, 45, 45, 45, 45, 45, 45, 45, 45, 45, 45, 45, 45, 45, 45, 45, 45, 45, 45, 45, 45, 45, 45, 45, 45, 45, 45, 45, 45, 45, 45, 45, 45, 45, 45, 45, 45, 45, 45, 45, 45, 45, 45, 45, 45, 45, 45, 45, 45, 45, 45, 45, 45, 45, 45]⟩) none (some t37) none) fun t66 => 
        Q t66 w_22)
        (pur Try.prog (binS .leq 3 false true t37 (.int .i64 64)) fun t69 => 
        gd t69 true (fun k_6 w_23 => k_6 v_s w_23) (fun t71_1 w_24 => 
        gd t69 true (fun k_7 w_25 => callS Try.prog 35 #[(.string ⟨#[48, 48, 48, 48, 48, 48, 48, 48, 48, 48, 48, 48, 48, 48, 48, 48, 48, 48, 48, 48, 48, 48, 48, 48, 48, 48, 48, 48, 48, 48, 48, 48, 48, 48, 48, 48, 48, 48, 48, 48, 48, 48, 48, 48, 48, 48, 48, 48, 48, 48, 48, 48, 48, 48, 48, 48, 48, 48, 48, 48, 48, 48, 48, 48]⟩), t71_1] (fun t72 w_26 => k_7 t72 w_26) w_25) (fun t72_1 w_27 => 
        pur Try.prog (pickS t69 t72_1 (.bool false)) fun t73 => 
        condS t73
         (pur Try.prog (Instr.sliceAt 9 (.string ⟨#[48, 48, 48, 48, 48, 48, 48, 48, 48, 48, 48, 48, 48, 48, 48, 48, 48, 48, 48, 48, 48, 48, 48, 48, 48, 48, 48, 48, 48, 48, 48, 48, 48, 48, 48, 48, 48, 48, 48, 48, 48, 48, 48, 48, 48, 48, 48, 48, 48, 48, 48, 48, 48, 48, 48, 48, 48, 48, 48, 48, 48, 48, 48, 48]⟩) none (some t37) none) fun t75 => 
         Q t75 w_27)
         (pur Try.prog (binS .leq 3 false true t37 (.int .i64 128)) fun t78 => 
         gd t78 true (fun k_8 w_28 => k_8 v_s w_28) (fun t80_1 w_29 => 
         gd t78 true (fun k_9 w_30 => callS Try.prog 35 #[(.string ⟨#[61, 61, 61, 61, 61, 61, 61, 61, 61, 61, 61, 61, 61, 61, 61, 61, 61, 61, 61, 61, 61, 61, 61, 61, 61, 61, 61, 61, 61, 61, 61, 61, 61, 61, 61, 61, 61, 61, 61, 61, 61, 61, 61, 61, 61, 61, 61, 61, 61, 61, 61, 61, 61, 61, 61, 61, 61, 61, 61, 61, 61, 61, 61, 61, 61, 61, 61, 61, 61, 61, 61, 61, 61, 61, 61, 61, 61, 61, 61, 61, 61, 61, 61, 61, 61, 61, 61, 61, 61, 61, 61, 61, 61, 61, 61, 61, 61, 61, 61, 61, 61, 61, 61, 61, 61, 61, 61, 61, 61, 61, 61, 61, 61, 61, 61, 61, 61, 61, 61, 61, 61, 61, 61, 61, 61, 61, 61, 61]⟩), t80_1] (fun t81 w_31 => k_9 t81 w_31) w_30) (fun t81_1 w_32 => 
         pur Try.prog (pickS t78 t81_1 (.bool false)) fun t82 => 
         condS t82
          (pur Try.prog (Instr.sliceAt 9 (.string ⟨#[61, 61, 61, 61, 61, 61, 61, 61, 61, 61, 61, 61, 61, 61, 61, 61, 61, 61, 61, 61, 61, 61, 61, 61, 61, 61, 61, 61, 61, 61, 61, 61, 61, 61, 61, 61, 61, 61, 61, 61, 61, 61, 61, 61, 61, 61, 61, 61, 61, 61, 61, 61, 61, 61, 61, 61, 61, 61, 61, 61, 61, 61, 61, 61, 61, 61, 61, 61, 61, 61, 61, 61, 61, 61, 61, 61, 61, 61, 61, 61, 61, 61, 61, 61, 61, 61, 61, 61, 61, 61, 61, 61, 61, 61, 61, 61, 61, 61, 61, 61, 61, 61, 61, 61, 61, 61, 61, 61, 61, 61, 61, 61, 61, 61, 61, 61, 61, 61, 61, 61, 61, 61, 61, 61, 61, 61, 61, 61]⟩) none (some t37) none) fun t84 => 
          Q t84 w_32)
          (pur Try.prog (binS .leq 3 false true t37 (.int .i64 64)) fun t87 => 
          gd t87 true (fun k_10 w_33 => k_10 v_s w_33) (fun t89_1 w_34 => 
          gd t87 true (fun k_11 w_35 => callS Try.prog 35 #[(.string ⟨#[9, 9, 9, 9, 9, 9, 9, 9, 9, 9, 9, 9, 9, 9, 9, 9, 9, 9, 9, 9, 9, 9, 9, 9, 9, 9, 9, 9, 9, 9, 9, 9, 9, 9, 9, 9, 9, 9, 9, 9, 9, 9, 9, 9, 9, 9, 9, 9, 9, 9, 9, 9, 9, 9, 9, 9, 9, 9, 9, 9, 9, 9, 9, 9]⟩), t89_1] (fun t90 w_36 => k_11 t90 w_36) w_35) (fun t90_1 w_37 => 
          pur Try.prog (pickS t87 t90_1 (.bool false)) fun t91 => 
          condS t91
           (pur Try.prog (Instr.sliceAt 9 (.string ⟨#[9, 9, 9, 9, 9, 9, 9, 9, 9, 9, 9, 9, 9, 9, 9, 9, 9, 9, 9, 9, 9, 9, 9, 9, 9, 9, 9, 9, 9, 9, 9, 9, 9, 9, 9, 9, 9, 9, 9, 9, 9, 9, 9, 9, 9, 9, 9, 9, 9, 9, 9, 9, 9, 9, 9, 9, 9, 9, 9, 9, 9, 9, 9, 9]⟩) none (some t37) none) fun t93 => 
           Q t93 w_37)
           (J_2  w_37)) w_34) w_32)) w_29) w_27)) w_24) w_22)) w_19) w_17)) w_14) w_12)
      (J_2  w_12)))
   (fun  w_38 => ∀ _j : Fr, 
    jn 1 (fun J_4 => 
     pur Try.prog (binS .gtr 3 false true t37 (.int .i64 8192)) fun t96 => 
     condS t96
      (pur Try.prog (Builtin.len_ #[9] 3 #[v_s]) fun t98 => 
      pur Try.prog (binS .quo 3 true false (.int .i64 8192) t98) fun t99 => 
      pur Try.prog (Builtin.len_ #[9] 3 #[v_s]) fun t101 => 
      pur Try.prog (binS .mul 3 false false t99 t101) fun t102 => 
      pur Try.prog (binS .eql 3 false true t102 (.int .i64 0)) fun t104 => 
      condS t104
       (pur Try.prog (Builtin.len_ #[9] 3 #[v_s]) fun t106 => 
       J_4 t106 w_38)
       (J_4 t102 w_38))
      (J_4 t37 w_38))
    (fun v_chunkMax w_39 => ∀ _j : Fr, 
     act Try.prog (Instr.alloc 85 true (.tuple #[])) (fun t9 w_40 => 
     callS Try.prog 36 #[t9, t37] (fun _ w_41 => 
     callS Try.prog 37 #[t9, v_s] (fun _ w_42 => 
     lp 0 (fun J_5 => fun  w_43 => ∀ _j : Fr, 
      callS Try.prog 38 #[t9] (fun t111 w_44 => 
      pur Try.prog (binS .lss 3 false false t111 t37) fun t113 => 
      condS t113
       (callS Try.prog 38 #[t9] (fun t115 w_45 => 
      pur Try.prog (binS .sub 3 false false t37 t115) fun t116 => 
      callS Try.prog 38 #[t9] (fun t117 w_46 => 
      pur Try.prog (Builtin.min_ #[3, 3, 3] 3 #[t116, t117, v_chunkMax]) fun t119 => 
      callS Try.prog 39 #[t9] (fun t120 w_47 => 
      pur Try.prog (Instr.sliceAt 9 t120 none (some t119) none) fun t122 => 
      callS Try.prog 37 #[t9, t122] (fun _ w_48 => 
      J_5  w_48) w_47) w_46) w_45) w_44)
       (callS Try.prog 39 #[t9] (fun t124 w_49 => 
     Q t124 w_49) w_44)) w_43) [] w_42) w_41) w_40) w_39))))) w_3)))
theorem eq30 (v_s v_count : Value) (Q : Value → World → Prop) (w : World) : semF Try.prog 30 [v_s, v_count] Q w = S30 v_s v_count Q w := by kernel_rfl
theorem ref30 {v_s v_count : Value} {Q : Value → World → Prop} {w : World} (h : S30 v_s v_count Q w) : callS Try.prog 30 #[v_s, v_count] Q w :=
  callS_of mix (fun a w => Try.call30 a w) (by kernel_rfl) (by rw [eq30]; exact h)
-- math/bits.Mul
def S34 (v_x v_y : Value) (Q : Value → World → Prop) (w : World) : Prop :=
 condS (.bool false)
  (pur Try.prog (convert 78 102 v_x) fun t12 => 
  pur Try.prog (convert 78 102 v_y) fun t14 => 
  callS Try.prog 51 #[t12, t14] (fun t15 w_1 => 
  pur Try.prog (Instr.extract t15 0) fun t16 => 
  pur Try.prog (Instr.extract t15 1) fun t17 => 
  pur Try.prog (convert 102 78 t16) fun t19 => 
  pur Try.prog (convert 102 78 t17) fun t21 => 
  Q (.tuple #[t19, t21]) w_1) w)
  (callS Try.prog 52 #[v_x, v_y] (fun t25 w_2 => 
 pur Try.prog (Instr.extract t25 0) fun t26 => 
 pur Try.prog (Instr.extract t25 1) fun t27 => 
 Q (.tuple #[t26, t27]) w_2) w)
theorem eq34 (v_x v_y : Value) (Q : Value → World → Prop) (w : World) : semF Try.prog 34 [v_x, v_y] Q w = S34 v_x v_y Q w := by kernel_rfl
theorem ref34 {v_x v_y : Value} {Q : Value → World → Prop} {w : World} (h : S34 v_x v_y Q w) : callS Try.prog 34 #[v_x, v_y] Q w :=
  callS_of mix (fun a w => Try.call34 a w) (by kernel_rfl) (by rw [eq34]; exact h)
-- strings.HasPrefix
def S35 (v_s v_prefix : Value) (Q : Value → World → Prop) (w : World) : Prop :=
 callS Try.prog 53 #[v_s, v_prefix] (fun t7 w_1 => 
 Q t7 w_1) w
theorem eq35 (v_s v_prefix : Value) (Q : Value → World → Prop) (w : World) : semF Try.prog 35 [v_s, v_prefix] Q w = S35 v_s v_prefix Q w := by kernel_rfl
theorem ref35 {v_s v_prefix : Value} {Q : Value → World → Prop} {w : World} (h : S35 v_s v_prefix Q w) : callS Try.prog 35 #[v_s, v_prefix] Q w :=
  callS_of mix (fun a w => Try.call35 a w) (by kernel_rfl) (by rw [eq35]; exact h)
-- (*strings.Builder).Grow
def S36 (v_b v_n : Value) (Q : Value → World → Prop) (w : World) : Prop :=
 callS Try.prog 54 #[v_b] (fun _ w_1 => 
 jn 0 (fun J => 
  pur Try.prog (binS .lss 3 false true v_n (.int .i64 0)) fun t7 => 
  condS t7
   (act Try.prog (Instr.makeInterface 9 (.string ⟨#[115, 116, 114, 105, 110, 103, 115, 46, 66, 117, 105, 108, 100, 101, 114, 46, 71, 114, 111, 119, 58, 32, 110, 101, 103, 97, 116, 105, 118, 101, 32, 99, 111, 117, 110, 116]⟩)) (fun _ w_2 => 
   act Try.prog (stuck "no such operation here") (fun _ w_3 => 
   J  w_3) w_2) w_1)
   (J  w_1))
 (fun  w_4 => ∀ _j : Fr, 
  pur Try.prog (nilV v_b) fun t10 => 
  pur Try.prog (Instr.fieldAt 85 t10 1) fun t11 => 
  rd Try.prog (Instr.loadAt 26 t11) (fun t12 => 
  pur Try.prog (Builtin.cap_ #[26] 3 #[t12]) fun t13 => 
  pur Try.prog (nilV v_b) fun t15 => 
  pur Try.prog (Instr.fieldAt 85 t15 1) fun t16 => 
  rd Try.prog (Instr.loadAt 26 t16) (fun t17 => 
  pur Try.prog (Builtin.len_ #[26] 3 #[t17]) fun t18 => 
  pur Try.prog (binS .sub 3 false false t13 t18) fun t19 => 
  pur Try.prog (binS .lss 3 false false t19 v_n) fun t21 => 
  condS t21
   (callS Try.prog 55 #[v_b, v_n] (fun _ w_5 => 
   Q (.tuple #[]) w_5) (World.drew w_4))
   (Q (.tuple #[]) (World.drew w_4))) (World.drew w_4)) (World.drew w_4))) w
theorem eq36 (v_b v_n : Value) (Q : Value → World → Prop) (w : World) : semF Try.prog 36 [v_b, v_n] Q w = S36 v_b v_n Q w := by kernel_rfl
theorem ref36 {v_b v_n : Value} {Q : Value → World → Prop} {w : World} (h : S36 v_b v_n Q w) : callS Try.prog 36 #[v_b, v_n] Q w :=
  callS_of mix (fun a w => Try.call36 a w) (by kernel_rfl) (by rw [eq36]; exact h)
-- (*strings.Builder).WriteString
def S37 (v_b v_s : Value) (Q : Value → World → Prop) (w : World) : Prop :=
 callS Try.prog 54 #[v_b] (fun _ w_1 => 
 pur Try.prog (nilV v_b) fun t10 => 
 pur Try.prog (Instr.fieldAt 85 t10 1) fun t11 => 
 rd Try.prog (Instr.loadAt 26 t11) (fun t12 => 
 act Try.prog (Builtin.append_ #[26, 9] 26 #[t12, v_s]) (fun t14 w_2 => 
 pur Try.prog (nilV v_b) fun t15 => 
 pur Try.prog (Instr.fieldAt 85 t15 1) fun t16 => 
 act Try.prog (thenU (Instr.storeAt 26 t16 t14)) (fun _ w_3 => 
 pur Try.prog (Builtin.len_ #[9] 3 #[v_s]) fun t18 => 
 Q (.tuple #[t18, .nilIface]) w_3) w_2) w_1) w_1) w
theorem eq37 (v_b v_s : Value) (Q : Value → World → Prop) (w : World) : semF Try.prog 37 [v_b, v_s] Q w = S37 v_b v_s Q w := by kernel_rfl
theorem ref37 {v_b v_s : Value} {Q : Value → World → Prop} {w : World} (h : S37 v_b v_s Q w) : callS Try.prog 37 #[v_b, v_s] Q w :=
  callS_of mix (fun a w => Try.call37 a w) (by kernel_rfl) (by rw [eq37]; exact h)
-- (*strings.Builder).Len
def S38 (v_b : Value) (Q : Value → World → Prop) (w : World) : Prop :=
 pur Try.prog (nilV v_b) fun t4 => 
 pur Try.prog (Instr.fieldAt 85 t4 1) fun t5 => 
 rd Try.prog (Instr.loadAt 26 t5) (fun t6 => 
 pur Try.prog (Builtin.len_ #[26] 3 #[t6]) fun t7 => 
 Q t7 w) w
theorem eq38 (v_b : Value) (Q : Value → World → Prop) (w : World) : semF Try.prog 38 [v_b] Q w = S38 v_b Q w := by kernel_rfl
theorem ref38 {v_b : Value} {Q : Value → World → Prop} {w : World} (h : S38 v_b Q w) : callS Try.prog 38 #[v_b] Q w :=
  callS_of mix (fun a w => Try.call38 a w) (by kernel_rfl) (by rw [eq38]; exact h)
-- (*strings.Builder).String
def S39 (v_b : Value) (Q : Value → World → Prop) (w : World) : Prop :=
 ∃ S : World → Prop, S (World.drew w) ∧ 
 pur Try.prog (nilV v_b) fun t4 => 
 pur Try.prog (Instr.fieldAt 85 t4 1) fun t5 => 
 hld Try.prog S (Instr.loadAt 26 t5) fun _ => 
 act Try.prog (stuck "no such builtin here") (fun _ w_1 => S w_1 ∧ 
 pur Try.prog (nilV v_b) fun t9 => 
 pur Try.prog (Instr.fieldAt 85 t9 1) fun t10 => 
 hld Try.prog S (Instr.loadAt 26 t10) fun t11 => 
 pur Try.prog (Builtin.len_ #[26] 3 #[t11]) fun _ => 
 act Try.prog (stuck "no such builtin here") (fun t13 w_2 => S w_2 ∧ 
 Q t13 w_2) w_1) (World.drew w)
theorem eq39 (v_b : Value) (Q : Value → World → Prop) (w : World) : semF Try.prog 39 [v_b] Q w = S39 v_b Q w := by kernel_rfl
theorem ref39 {v_b : Value} {Q : Value → World → Prop} {w : World} (h : S39 v_b Q w) : callS Try.prog 39 #[v_b] Q w :=
  callS_of mix (fun a w => Try.call39 a w) (by kernel_rfl) (by rw [eq39]; exact h)
-- cmp.Less[int]
def S46 (v_x v_y : Value) (Q : Value → World → Prop) (w : World) : Prop :=
 callS Try.prog 61 #[v_x] (fun t6 w_1 => 
 gd t6 true (fun k w_2 => k v_y w_2) (fun t8_1 w_3 => 
 gd t6 true (fun k_1 w_4 => callS Try.prog 61 #[t8_1] (fun t9 w_5 => k_1 t9 w_5) w_4) (fun t9_1 w_6 => 
 gd t6 true (fun k_2 w_7 => pur Try.prog (Op.unary .not t9_1) fun t10 => k_2 t10 w_7) (fun t10_1 w_8 => 
 pur Try.prog (pickS t6 t10_1 (.bool false)) fun t11 => 
 gd t11 false (fun k_3 w_9 => k_3 v_x w_9) (fun t13_1 w_10 => 
 gd t11 false (fun k_4 w_11 => k_4 v_y w_11) (fun t14_1 w_12 => 
 gd t11 false (fun k_5 w_13 => pur Try.prog (binS .lss 3 false false t13_1 t14_1) fun t15 => k_5 t15 w_13) (fun t15_1 w_14 => 
 pur Try.prog (pickS t11 (.bool true) t15_1) fun t16 => 
 Q t16 w_14) w_12) w_10) w_8) w_6) w_3) w_1) w
theorem eq46 (v_x v_y : Value) (Q : Value → World → Prop) (w : World) : semF Try.prog 46 [v_x, v_y] Q w = S46 v_x v_y Q w := by kernel_rfl
theorem ref46 {v_x v_y : Value} {Q : Value → World → Prop} {w : World} (h : S46 v_x v_y Q w) : callS Try.prog 46 #[v_x, v_y] Q w :=
  callS_of mix (fun a w => Try.call46 a w) (by kernel_rfl) (by rw [eq46]; exact h)
-- math/bits.Mul32
def S51 (v_x v_y : Value) (Q : Value → World → Prop) (w : World) : Prop :=
 pur Try.prog (convert 102 27 v_x) fun t8 => 
 pur Try.prog (convert 102 27 v_y) fun t10 => 
 pur Try.prog (binS .mul 27 false false t8 t10) fun t11 => 
 pur Try.prog (binS .shr 27 false true t11 (.int .u64 32)) fun t13 => 
 pur Try.prog (convert 27 102 t13) fun t14 => 
 pur Try.prog (convert 27 102 t11) fun t16 => 
 Q (.tuple #[t14, t16]) w
theorem eq51 (v_x v_y : Value) (Q : Value → World → Prop) (w : World) : semF Try.prog 51 [v_x, v_y] Q w = S51 v_x v_y Q w := by kernel_rfl
theorem ref51 {v_x v_y : Value} {Q : Value → World → Prop} {w : World} (h : S51 v_x v_y Q w) : callS Try.prog 51 #[v_x, v_y] Q w :=
  callS_of mix (fun a w => Try.call51 a w) (by kernel_rfl) (by rw [eq51]; exact h)
-- math/bits.Mul64
def S52 (v_x v_y : Value) (Q : Value → World → Prop) (w : World) : Prop :=
 pur Try.prog (binS .and 27 false true v_x (.int .u64 4294967295)) fun t15 => 
 pur Try.prog (binS .shr 27 false true v_x (.int .u64 32)) fun t17 => 
 pur Try.prog (binS .and 27 false true v_y (.int .u64 4294967295)) fun t19 => 
 pur Try.prog (binS .shr 27 false true v_y (.int .u64 32)) fun t21 => 
 pur Try.prog (binS .mul 27 false false t15 t19) fun t24 => 
 pur Try.prog (binS .mul 27 false false t17 t19) fun t27 => 
 pur Try.prog (binS .shr 27 false true t24 (.int .u64 32)) fun t29 => 
 pur Try.prog (binS .add 27 false false t27 t29) fun t30 => 
 pur Try.prog (binS .and 27 false true t30 (.int .u64 4294967295)) fun t32 => 
 pur Try.prog (binS .shr 27 false true t30 (.int .u64 32)) fun t34 => 
 pur Try.prog (binS .mul 27 false false t15 t21) fun t38 => 
 pur Try.prog (binS .add 27 false false t32 t38) fun t39 => 
 pur Try.prog (binS .mul 27 false false t17 t21) fun t42 => 
 pur Try.prog (binS .add 27 false false t42 t34) fun t44 => 
 pur Try.prog (binS .shr 27 false true t39 (.int .u64 32)) fun t46 => 
 pur Try.prog (binS .add 27 false false t44 t46) fun t47 => 
 pur Try.prog (binS .mul 27 false false v_x v_y) fun t50 => 
 Q (.tuple #[t47, t50]) w
theorem eq52 (v_x v_y : Value) (Q : Value → World → Prop) (w : World) : semF Try.prog 52 [v_x, v_y] Q w = S52 v_x v_y Q w := by kernel_rfl
theorem ref52 {v_x v_y : Value} {Q : Value → World → Prop} {w : World} (h : S52 v_x v_y Q w) : callS Try.prog 52 #[v_x, v_y] Q w :=
  callS_of mix (fun a w => Try.call52 a w) (by kernel_rfl) (by rw [eq52]; exact h)
-- internal/stringslite.HasPrefix
def S53 (v_s v_prefix : Value) (Q : Value → World → Prop) (w : World) : Prop :=
 pur Try.prog (Builtin.len_ #[9] 3 #[v_s]) fun t6 => 
 pur Try.prog (Builtin.len_ #[9] 3 #[v_prefix]) fun t8 => 
 pur Try.prog (binS .geq 3 false false t6 t8) fun t9 => 
 gd t9 true (fun k w_1 => k v_s w_1) (fun t11_1 w_2 => 
 gd t9 true (fun k_1 w_3 => k_1 v_prefix w_3) (fun t12_1 w_4 => 
 gd t9 true (fun k_2 w_5 => pur Try.prog (Builtin.len_ #[9] 3 #[t12_1]) fun t13 => k_2 t13 w_5) (fun t13_1 w_6 => 
 gd t9 true (fun k_3 w_7 => pur Try.prog (Instr.sliceAt 9 t11_1 none (some t13_1) none) fun t14 => k_3 t14 w_7) (fun t14_1 w_8 => 
 gd t9 true (fun k_4 w_9 => k_4 v_prefix w_9) (fun t15_1 w_10 => 
 gd t9 true (fun k_5 w_11 => pur Try.prog (binS .eql 9 false false t14_1 t15_1) fun t16 => k_5 t16 w_11) (fun t16_1 w_12 => 
 pur Try.prog (pickS t9 t16_1 (.bool false)) fun t17 => 
 Q t17 w_12) w_10) w_8) w_6) w_4) w_2) w
theorem eq53 (v_s v_prefix : Value) (Q : Value → World → Prop) (w : World) : semF Try.prog 53 [v_s, v_prefix] Q w = S53 v_s v_prefix Q w := by kernel_rfl
theorem ref53 {v_s v_prefix : Value} {Q : Value → World → Prop} {w : World} (h : S53 v_s v_prefix Q w) : callS Try.prog 53 #[v_s, v_prefix] Q w :=
  callS_of mix (fun a w => Try.call53 a w) (by kernel_rfl) (by rw [eq53]; exact h)
-- (*strings.Builder).grow
def S55 (v_b v_n : Value) (Q : Value → World → Prop) (w : World) : Prop :=
 ∃ S : World → Prop, S (World.drew w) ∧ 
 pur Try.prog (nilV v_b) fun t6 => 
 pur Try.prog (Instr.fieldAt 85 t6 1) fun t7 => 
 hld Try.prog S (Instr.loadAt 26 t7) fun t8 => 
 pur Try.prog (Builtin.cap_ #[26] 3 #[t8]) fun t9 => 
 pur Try.prog (binS .mul 3 true false (.int .i64 2) t9) fun t10 => 
 pur Try.prog (binS .add 3 false false t10 v_n) fun t12 => 
 callS Try.prog 63 #[t12] (fun t13 w_1 => S w_1 ∧ 
 pur Try.prog (nilV v_b) fun t15 => 
 pur Try.prog (Instr.fieldAt 85 t15 1) fun t16 => 
 hld Try.prog S (Instr.loadAt 26 t16) fun t17 => 
 pur Try.prog (Builtin.len_ #[26] 3 #[t17]) fun t18 => 
 pur Try.prog (Instr.sliceAt 26 t13 none (some t18) none) fun t19 => 
 pur Try.prog (nilV v_b) fun t22 => 
 pur Try.prog (Instr.fieldAt 85 t22 1) fun t23 => 
 rd Try.prog (Instr.loadAt 26 t23) (fun t24 => 
 act Try.prog (Builtin.copy_ #[26, 26] 3 #[t19, t24]) (fun _ w_2 => 
 pur Try.prog (nilV v_b) fun t28 => 
 pur Try.prog (Instr.fieldAt 85 t28 1) fun t29 => 
 act Try.prog (thenU (Instr.storeAt 26 t29 t19)) (fun _ w_3 => 
 Q (.tuple #[]) w_3) w_2) w_1) w_1) (World.drew w)
theorem eq55 (v_b v_n : Value) (Q : Value → World → Prop) (w : World) : semF Try.prog 55 [v_b, v_n] Q w = S55 v_b v_n Q w := by kernel_rfl
theorem ref55 {v_b v_n : Value} {Q : Value → World → Prop} {w : World} (h : S55 v_b v_n Q w) : callS Try.prog 55 #[v_b, v_n] Q w :=
  callS_of mix (fun a w => Try.call55 a w) (by kernel_rfl) (by rw [eq55]; exact h)
-- cmp.isNaN[int]
def S61 (v_x : Value) (Q : Value → World → Prop) (w : World) : Prop :=
 pur Try.prog (binS .neq 3 false false v_x v_x) fun t5 => 
 Q t5 w
theorem eq61 (v_x : Value) (Q : Value → World → Prop) (w : World) : semF Try.prog 61 [v_x] Q w = S61 v_x Q w := by kernel_rfl
theorem ref61 {v_x : Value} {Q : Value → World → Prop} {w : World} (h : S61 v_x Q w) : callS Try.prog 61 #[v_x] Q w :=
  callS_of mix (fun a w => Try.call61 a w) (by kernel_rfl) (by rw [eq61]; exact h)
end Go.Proofs.Ytmmnifbponhhfaa
