/- The readings of the functions' code, printed by a program, each held equal to the one that is computed: for all arguments, all worlds.
   Conditions: none. -/
import Derived.Test.YtdnbegjamoeahaaGreatLShC
import Derived.Test.YtdnbegjamoeahaaGreatProg
import Derived.KernelRfl
set_option linter.unusedSimpArgs false
set_option linter.unusedVariables false
namespace Go.Proofs.YtdnbegjamoeahaaGreatL
open Go.Sh
set_option maxRecDepth 100000
theorem mix : Tryz.prog.follows .mixedOrders = true := by kernel_rfl


-- commons/commonslaw5.LruPlays
def S3 (v_room v_zero v_l : Value) (Q : Value → World → Prop) (w : World) : Prop :=
 pur Tryz.prog (Builtin.len_ #[22] 3 #[v_l]) fun t31 => 
 pur Tryz.prog (binS .gtr 3 false true t31 (.int .i64 120)) fun t32 => 
 condS t32
  (callS Tryz.prog 12 #[] (fun t33 w_1 => 
  Q t33 w_1) w)
  (callS Tryz.prog 13 #[v_room] (fun t35 w_2 => 
 callS Tryz.prog 14 #[v_room] (fun t37 w_3 => 
 pur Tryz.prog (Instr.build 30 #[(1, t37)]) fun t38 => 
 act Tryz.prog (Instr.box 30 t38) (fun t39 w_4 => 
 jn 2 (fun J => 
  condS v_zero
   (pur Tryz.prog (Instr.build 36 #[]) fun t41 => 
   act Tryz.prog (Instr.box 36 t41) (fun t42 w_5 => 
   pur Tryz.prog (Instr.build 30 #[]) fun t43 => 
   act Tryz.prog (Instr.box 30 t43) (fun t44 w_6 => 
   J t42 t44 w_6) w_5) w_4)
   (J t35 t39 w_4))
 (fun v_c v_r w_7 => ∀ _j : Fr, 
  rd Tryz.prog (binS .eql 24 false true v_c (.pointer none)) (fun t46 => 
  condS t46
   (Q (.bool false) w_7)
   (pur Tryz.prog (Instr.build 54 #[]) fun t47 => 
  act Tryz.prog (Instr.box 54 t47) (fun t48 w_8 => 
  lp 1 (fun J_1 => fun v_i w_9 => ∀ _j : Fr, 
   pur Tryz.prog (Builtin.len_ #[22] 3 #[v_l]) fun t51 => 
   pur Tryz.prog (binS .lss 3 false false v_i t51) fun t52 => 
   condS t52
    (pur Tryz.prog (Instr.indexAt 22 v_l v_i) fun t57 => 
   rd Tryz.prog (Instr.loadAt 56 t57) (fun t58 => 
   act Tryz.prog (Instr.alloc 56 true (.tuple #[])) (fun t11 w_10 => 
   act Tryz.prog (thenU (Instr.storeAt 56 t11 t58)) (fun _ w_11 => 
   pur Tryz.prog (Instr.fieldAt 56 t11 1) fun t60 => 
   rd Tryz.prog (Instr.loadAt 3 t60) (fun t61 => 
   callS Tryz.prog 15 #[v_r, t61] (fun t62 w_12 => 
   jn 1 (fun J_2 => 
    pur Tryz.prog (Instr.fieldAt 56 t11 0) fun t63 => 
    rd Tryz.prog (Instr.loadAt 3 t63) (fun t64 => 
    pur Tryz.prog (binS .eql 3 false true t64 (.int .i64 1)) fun t66 => 
    condS t66
     (pur Tryz.prog (Instr.fieldAt 56 t11 1) fun t69 => 
     rd Tryz.prog (Instr.loadAt 3 t69) (fun t70 => 
     pur Tryz.prog (Instr.fieldAt 56 t11 2) fun t71 => 
     rd Tryz.prog (Instr.loadAt 3 t71) (fun t72 => 
     callS Tryz.prog 16 #[v_c, t70, t72] (fun t73 w_13 => 
     pur Tryz.prog (Instr.extract t73 0) fun t74 => 
     pur Tryz.prog (Instr.extract t73 1) fun t75 => 
     pur Tryz.prog (Instr.extract t73 2) fun t76 => 
     pur Tryz.prog (Instr.extract t73 3) fun t77 => 
     pur Tryz.prog (Instr.fieldAt 56 t11 1) fun t80 => 
     rd Tryz.prog (Instr.loadAt 3 t80) (fun t81 => 
     pur Tryz.prog (Instr.fieldAt 56 t11 2) fun t82 => 
     rd Tryz.prog (Instr.loadAt 3 t82) (fun t83 => 
     callS Tryz.prog 17 #[v_r, t81, t83] (fun t84 w_14 => 
     pur Tryz.prog (Instr.extract t84 0) fun t85 => 
     pur Tryz.prog (Instr.extract t84 1) fun t86 => 
     pur Tryz.prog (Instr.extract t84 2) fun t87 => 
     pur Tryz.prog (Instr.extract t84 3) fun t88 => 
     pur Tryz.prog (binS .eql 3 false false t74 t85) fun t91 => 
     gd t91 true (fun k w_15 => k t75 w_15) (fun t93_1 w_16 => 
     gd t91 true (fun k_1 w_17 => k_1 t86 w_17) (fun t94_1 w_18 => 
     gd t91 true (fun k_2 w_19 => pur Tryz.prog (binS .eql 3 false false t93_1 t94_1) fun t95 => k_2 t95 w_19) (fun t95_1 w_20 => 
     pur Tryz.prog (pickS t91 t95_1 (.bool false)) fun t96 => 
     gd t96 true (fun k_3 w_21 => k_3 t76 w_21) (fun t98_1 w_22 => 
     gd t96 true (fun k_4 w_23 => k_4 t87 w_23) (fun t99_1 w_24 => 
     gd t96 true (fun k_5 w_25 => pur Tryz.prog (binS .eql 4 false false t98_1 t99_1) fun t100 => k_5 t100 w_25) (fun t100_1 w_26 => 
     pur Tryz.prog (pickS t96 t100_1 (.bool false)) fun t101 => 
     gd t101 true (fun k_6 w_27 => k_6 t77 w_27) (fun t103_1 w_28 => 
     gd t101 true (fun k_7 w_29 => k_7 t88 w_29) (fun t104_1 w_30 => 
     gd t101 true (fun k_8 w_31 => pur Tryz.prog (binS .eql 4 false false t103_1 t104_1) fun t105 => k_8 t105 w_31) (fun t105_1 w_32 => 
     pur Tryz.prog (pickS t101 t105_1 (.bool false)) fun t106 => 
     J_2 t106 w_32) w_30) w_28) w_26) w_24) w_22) w_20) w_18) w_16) w_14) w_13) w_13) w_13) w_12) w_12) w_12)
     (pur Tryz.prog (binS .eql 3 false true t64 (.int .i64 2)) fun t108 => 
     condS t108
      (pur Tryz.prog (Instr.fieldAt 56 t11 1) fun t111 => 
      rd Tryz.prog (Instr.loadAt 3 t111) (fun t112 => 
      callS Tryz.prog 18 #[v_c, t112] (fun t113 w_33 => 
      pur Tryz.prog (Instr.extract t113 0) fun t114 => 
      pur Tryz.prog (Instr.extract t113 1) fun t115 => 
      pur Tryz.prog (binS .geq 3 false true t62 (.int .i64 0)) fun t118 => 
      pur Tryz.prog (binS .eql 4 false false t115 t118) fun t119 => 
      gd t119 true (fun k_9 w_34 => k_9 t115 w_34) (fun t121_1 w_35 => 
      gd t119 true (fun k_10 w_36 => k_10 t121_1 w_36) (fun t122_1 w_37 => 
      gd t122_1 false (fun k_11 w_38 => k_11 t114 w_38) (fun t123_1 w_39 => 
      gd t122_1 false (fun k_12 w_40 => pur Tryz.prog (binS .eql 3 false true t123_1 (.int .i64 0)) fun t124 => k_12 t124 w_40) (fun t124_1 w_41 => 
      gd t119 true (fun k_13 w_42 => pur Tryz.prog (pickS t122_1 (.bool true) t124_1) fun t125 => k_13 t125 w_42) (fun t125_1 w_43 => 
      pur Tryz.prog (pickS t119 t125_1 (.bool false)) fun t126 => 
      pur Tryz.prog (binS .geq 3 false true t62 (.int .i64 0)) fun t128 => 
      condS t128
       (gd t126 true (fun k_14 w_44 => k_14 t114 w_44) (fun t131_1 w_45 => 
       gd t126 true (fun k_15 w_46 => k_15 v_r w_46) (fun t132_1 w_47 => 
       gd t126 true (fun k_16 w_48 => pur Tryz.prog (nilV t132_1) fun t133 => k_16 t133 w_48) (fun t133_1 w_49 => 
       gd t126 true (fun k_17 w_50 => pur Tryz.prog (Instr.fieldAt 30 t133_1 0) fun t134 => k_17 t134 w_50) (fun t134_1 w_51 => 
       gd t126 true (fun k_18 w_52 => rd Tryz.prog (Instr.loadAt 28 t134_1) (fun t135 => k_18 t135 w_52) w_52) (fun t135_1 w_53 => 
       gd t126 true (fun k_19 w_54 => k_19 t62 w_54) (fun t136_1 w_55 => 
       gd t126 true (fun k_20 w_56 => pur Tryz.prog (Instr.indexAt 28 t135_1 t136_1) fun t137 => k_20 t137 w_56) (fun t137_1 w_57 => 
       gd t126 true (fun k_21 w_58 => pur Tryz.prog (Instr.fieldAt 62 t137_1 1) fun t138 => k_21 t138 w_58) (fun t138_1 w_59 => 
       gd t126 true (fun k_22 w_60 => rd Tryz.prog (Instr.loadAt 3 t138_1) (fun t139 => k_22 t139 w_60) w_60) (fun t139_1 w_61 => 
       gd t126 true (fun k_23 w_62 => pur Tryz.prog (binS .eql 3 false false t131_1 t139_1) fun t140 => k_23 t140 w_62) (fun t140_1 w_63 => 
       pur Tryz.prog (pickS t126 t140_1 (.bool false)) fun t141 => 
       callS Tryz.prog 19 #[v_r, t62] (fun _ w_64 => 
       J_2 t141 w_64) w_63) w_61) w_59) w_57) w_55) w_53) w_51) w_49) w_47) w_45) w_43)
       (J_2 t126 w_43)) w_41) w_39) w_37) w_35) w_33) w_12) w_12)
      (pur Tryz.prog (binS .eql 3 false true t64 (.int .i64 4)) fun t146 => 
      condS t146
       (pur Tryz.prog (Instr.fieldAt 56 t11 1) fun t148 => 
       rd Tryz.prog (Instr.loadAt 3 t148) (fun t149 => 
       callS Tryz.prog 20 #[v_c, t149] (fun t150 w_65 => 
       pur Tryz.prog (binS .geq 3 false true t62 (.int .i64 0)) fun t152 => 
       pur Tryz.prog (binS .eql 4 false false t150 t152) fun t153 => 
       pur Tryz.prog (binS .geq 3 false true t62 (.int .i64 0)) fun t155 => 
       condS t155
        (pur Tryz.prog (nilV v_r) fun t158 => 
        pur Tryz.prog (Instr.fieldAt 30 t158 0) fun t159 => 
        rd Tryz.prog (Instr.loadAt 28 t159) (fun t160 => 
        act Tryz.prog (Builtin.append_ #[28, 28] 28 #[(.slice none 0 0), t160]) (fun t161 w_66 => 
        pur Tryz.prog (nilV v_r) fun t162 => 
        pur Tryz.prog (Instr.fieldAt 30 t162 0) fun t163 => 
        act Tryz.prog (thenU (Instr.storeAt 28 t163 t161)) (fun _ w_67 => 
        pur Tryz.prog (nilV v_r) fun t165 => 
        pur Tryz.prog (Instr.fieldAt 30 t165 0) fun t166 => 
        rd Tryz.prog (Instr.loadAt 28 t166) (fun t167 => 
        pur Tryz.prog (Instr.indexAt 28 t167 t62) fun t169 => 
        pur Tryz.prog (Instr.fieldAt 62 t169 2) fun t170 => 
        rd Tryz.prog (Instr.loadAt 3 t170) (fun t171 => 
        pur Tryz.prog (binS .add 3 false true t171 (.int .i64 1)) fun t172 => 
        pur Tryz.prog (Instr.indexAt 28 t167 t62) fun t173 => 
        pur Tryz.prog (Instr.fieldAt 62 t173 2) fun t174 => 
        act Tryz.prog (thenU (Instr.storeAt 3 t174 t172)) (fun _ w_68 => 
        J_2 t153 w_68) w_67) w_67) w_67) w_66) w_65) w_65)
        (J_2 t153 w_65)) w_12) w_12)
       (pur Tryz.prog (binS .eql 3 false true t64 (.int .i64 5)) fun t176 => 
       condS t176
        (pur Tryz.prog (binS .geq 3 false true t62 (.int .i64 0)) fun t178 => 
        gd t178 true (fun k_24 w_69 => k_24 v_r w_69) (fun t180_1 w_70 => 
        gd t178 true (fun k_25 w_71 => pur Tryz.prog (nilV t180_1) fun t181 => k_25 t181 w_71) (fun t181_1 w_72 => 
        gd t178 true (fun k_26 w_73 => pur Tryz.prog (Instr.fieldAt 30 t181_1 0) fun t182 => k_26 t182 w_73) (fun t182_1 w_74 => 
        gd t178 true (fun k_27 w_75 => rd Tryz.prog (Instr.loadAt 28 t182_1) (fun t183 => k_27 t183 w_75) w_75) (fun t183_1 w_76 => 
        gd t178 true (fun k_28 w_77 => k_28 t62 w_77) (fun t184_1 w_78 => 
        gd t178 true (fun k_29 w_79 => pur Tryz.prog (Instr.indexAt 28 t183_1 t184_1) fun t185 => k_29 t185 w_79) (fun t185_1 w_80 => 
        gd t178 true (fun k_30 w_81 => pur Tryz.prog (Instr.fieldAt 62 t185_1 2) fun t186 => k_30 t186 w_81) (fun t186_1 w_82 => 
        gd t178 true (fun k_31 w_83 => rd Tryz.prog (Instr.loadAt 3 t186_1) (fun t187 => k_31 t187 w_83) w_83) (fun t187_1 w_84 => 
        gd t178 true (fun k_32 w_85 => pur Tryz.prog (binS .gtr 3 false true t187_1 (.int .i64 0)) fun t188 => k_32 t188 w_85) (fun t188_1 w_86 => 
        pur Tryz.prog (pickS t178 t188_1 (.bool false)) fun t189 => 
        pur Tryz.prog (Instr.fieldAt 56 t11 1) fun t191 => 
        rd Tryz.prog (Instr.loadAt 3 t191) (fun t192 => 
        callS Tryz.prog 21 #[v_c, t192] (fun t193 w_87 => 
        pur Tryz.prog (binS .eql 4 false false t193 t189) fun t195 => 
        condS t189
         (pur Tryz.prog (nilV v_r) fun t199 => 
         pur Tryz.prog (Instr.fieldAt 30 t199 0) fun t200 => 
         rd Tryz.prog (Instr.loadAt 28 t200) (fun t201 => 
         act Tryz.prog (Builtin.append_ #[28, 28] 28 #[(.slice none 0 0), t201]) (fun t202 w_88 => 
         pur Tryz.prog (nilV v_r) fun t203 => 
         pur Tryz.prog (Instr.fieldAt 30 t203 0) fun t204 => 
         act Tryz.prog (thenU (Instr.storeAt 28 t204 t202)) (fun _ w_89 => 
         pur Tryz.prog (nilV v_r) fun t206 => 
         pur Tryz.prog (Instr.fieldAt 30 t206 0) fun t207 => 
         rd Tryz.prog (Instr.loadAt 28 t207) (fun t208 => 
         pur Tryz.prog (Instr.indexAt 28 t208 t62) fun t210 => 
         pur Tryz.prog (Instr.fieldAt 62 t210 2) fun t211 => 
         rd Tryz.prog (Instr.loadAt 3 t211) (fun t212 => 
         pur Tryz.prog (binS .sub 3 false true t212 (.int .i64 1)) fun t213 => 
         pur Tryz.prog (Instr.indexAt 28 t208 t62) fun t214 => 
         pur Tryz.prog (Instr.fieldAt 62 t214 2) fun t215 => 
         act Tryz.prog (thenU (Instr.storeAt 3 t215 t213)) (fun _ w_90 => 
         J_2 t195 w_90) w_89) w_89) w_89) w_88) w_87) w_87)
         (J_2 t195 w_87)) w_86) w_86) w_84) w_82) w_80) w_78) w_76) w_74) w_72) w_70) w_12)
        (pur Tryz.prog (binS .eql 3 false true t64 (.int .i64 6)) fun t217 => 
        condS t217
         (pur Tryz.prog (Instr.fieldAt 56 t11 1) fun t219 => 
         rd Tryz.prog (Instr.loadAt 3 t219) (fun t220 => 
         callS Tryz.prog 22 #[v_c, t220] (fun t221 w_91 => 
         pur Tryz.prog (binS .geq 3 false true t62 (.int .i64 0)) fun t223 => 
         pur Tryz.prog (binS .eql 4 false false t221 t223) fun t224 => 
         pur Tryz.prog (binS .geq 3 false true t62 (.int .i64 0)) fun t226 => 
         condS t226
          (jn 0 (fun J_3 => 
           pur Tryz.prog (nilV v_r) fun t229 => 
           pur Tryz.prog (Instr.fieldAt 30 t229 0) fun t230 => 
           rd Tryz.prog (Instr.loadAt 28 t230) (fun t231 => 
           pur Tryz.prog (Instr.sliceAt 28 t231 none (some t62) none) fun t233 => 
           pur Tryz.prog (nilV v_r) fun t236 => 
           pur Tryz.prog (Instr.fieldAt 30 t236 0) fun t237 => 
           pur Tryz.prog (binS .add 3 false true t62 (.int .i64 1)) fun t240 => 
           (act Tryz.prog (Builtin.append_ #[28, 28] 28 #[(.slice none 0 0), t233]) (fun t234 w_92 => 
           rd Tryz.prog (Instr.loadAt 28 t237) (fun t238 => 
           pur Tryz.prog (Instr.sliceAt 28 t238 (some t240) none none) fun t241 => 
           act Tryz.prog (Builtin.append_ #[28, 28] 28 #[t234, t241]) (fun t242 w_93 => 
           pur Tryz.prog (nilV v_r) fun t243 => 
           pur Tryz.prog (Instr.fieldAt 30 t243 0) fun t244 => 
           act Tryz.prog (thenU (Instr.storeAt 28 t244 t242)) (fun _ w_94 => 
           J_3  w_94) w_93) w_92) w_92) (World.drew w_91)
           ) ∧ (rd Tryz.prog (Instr.loadAt 28 t237) (fun t238_1 => 
           act Tryz.prog (Builtin.append_ #[28, 28] 28 #[(.slice none 0 0), t233]) (fun t234_1 w_95 => 
           pur Tryz.prog (Instr.sliceAt 28 t238_1 (some t240) none none) fun t241_1 => 
           act Tryz.prog (Builtin.append_ #[28, 28] 28 #[t234_1, t241_1]) (fun t242_1 w_96 => 
           pur Tryz.prog (nilV v_r) fun t243_1 => 
           pur Tryz.prog (Instr.fieldAt 30 t243_1 0) fun t244_1 => 
           act Tryz.prog (thenU (Instr.storeAt 28 t244_1 t242_1)) (fun _ w_97 => 
           J_3  w_97) w_96) w_95) (World.drew w_91)) (World.drew w_91))) (World.drew w_91))
          (fun  w_98 => ∀ _j : Fr, 
           J_2 t224 w_98))
          (J_2 t224 w_91)) w_12) w_12)
         (J_2 (.bool true) w_12)))))) w_12)
   (fun v_good w_99 => ∀ _j : Fr, 
    pur Tryz.prog (Instr.fieldAt 56 t11 1) fun t246 => 
    rd Tryz.prog (Instr.loadAt 3 t246) (fun t247 => 
    callS Tryz.prog 15 #[v_r, t247] (fun t248 w_100 => 
    pur Tryz.prog (Instr.fieldAt 56 t11 1) fun t251 => 
    rd Tryz.prog (Instr.loadAt 3 t251) (fun t252 => 
    callS Tryz.prog 23 #[v_c, t252] (fun t253 w_101 => 
    pur Tryz.prog (Instr.extract t253 0) fun t254 => 
    pur Tryz.prog (Instr.extract t253 1) fun t255 => 
    ∃ S : World → Prop, S (World.drew w_101) ∧ 
    pur Tryz.prog (Op.unary .not v_good) fun t257 => 
    gd t257 false (fun k_33 w_102 => k_33 t255 w_102) (fun t259_1 w_103 => 
    gd t257 false (fun k_34 w_104 => k_34 t248 w_104) (fun t260_1 w_105 => 
    gd t257 false (fun k_35 w_106 => pur Tryz.prog (binS .geq 3 false true t260_1 (.int .i64 0)) fun t261 => k_35 t261 w_106) (fun t261_1 w_107 => 
    gd t257 false (fun k_36 w_108 => pur Tryz.prog (binS .neq 4 false false t259_1 t261_1) fun t262 => k_36 t262 w_108) (fun t262_1 w_109 => 
    pur Tryz.prog (pickS t257 (.bool true) t262_1) fun t263 => 
    gd t263 false (fun k_37 w_110 => k_37 t255 w_110) (fun t265_1 w_111 => 
    gd t263 false (fun k_38 w_112 => k_38 t265_1 w_112) (fun t266_1 w_113 => 
    gd t266_1 true (fun k_39 w_114 => k_39 t254 w_114) (fun t267_1 w_115 => 
    gd t266_1 true (fun k_40 w_116 => k_40 v_r w_116) (fun t268_1 w_117 => 
    gd t266_1 true (fun k_41 w_118 => pur Tryz.prog (nilV t268_1) fun t269 => k_41 t269 w_118) (fun t269_1 w_119 => 
    gd t266_1 true (fun k_42 w_120 => pur Tryz.prog (Instr.fieldAt 30 t269_1 0) fun t270 => k_42 t270 w_120) (fun t270_1 w_121 => 
    gd t266_1 true (fun k_43 w_122 => hld Tryz.prog S (Instr.loadAt 28 t270_1) fun t271 => k_43 t271 w_122) (fun t271_1 w_123 => 
    gd t266_1 true (fun k_44 w_124 => k_44 t248 w_124) (fun t272_1 w_125 => 
    gd t266_1 true (fun k_45 w_126 => pur Tryz.prog (Instr.indexAt 28 t271_1 t272_1) fun t273 => k_45 t273 w_126) (fun t273_1 w_127 => 
    gd t266_1 true (fun k_46 w_128 => pur Tryz.prog (Instr.fieldAt 62 t273_1 1) fun t274 => k_46 t274 w_128) (fun t274_1 w_129 => 
    gd t266_1 true (fun k_47 w_130 => hld Tryz.prog S (Instr.loadAt 3 t274_1) fun t275 => k_47 t275 w_130) (fun t275_1 w_131 => 
    gd t266_1 true (fun k_48 w_132 => pur Tryz.prog (binS .neq 3 false false t267_1 t275_1) fun t276 => k_48 t276 w_132) (fun t276_1 w_133 => 
    gd t266_1 true (fun k_49 w_134 => k_49 t276_1 w_134) (fun t277_1 w_135 => 
    gd t277_1 false (fun k_50 w_136 => k_50 v_c w_136) (fun t278_1 w_137 => 
    gd t277_1 false (fun k_51 w_138 => pur Tryz.prog (Instr.fieldAt 56 t11 1) fun t279 => k_51 t279 w_138) (fun t279_1 w_139 => 
    gd t277_1 false (fun k_52 w_140 => hld Tryz.prog S (Instr.loadAt 3 t279_1) fun t280 => k_52 t280 w_140) (fun t280_1 w_141 => 
    gd t277_1 false (fun k_53 w_142 => callS Tryz.prog 24 #[t278_1, t280_1] (fun t281 w_143 => S w_143 ∧ k_53 t281 w_143) w_142) (fun t281_1 w_144 => 
    gd t277_1 false (fun k_54 w_145 => k_54 v_r w_145) (fun t282_1 w_146 => 
    gd t277_1 false (fun k_55 w_147 => pur Tryz.prog (nilV t282_1) fun t283 => k_55 t283 w_147) (fun t283_1 w_148 => 
    gd t277_1 false (fun k_56 w_149 => pur Tryz.prog (Instr.fieldAt 30 t283_1 0) fun t284 => k_56 t284 w_149) (fun t284_1 w_150 => 
    gd t277_1 false (fun k_57 w_151 => hld Tryz.prog S (Instr.loadAt 28 t284_1) fun t285 => k_57 t285 w_151) (fun t285_1 w_152 => 
    gd t277_1 false (fun k_58 w_153 => k_58 t248 w_153) (fun t286_1 w_154 => 
    gd t277_1 false (fun k_59 w_155 => pur Tryz.prog (Instr.indexAt 28 t285_1 t286_1) fun t287 => k_59 t287 w_155) (fun t287_1 w_156 => 
    gd t277_1 false (fun k_60 w_157 => pur Tryz.prog (Instr.fieldAt 62 t287_1 2) fun t288 => k_60 t288 w_157) (fun t288_1 w_158 => 
    gd t277_1 false (fun k_61 w_159 => hld Tryz.prog S (Instr.loadAt 3 t288_1) fun t289 => k_61 t289 w_159) (fun t289_1 w_160 => 
    gd t277_1 false (fun k_62 w_161 => pur Tryz.prog (binS .neq 3 false false t281_1 t289_1) fun t290 => k_62 t290 w_161) (fun t290_1 w_162 => 
    gd t266_1 true (fun k_63 w_163 => pur Tryz.prog (pickS t277_1 (.bool true) t290_1) fun t291 => k_63 t291 w_163) (fun t291_1 w_164 => 
    gd t263 false (fun k_64 w_165 => pur Tryz.prog (pickS t266_1 t291_1 (.bool false)) fun t292 => k_64 t292 w_165) (fun t292_1 w_166 => 
    pur Tryz.prog (pickS t263 (.bool true) t292_1) fun t293 => 
    gd t293 false (fun k_65 w_167 => k_65 t255 w_167) (fun t295_1 w_168 => 
    gd t293 false (fun k_66 w_169 => pur Tryz.prog (Op.unary .not t295_1) fun t296 => k_66 t296 w_169) (fun t296_1 w_170 => 
    gd t293 false (fun k_67 w_171 => k_67 t296_1 w_171) (fun t297_1 w_172 => 
    gd t297_1 true (fun k_68 w_173 => k_68 t254 w_173) (fun t298_1 w_174 => 
    gd t297_1 true (fun k_69 w_175 => pur Tryz.prog (binS .neq 3 false true t298_1 (.int .i64 0)) fun t299 => k_69 t299 w_175) (fun t299_1 w_176 => 
    gd t297_1 true (fun k_70 w_177 => k_70 t299_1 w_177) (fun t300_1 w_178 => 
    gd t300_1 false (fun k_71 w_179 => k_71 v_c w_179) (fun t301_1 w_180 => 
    gd t300_1 false (fun k_72 w_181 => pur Tryz.prog (Instr.fieldAt 56 t11 1) fun t302 => k_72 t302 w_181) (fun t302_1 w_182 => 
    gd t300_1 false (fun k_73 w_183 => hld Tryz.prog S (Instr.loadAt 3 t302_1) fun t303 => k_73 t303 w_183) (fun t303_1 w_184 => 
    gd t300_1 false (fun k_74 w_185 => callS Tryz.prog 24 #[t301_1, t303_1] (fun t304 w_186 => S w_186 ∧ k_74 t304 w_186) w_185) (fun t304_1 w_187 => 
    gd t300_1 false (fun k_75 w_188 => pur Tryz.prog (binS .neq 3 false true t304_1 (.int .i64 0)) fun t305 => k_75 t305 w_188) (fun t305_1 w_189 => 
    gd t297_1 true (fun k_76 w_190 => pur Tryz.prog (pickS t300_1 (.bool true) t305_1) fun t306 => k_76 t306 w_190) (fun t306_1 w_191 => 
    gd t293 false (fun k_77 w_192 => pur Tryz.prog (pickS t297_1 t306_1 (.bool false)) fun t307 => k_77 t307 w_192) (fun t307_1 w_193 => 
    pur Tryz.prog (pickS t293 (.bool true) t307_1) fun t308 => 
    condS t308
     (Q (.bool false) w_193)
     (lp 2 (fun J_4 => fun v_x v_j w_194 => ∀ _j : Fr, 
     pur Tryz.prog (nilV v_r) fun t311 => 
     pur Tryz.prog (Instr.fieldAt 30 t311 0) fun t312 => 
     rd Tryz.prog (Instr.loadAt 28 t312) (fun t313 => 
     pur Tryz.prog (Builtin.len_ #[28] 3 #[t313]) fun t314 => 
     pur Tryz.prog (binS .lss 3 false false v_j t314) fun t315 => 
     condS t315
      (pur Tryz.prog (nilV v_r) fun t320 => 
     pur Tryz.prog (Instr.fieldAt 30 t320 0) fun t321 => 
     rd Tryz.prog (Instr.loadAt 28 t321) (fun t322 => 
     pur Tryz.prog (Instr.indexAt 28 t322 v_j) fun t324 => 
     pur Tryz.prog (Instr.fieldAt 62 t324 0) fun t325 => 
     rd Tryz.prog (Instr.loadAt 3 t325) (fun t326 => 
     act Tryz.prog (Instr.buildSlice 65 1 #[(0, t326)]) (fun t327 w_195 => 
     act Tryz.prog (Builtin.append_ #[65, 65] 65 #[v_x, t327]) (fun t328 w_196 => 
     pur Tryz.prog (binS .add 3 false true v_j (.int .i64 1)) fun t317 => 
     J_4 t328 t317 w_196) w_195) w_194) w_194) w_194)
      (callS Tryz.prog 25 #[v_c] (fun t330 w_197 => 
    callS Tryz.prog 26 #[t48, t330] (fun _ w_198 => 
    ∃ S_1 : World → Prop, S_1 (World.drew w_198) ∧ 
    callS Tryz.prog 27 #[t330, v_x] (fun t336 w_199 => S_1 w_199 ∧ 
    pur Tryz.prog (Op.unary .not t336) fun t337 => 
    gd t337 false (fun k_78 w_200 => k_78 v_c w_200) (fun t339_1 w_201 => 
    gd t337 false (fun k_79 w_202 => callS Tryz.prog 28 #[t339_1] (fun t340 w_203 => S_1 w_203 ∧ k_79 t340 w_203) w_202) (fun t340_1 w_204 => 
    gd t337 false (fun k_80 w_205 => k_80 v_x w_205) (fun t341_1 w_206 => 
    gd t337 false (fun k_81 w_207 => pur Tryz.prog (Builtin.len_ #[65] 3 #[t341_1]) fun t342 => k_81 t342 w_207) (fun t342_1 w_208 => 
    gd t337 false (fun k_82 w_209 => pur Tryz.prog (binS .neq 3 false false t340_1 t342_1) fun t343 => k_82 t343 w_209) (fun t343_1 w_210 => 
    pur Tryz.prog (pickS t337 (.bool true) t343_1) fun t344 => 
    gd t344 false (fun k_83 w_211 => k_83 v_c w_211) (fun t346_1 w_212 => 
    gd t344 false (fun k_84 w_213 => callS Tryz.prog 29 #[t346_1] (fun t347 w_214 => S_1 w_214 ∧ k_84 t347 w_214) w_213) (fun t347_1 w_215 => 
    gd t344 false (fun k_85 w_216 => k_85 v_r w_216) (fun t348_1 w_217 => 
    gd t344 false (fun k_86 w_218 => pur Tryz.prog (nilV t348_1) fun t349 => k_86 t349 w_218) (fun t349_1 w_219 => 
    gd t344 false (fun k_87 w_220 => pur Tryz.prog (Instr.fieldAt 30 t349_1 1) fun t350 => k_87 t350 w_220) (fun t350_1 w_221 => 
    gd t344 false (fun k_88 w_222 => hld Tryz.prog S_1 (Instr.loadAt 3 t350_1) fun t351 => k_88 t351 w_222) (fun t351_1 w_223 => 
    gd t344 false (fun k_89 w_224 => pur Tryz.prog (binS .neq 3 false false t347_1 t351_1) fun t352 => k_89 t352 w_224) (fun t352_1 w_225 => 
    pur Tryz.prog (pickS t344 (.bool true) t352_1) fun t353 => 
    condS t353
     (Q (.bool false) w_225)
     (pur Tryz.prog (binS .add 3 false true v_i (.int .i64 1)) fun t54 => 
   J_1 t54 w_225)) w_223) w_221) w_219) w_217) w_215) w_212) w_210) w_208) w_206) w_204) w_201) w_199) (World.drew w_198)) w_197) w_194)) w_194) [(.slice none 0 0), (.int .i64 0)] w_193)) w_191) w_189) w_187) w_184) w_182) w_180) w_178) w_176) w_174) w_172) w_170) w_168) w_166) w_164) w_162) w_160) w_158) w_156) w_154) w_152) w_150) w_148) w_146) w_144) w_141) w_139) w_137) w_135) w_133) w_131) w_129) w_127) w_125) w_123) w_121) w_119) w_117) w_115) w_113) w_111) w_109) w_107) w_105) w_103) (World.drew w_101)) w_100) w_100) w_99) w_99)) w_11) w_11) w_10) w_9) w_9)
    (callS Tryz.prog 12 #[] (fun t354 w_226 => 
  gd t354 true (fun k_90 w_227 => k_90 t48 w_227) (fun t356_1 w_228 => 
  gd t354 true (fun k_91 w_229 => callS Tryz.prog 30 #[t356_1] (fun t357 w_230 => k_91 t357 w_230) w_229) (fun t357_1 w_231 => 
  pur Tryz.prog (pickS t354 t357_1 (.bool false)) fun t358 => 
  Q t358 w_231) w_228) w_226) w_9)) [(.int .i64 0)] w_8) w_7)) w_7)) w_3) w_2) w)
theorem eq3 (v_room v_zero v_l : Value) (Q : Value → World → Prop) (w : World) : semF Tryz.prog 3 [v_room, v_zero, v_l] Q w = S3 v_room v_zero v_l Q w := by kernel_rfl
theorem ref3 {v_room v_zero v_l : Value} {Q : Value → World → Prop} {w : World} (h : S3 v_room v_zero v_l Q w) : callS Tryz.prog 3 #[v_room, v_zero, v_l] Q w :=
  callS_of mix (fun a w => Tryz.call3 a w) (by kernel_rfl) (by rw [eq3]; exact h)
-- commons/commonslaw5.alive
def S12 (Q : Value → World → Prop) (w : World) : Prop :=
 callS Tryz.prog 13 #[(.int .i64 2)] (fun t8 w_1 => 
 rd Tryz.prog (binS .eql 24 false true t8 (.pointer none)) (fun t10 => 
 condS t10
  (Q (.bool false) w_1)
  (callS Tryz.prog 16 #[t8, (.int .i64 1), (.int .i64 10)] (fun _ w_2 => 
 callS Tryz.prog 16 #[t8, (.int .i64 2), (.int .i64 20)] (fun _ w_3 => 
 callS Tryz.prog 18 #[t8, (.int .i64 1)] (fun t17 w_4 => 
 pur Tryz.prog (Instr.extract t17 0) fun t18 => 
 pur Tryz.prog (Instr.extract t17 1) fun t19 => 
 callS Tryz.prog 16 #[t8, (.int .i64 3), (.int .i64 30)] (fun t22 w_5 => 
 pur Tryz.prog (Instr.extract t22 0) fun t23 => 
 pur Tryz.prog (Instr.extract t22 1) fun t24 => 
 pur Tryz.prog (Instr.extract t22 2) fun t25 => 
 pur Tryz.prog (Instr.extract t22 3) fun t26 => 
 gd t19 true (fun k w_6 => k t18 w_6) (fun t29_1 w_7 => 
 gd t19 true (fun k_1 w_8 => pur Tryz.prog (binS .eql 3 false true t29_1 (.int .i64 10)) fun t30 => k_1 t30 w_8) (fun t30_1 w_9 => 
 pur Tryz.prog (pickS t19 t30_1 (.bool false)) fun t31 => 
 gd t31 true (fun k_2 w_10 => k_2 t23 w_10) (fun t33_1 w_11 => 
 gd t31 true (fun k_3 w_12 => pur Tryz.prog (binS .eql 3 false true t33_1 (.int .i64 2)) fun t34 => k_3 t34 w_12) (fun t34_1 w_13 => 
 pur Tryz.prog (pickS t31 t34_1 (.bool false)) fun t35 => 
 gd t35 true (fun k_4 w_14 => k_4 t24 w_14) (fun t37_1 w_15 => 
 gd t35 true (fun k_5 w_16 => pur Tryz.prog (binS .eql 3 false true t37_1 (.int .i64 20)) fun t38 => k_5 t38 w_16) (fun t38_1 w_17 => 
 pur Tryz.prog (pickS t35 t38_1 (.bool false)) fun t39 => 
 gd t39 true (fun k_6 w_18 => k_6 t25 w_18) (fun t41_1 w_19 => 
 pur Tryz.prog (pickS t39 t41_1 (.bool false)) fun t42 => 
 gd t42 true (fun k_7 w_20 => k_7 t26 w_20) (fun t44_1 w_21 => 
 pur Tryz.prog (pickS t42 t44_1 (.bool false)) fun t45 => 
 gd t45 true (fun k_8 w_22 => k_8 t8 w_22) (fun t47_1 w_23 => 
 gd t45 true (fun k_9 w_24 => callS Tryz.prog 28 #[t47_1] (fun t48 w_25 => k_9 t48 w_25) w_24) (fun t48_1 w_26 => 
 gd t45 true (fun k_10 w_27 => pur Tryz.prog (binS .eql 3 false true t48_1 (.int .i64 2)) fun t49 => k_10 t49 w_27) (fun t49_1 w_28 => 
 pur Tryz.prog (pickS t45 t49_1 (.bool false)) fun t50 => 
 Q t50 w_28) w_26) w_23) w_21) w_19) w_17) w_15) w_13) w_11) w_9) w_7) w_5) w_4) w_3) w_2) w_1)) w_1) w
theorem eq12 (Q : Value → World → Prop) (w : World) : semF Tryz.prog 12 [] Q w = S12 Q w := by kernel_rfl
theorem ref12 {Q : Value → World → Prop} {w : World} (h : S12 Q w) : callS Tryz.prog 12 #[] Q w :=
  callS_of mix (fun a w => Tryz.call12 a w) (by kernel_rfl) (by rw [eq12]; exact h)
-- commons/lru.New[int,int]
def S13 (v_room : Value) (Q : Value → World → Prop) (w : World) : Prop :=
 act Tryz.prog (Instr.makeMap 31 none) (fun t4 w_1 => 
 pur Tryz.prog (Builtin.max_ #[3, 3] 3 #[v_room, (.int .i64 0)]) fun t6 => 
 pur Tryz.prog (Builtin.min_ #[3, 3] 3 #[t6, (.int .i64 100000)]) fun t7 => 
 pur Tryz.prog (Instr.build 36 #[(0, t4), (2, t7)]) fun t8 => 
 act Tryz.prog (Instr.box 36 t8) (fun t9 w_2 => 
 pur Tryz.prog (nilV t9) fun t13 => 
 pur Tryz.prog (Instr.fieldAt 36 t13 1) fun t14 => 
 pur Tryz.prog (nilV t9) fun t16 => 
 pur Tryz.prog (Instr.fieldAt 36 t16 1) fun t17 => 
 pur Tryz.prog (nilV t9) fun t18 => 
 pur Tryz.prog (Instr.fieldAt 36 t18 1) fun t19 => 
 pur Tryz.prog (Instr.fieldAt 34 t19 3) fun t20 => 
 act Tryz.prog (thenU (Instr.storeAt 32 t20 t14)) (fun _ w_3 => 
 pur Tryz.prog (nilV t9) fun t21 => 
 pur Tryz.prog (Instr.fieldAt 36 t21 1) fun t22 => 
 pur Tryz.prog (Instr.fieldAt 34 t22 4) fun t23 => 
 act Tryz.prog (thenU (Instr.storeAt 32 t23 t17)) (fun _ w_4 => 
 Q t9 w_4) w_3) (World.drew w_2)) w_1) w
theorem eq13 (v_room : Value) (Q : Value → World → Prop) (w : World) : semF Tryz.prog 13 [v_room] Q w = S13 v_room Q w := by kernel_rfl
theorem ref13 {v_room : Value} {Q : Value → World → Prop} {w : World} (h : S13 v_room Q w) : callS Tryz.prog 13 #[v_room] Q w :=
  callS_of mix (fun a w => Tryz.call13 a w) (by kernel_rfl) (by rw [eq13]; exact h)
-- commons/commonsref1.Room
def S14 (v_n : Value) (Q : Value → World → Prop) (w : World) : Prop :=
 pur Tryz.prog (Builtin.max_ #[3, 3] 3 #[v_n, (.int .i64 0)]) fun t4 => 
 pur Tryz.prog (Builtin.min_ #[3, 3] 3 #[t4, (.int .i64 100000)]) fun t5 => 
 Q t5 w
theorem eq14 (v_n : Value) (Q : Value → World → Prop) (w : World) : semF Tryz.prog 14 [v_n] Q w = S14 v_n Q w := by kernel_rfl
theorem ref14 {v_n : Value} {Q : Value → World → Prop} {w : World} (h : S14 v_n Q w) : callS Tryz.prog 14 #[v_n] Q w :=
  callS_of mix (fun a w => Tryz.call14 a w) (by kernel_rfl) (by rw [eq14]; exact h)
-- (*commons/commonsref1.Lru).Find
def S15 (v_c v_k : Value) (Q : Value → World → Prop) (w : World) : Prop :=
 lp 1 (fun J => fun v_i w_1 => ∀ _j : Fr, 
  pur Tryz.prog (nilV v_c) fun t8 => 
  pur Tryz.prog (Instr.fieldAt 30 t8 0) fun t9 => 
  rd Tryz.prog (Instr.loadAt 28 t9) (fun t10 => 
  pur Tryz.prog (Builtin.len_ #[28] 3 #[t10]) fun t11 => 
  pur Tryz.prog (binS .lss 3 false false v_i t11) fun t12 => 
  condS t12
   (pur Tryz.prog (nilV v_c) fun t16 => 
  pur Tryz.prog (Instr.fieldAt 30 t16 0) fun t17 => 
  rd Tryz.prog (Instr.loadAt 28 t17) (fun t18 => 
  pur Tryz.prog (Instr.indexAt 28 t18 v_i) fun t20 => 
  pur Tryz.prog (Instr.fieldAt 62 t20 0) fun t21 => 
  rd Tryz.prog (Instr.loadAt 3 t21) (fun t22 => 
  pur Tryz.prog (binS .eql 3 false false t22 v_k) fun t24 => 
  condS t24
   (Q v_i w_1)
   (pur Tryz.prog (binS .add 3 false true v_i (.int .i64 1)) fun t14 => 
  J t14 w_1)) w_1) w_1)
   (Q (.int .i64 (-1)) w_1)) w_1) [(.int .i64 0)] w
theorem eq15 (v_c v_k : Value) (Q : Value → World → Prop) (w : World) : semF Tryz.prog 15 [v_c, v_k] Q w = S15 v_c v_k Q w := by kernel_rfl
theorem ref15 {v_c v_k : Value} {Q : Value → World → Prop} {w : World} (h : S15 v_c v_k Q w) : callS Tryz.prog 15 #[v_c, v_k] Q w :=
  callS_of mix (fun a w => Tryz.call15 a w) (by kernel_rfl) (by rw [eq15]; exact h)
-- (*commons/lru.Cache[int, int]).Put
def S16 (v_c v_k v_v : Value) (Q : Value → World → Prop) (w : World) : Prop :=
 act Tryz.prog (Instr.alloc 34 true (.tuple #[])) (fun t10 w_1 => 
 callS Tryz.prog 115 #[v_c, v_k] (fun t17 w_2 => 
 rd Tryz.prog (binS .neq 32 false true t17 (.pointer none)) (fun t19 => 
 condS t19
  (pur Tryz.prog (nilV t17) fun t22 => 
  pur Tryz.prog (Instr.fieldAt 34 t22 1) fun t23 => 
  act Tryz.prog (thenU (Instr.storeAt 3 t23 v_v)) (fun _ w_3 => 
  callS Tryz.prog 116 #[v_c, t17] (fun _ w_4 => 
  pur Tryz.prog (Instr.fieldAt 34 t10 0) fun t27 => 
  rd Tryz.prog (Instr.loadAt 3 t27) (fun t28 => 
  pur Tryz.prog (Instr.fieldAt 34 t10 1) fun t29 => 
  rd Tryz.prog (Instr.loadAt 3 t29) (fun t30 => 
  Q (.tuple #[t28, t30, (.bool false), (.bool true)]) (World.drew w_4)) (World.drew w_4)) (World.drew w_4)) w_3) w_2)
  (callS Tryz.prog 29 #[v_c] (fun t32 w_5 => 
 pur Tryz.prog (binS .eql 3 false true t32 (.int .i64 0)) fun t33 => 
 condS t33
  (pur Tryz.prog (Instr.fieldAt 34 t10 0) fun t34 => 
  rd Tryz.prog (Instr.loadAt 3 t34) (fun t35 => 
  pur Tryz.prog (Instr.fieldAt 34 t10 1) fun t36 => 
  rd Tryz.prog (Instr.loadAt 3 t36) (fun t37 => 
  Q (.tuple #[t35, t37, (.bool false), (.bool false)]) (World.drew w_5)) (World.drew w_5)) (World.drew w_5))
  (jn 1 (fun J => 
  pur Tryz.prog (nilV v_c) fun t39 => 
  pur Tryz.prog (Instr.fieldAt 36 t39 0) fun t40 => 
  rd Tryz.prog (Instr.loadAt 31 t40) (fun t41 => 
  rd Tryz.prog (Builtin.len_ #[31] 3 #[t41]) (fun t42 => 
  pur Tryz.prog (nilV v_c) fun t44 => 
  pur Tryz.prog (Instr.fieldAt 36 t44 2) fun t45 => 
  rd Tryz.prog (Instr.loadAt 3 t45) (fun t46 => 
  pur Tryz.prog (binS .geq 3 false false t42 t46) fun t47 => 
  condS t47
   (callS Tryz.prog 117 #[v_c] (fun t49 w_6 => 
   rd Tryz.prog (binS .eql 32 false true t49 (.pointer none)) (fun t51 => 
   condS t51
    (pur Tryz.prog (Instr.fieldAt 34 t10 0) fun t52 => 
    rd Tryz.prog (Instr.loadAt 3 t52) (fun t53 => 
    pur Tryz.prog (Instr.fieldAt 34 t10 1) fun t54 => 
    rd Tryz.prog (Instr.loadAt 3 t54) (fun t55 => 
    Q (.tuple #[t53, t55, (.bool false), (.bool false)]) (World.drew w_6)) (World.drew w_6)) (World.drew w_6))
    (callS Tryz.prog 118 #[t49] (fun _ w_7 => 
   pur Tryz.prog (nilV v_c) fun t59 => 
   pur Tryz.prog (Instr.fieldAt 36 t59 0) fun t60 => 
   rd Tryz.prog (Instr.loadAt 31 t60) (fun t61 => 
   pur Tryz.prog (nilV t49) fun t63 => 
   pur Tryz.prog (Instr.fieldAt 34 t63 0) fun t64 => 
   rd Tryz.prog (Instr.loadAt 3 t64) (fun t65 => 
   act Tryz.prog (Builtin.delete_ #[31, 3] 0 #[t61, t65]) (fun _ w_8 => 
   jn 1 (fun J_1 => 
    pur Tryz.prog (nilV t49) fun t67 => 
    pur Tryz.prog (Instr.fieldAt 34 t67 0) fun t68 => 
    rd Tryz.prog (Instr.loadAt 3 t68) (fun t69 => 
    pur Tryz.prog (nilV t49) fun t71 => 
    pur Tryz.prog (Instr.fieldAt 34 t71 1) fun t72 => 
    pur Tryz.prog (Instr.fieldAt 34 t10 0) fun t74 => 
    (rd Tryz.prog (Instr.loadAt 3 t72) (fun t73 => 
    act Tryz.prog (thenU (Instr.storeAt 3 t74 t69)) (fun _ w_9 => 
    pur Tryz.prog (Instr.fieldAt 34 t10 1) fun t75 => 
    act Tryz.prog (thenU (Instr.storeAt 3 t75 t73)) (fun _ w_10 => 
    J_1 (.bool true) w_10) w_9) (World.drew w_8)) (World.drew w_8)
    ) ∧ (act Tryz.prog (thenU (Instr.storeAt 3 t74 t69)) (fun _ w_11 => 
    rd Tryz.prog (Instr.loadAt 3 t72) (fun t73_1 => 
    pur Tryz.prog (Instr.fieldAt 34 t10 1) fun t75_1 => 
    act Tryz.prog (thenU (Instr.storeAt 3 t75_1 t73_1)) (fun _ w_12 => 
    J_1 (.bool true) w_12) w_11) w_11) (World.drew w_8))) (World.drew w_8))
   (fun v_out w_13 => ∀ _j : Fr, 
    J v_out w_13)) (World.drew w_7)) (World.drew w_7)) (World.drew w_7)) w_6)) w_6) (World.drew w_5))
   (J (.bool false) (World.drew w_5))) (World.drew w_5)) (World.drew w_5)) (World.drew w_5))
 (fun v_out_1 w_14 => ∀ _j : Fr, 
  pur Tryz.prog (Instr.build 34 #[(0, v_k), (1, v_v)]) fun t78 => 
  act Tryz.prog (Instr.box 34 t78) (fun t79 w_15 => 
  pur Tryz.prog (nilV v_c) fun t81 => 
  pur Tryz.prog (Instr.fieldAt 36 t81 0) fun t82 => 
  rd Tryz.prog (Instr.loadAt 31 t82) (fun t83 => 
  act Tryz.prog (thenU (Instr.mapUpdate 31 t83 v_k t79)) (fun _ w_16 => 
  callS Tryz.prog 119 #[v_c, t79] (fun _ w_17 => 
  pur Tryz.prog (Instr.fieldAt 34 t10 0) fun t89 => 
  rd Tryz.prog (Instr.loadAt 3 t89) (fun t90 => 
  pur Tryz.prog (Instr.fieldAt 34 t10 1) fun t91 => 
  rd Tryz.prog (Instr.loadAt 3 t91) (fun t92 => 
  Q (.tuple #[t90, t92, v_out_1, (.bool true)]) (World.drew w_17)) (World.drew w_17)) (World.drew w_17)) w_16) w_15) w_15) w_14))) w_2)) w_2) w_1) w
theorem eq16 (v_c v_k v_v : Value) (Q : Value → World → Prop) (w : World) : semF Tryz.prog 16 [v_c, v_k, v_v] Q w = S16 v_c v_k v_v Q w := by kernel_rfl
theorem ref16 {v_c v_k v_v : Value} {Q : Value → World → Prop} {w : World} (h : S16 v_c v_k v_v Q w) : callS Tryz.prog 16 #[v_c, v_k, v_v] Q w :=
  callS_of mix (fun a w => Tryz.call16 a w) (by kernel_rfl) (by rw [eq16]; exact h)
-- (*commons/commonsref1.Lru).Put
def S17 (v_c v_k v_v : Value) (Q : Value → World → Prop) (w : World) : Prop :=
 callS Tryz.prog 15 #[v_c, v_k] (fun t15 w_1 => 
 pur Tryz.prog (binS .geq 3 false true t15 (.int .i64 0)) fun t17 => 
 condS t17
  (pur Tryz.prog (nilV v_c) fun t20 => 
  pur Tryz.prog (Instr.fieldAt 30 t20 0) fun t21 => 
  rd Tryz.prog (Instr.loadAt 28 t21) (fun t22 => 
  act Tryz.prog (Builtin.append_ #[28, 28] 28 #[(.slice none 0 0), t22]) (fun t23 w_2 => 
  pur Tryz.prog (nilV v_c) fun t24 => 
  pur Tryz.prog (Instr.fieldAt 30 t24 0) fun t25 => 
  act Tryz.prog (thenU (Instr.storeAt 28 t25 t23)) (fun _ w_3 => 
  pur Tryz.prog (nilV v_c) fun t27 => 
  pur Tryz.prog (Instr.fieldAt 30 t27 0) fun t28 => 
  rd Tryz.prog (Instr.loadAt 28 t28) (fun t29 => 
  pur Tryz.prog (Instr.indexAt 28 t29 t15) fun t32 => 
  pur Tryz.prog (Instr.fieldAt 62 t32 1) fun t33 => 
  act Tryz.prog (thenU (Instr.storeAt 3 t33 v_v)) (fun _ w_4 => 
  callS Tryz.prog 19 #[v_c, t15] (fun _ w_5 => 
  Q (.tuple #[(.int .i64 0), (.int .i64 0), (.bool false), (.bool true)]) w_5) w_4) w_3) w_3) w_2) w_1) w_1)
  (act Tryz.prog (Instr.alloc 62 true (.tuple #[])) (fun t11 w_6 => 
 jn 1 (fun J => 
  pur Tryz.prog (nilV v_c) fun t38 => 
  pur Tryz.prog (Instr.fieldAt 30 t38 0) fun t39 => 
  rd Tryz.prog (Instr.loadAt 28 t39) (fun t40 => 
  pur Tryz.prog (Builtin.len_ #[28] 3 #[t40]) fun t41 => 
  pur Tryz.prog (nilV v_c) fun t43 => 
  pur Tryz.prog (Instr.fieldAt 30 t43 1) fun t44 => 
  rd Tryz.prog (Instr.loadAt 3 t44) (fun t45 => 
  pur Tryz.prog (binS .geq 3 false false t41 t45) fun t46 => 
  condS t46
   (pur Tryz.prog (nilV v_c) fun t48 => 
   pur Tryz.prog (Instr.fieldAt 30 t48 0) fun t49 => 
   rd Tryz.prog (Instr.loadAt 28 t49) (fun t50 => 
   pur Tryz.prog (Builtin.len_ #[28] 3 #[t50]) fun t51 => 
   pur Tryz.prog (binS .sub 3 false true t51 (.int .i64 1)) fun t52 => 
   lp 1 (fun J_1 => fun v_at w_7 => ∀ _j : Fr, 
    pur Tryz.prog (binS .geq 3 false true v_at (.int .i64 0)) fun t54 => 
    gd t54 true (fun k w_8 => k v_c w_8) (fun t56_1 w_9 => 
    gd t54 true (fun k_1 w_10 => pur Tryz.prog (nilV t56_1) fun t57 => k_1 t57 w_10) (fun t57_1 w_11 => 
    gd t54 true (fun k_2 w_12 => pur Tryz.prog (Instr.fieldAt 30 t57_1 0) fun t58 => k_2 t58 w_12) (fun t58_1 w_13 => 
    gd t54 true (fun k_3 w_14 => rd Tryz.prog (Instr.loadAt 28 t58_1) (fun t59 => k_3 t59 w_14) w_14) (fun t59_1 w_15 => 
    gd t54 true (fun k_4 w_16 => k_4 v_at w_16) (fun t60_1 w_17 => 
    gd t54 true (fun k_5 w_18 => pur Tryz.prog (Instr.indexAt 28 t59_1 t60_1) fun t61 => k_5 t61 w_18) (fun t61_1 w_19 => 
    gd t54 true (fun k_6 w_20 => pur Tryz.prog (Instr.fieldAt 62 t61_1 2) fun t62 => k_6 t62 w_20) (fun t62_1 w_21 => 
    gd t54 true (fun k_7 w_22 => rd Tryz.prog (Instr.loadAt 3 t62_1) (fun t63 => k_7 t63 w_22) w_22) (fun t63_1 w_23 => 
    gd t54 true (fun k_8 w_24 => pur Tryz.prog (binS .gtr 3 false true t63_1 (.int .i64 0)) fun t64 => k_8 t64 w_24) (fun t64_1 w_25 => 
    pur Tryz.prog (pickS t54 t64_1 (.bool false)) fun t65 => 
    condS t65
     (pur Tryz.prog (binS .sub 3 false true v_at (.int .i64 1)) fun t67 => 
    J_1 t67 w_25)
     (pur Tryz.prog (binS .lss 3 false true v_at (.int .i64 0)) fun t69 => 
   condS t69
    (Q (.tuple #[(.int .i64 0), (.int .i64 0), (.bool false), (.bool false)]) w_25)
    (pur Tryz.prog (nilV v_c) fun t71 => 
   pur Tryz.prog (Instr.fieldAt 30 t71 0) fun t72 => 
   rd Tryz.prog (Instr.loadAt 28 t72) (fun t73 => 
   pur Tryz.prog (Instr.indexAt 28 t73 v_at) fun t75 => 
   rd Tryz.prog (Instr.loadAt 62 t75) (fun t76 => 
   act Tryz.prog (thenU (Instr.storeAt 62 t11 t76)) (fun _ w_26 => 
   jn 0 (fun J_2 => 
    pur Tryz.prog (nilV v_c) fun t79 => 
    pur Tryz.prog (Instr.fieldAt 30 t79 0) fun t80 => 
    rd Tryz.prog (Instr.loadAt 28 t80) (fun t81 => 
    pur Tryz.prog (Instr.sliceAt 28 t81 none (some v_at) none) fun t83 => 
    pur Tryz.prog (nilV v_c) fun t86 => 
    pur Tryz.prog (Instr.fieldAt 30 t86 0) fun t87 => 
    pur Tryz.prog (binS .add 3 false true v_at (.int .i64 1)) fun t90 => 
    (act Tryz.prog (Builtin.append_ #[28, 28] 28 #[(.slice none 0 0), t83]) (fun t84 w_27 => 
    rd Tryz.prog (Instr.loadAt 28 t87) (fun t88 => 
    pur Tryz.prog (Instr.sliceAt 28 t88 (some t90) none none) fun t91 => 
    act Tryz.prog (Builtin.append_ #[28, 28] 28 #[t84, t91]) (fun t92 w_28 => 
    pur Tryz.prog (nilV v_c) fun t93 => 
    pur Tryz.prog (Instr.fieldAt 30 t93 0) fun t94 => 
    act Tryz.prog (thenU (Instr.storeAt 28 t94 t92)) (fun _ w_29 => 
    J_2  w_29) w_28) w_27) w_27) (World.drew w_26)
    ) ∧ (rd Tryz.prog (Instr.loadAt 28 t87) (fun t88_1 => 
    act Tryz.prog (Builtin.append_ #[28, 28] 28 #[(.slice none 0 0), t83]) (fun t84_1 w_30 => 
    pur Tryz.prog (Instr.sliceAt 28 t88_1 (some t90) none none) fun t91_1 => 
    act Tryz.prog (Builtin.append_ #[28, 28] 28 #[t84_1, t91_1]) (fun t92_1 w_31 => 
    pur Tryz.prog (nilV v_c) fun t93_1 => 
    pur Tryz.prog (Instr.fieldAt 30 t93_1 0) fun t94_1 => 
    act Tryz.prog (thenU (Instr.storeAt 28 t94_1 t92_1)) (fun _ w_32 => 
    J_2  w_32) w_31) w_30) (World.drew w_26)) (World.drew w_26))) (World.drew w_26))
   (fun  w_33 => ∀ _j : Fr, 
    J (.bool true) w_33)) w_25) w_25) w_25))) w_23) w_21) w_19) w_17) w_15) w_13) w_11) w_9) w_7) [t52] (World.drew w_6)) (World.drew w_6))
   (J (.bool false) (World.drew w_6))) (World.drew w_6)) (World.drew w_6))
 (fun v_goes w_34 => ∀ _j : Fr, 
  pur Tryz.prog (Instr.build 62 #[(0, v_k), (1, v_v)]) fun t98 => 
  act Tryz.prog (Instr.buildSlice 28 1 #[(0, t98)]) (fun t99 w_35 => 
  pur Tryz.prog (nilV v_c) fun t101 => 
  pur Tryz.prog (Instr.fieldAt 30 t101 0) fun t102 => 
  rd Tryz.prog (Instr.loadAt 28 t102) (fun t103 => 
  act Tryz.prog (Builtin.append_ #[28, 28] 28 #[t99, t103]) (fun t104 w_36 => 
  pur Tryz.prog (nilV v_c) fun t105 => 
  pur Tryz.prog (Instr.fieldAt 30 t105 0) fun t106 => 
  act Tryz.prog (thenU (Instr.storeAt 28 t106 t104)) (fun _ w_37 => 
  pur Tryz.prog (Instr.fieldAt 62 t11 0) fun t107 => 
  rd Tryz.prog (Instr.loadAt 3 t107) (fun t108 => 
  pur Tryz.prog (Instr.fieldAt 62 t11 1) fun t109 => 
  rd Tryz.prog (Instr.loadAt 3 t109) (fun t110 => 
  Q (.tuple #[t108, t110, v_goes, (.bool true)]) (World.drew w_37)) (World.drew w_37)) (World.drew w_37)) w_36) w_35) w_35) w_34)) w_1)) w
theorem eq17 (v_c v_k v_v : Value) (Q : Value → World → Prop) (w : World) : semF Tryz.prog 17 [v_c, v_k, v_v] Q w = S17 v_c v_k v_v Q w := by kernel_rfl
theorem ref17 {v_c v_k v_v : Value} {Q : Value → World → Prop} {w : World} (h : S17 v_c v_k v_v Q w) : callS Tryz.prog 17 #[v_c, v_k, v_v] Q w :=
  callS_of mix (fun a w => Tryz.call17 a w) (by kernel_rfl) (by rw [eq17]; exact h)
-- (*commons/lru.Cache[int, int]).Get
def S18 (v_c v_k : Value) (Q : Value → World → Prop) (w : World) : Prop :=
 jn 0 (fun J => 
  callS Tryz.prog 115 #[v_c, v_k] (fun t9 w_1 => 
  rd Tryz.prog (binS .neq 32 false true t9 (.pointer none)) (fun t11 => 
  condS t11
   (callS Tryz.prog 116 #[v_c, t9] (fun _ w_2 => 
   J  w_2) w_1)
   (J  w_1)) w_1) w)
 (fun  w_3 => ∀ _j : Fr, 
  callS Tryz.prog 23 #[v_c, v_k] (fun t17 w_4 => 
  pur Tryz.prog (Instr.extract t17 0) fun t18 => 
  pur Tryz.prog (Instr.extract t17 1) fun t19 => 
  Q (.tuple #[t18, t19]) w_4) w_3)
theorem eq18 (v_c v_k : Value) (Q : Value → World → Prop) (w : World) : semF Tryz.prog 18 [v_c, v_k] Q w = S18 v_c v_k Q w := by kernel_rfl
theorem ref18 {v_c v_k : Value} {Q : Value → World → Prop} {w : World} (h : S18 v_c v_k Q w) : callS Tryz.prog 18 #[v_c, v_k] Q w :=
  callS_of mix (fun a w => Tryz.call18 a w) (by kernel_rfl) (by rw [eq18]; exact h)
-- (*commons/commonsref1.Lru).Use
def S19 (v_c v_at : Value) (Q : Value → World → Prop) (w : World) : Prop :=
 pur Tryz.prog (nilV v_c) fun t6 => 
 pur Tryz.prog (Instr.fieldAt 30 t6 0) fun t7 => 
 rd Tryz.prog (Instr.loadAt 28 t7) (fun t8 => 
 pur Tryz.prog (Instr.indexAt 28 t8 v_at) fun t10 => 
 rd Tryz.prog (Instr.loadAt 62 t10) (fun t11 => 
 act Tryz.prog (Instr.alloc 62 true (.tuple #[])) (fun t4 w_1 => 
 act Tryz.prog (thenU (Instr.storeAt 62 t4 t11)) (fun _ w_2 => 
 jn 0 (fun J => 
  pur Tryz.prog (nilV v_c) fun t16 => 
  pur Tryz.prog (Instr.fieldAt 30 t16 0) fun t17 => 
  pur Tryz.prog (nilV v_c) fun t23 => 
  pur Tryz.prog (Instr.fieldAt 30 t23 0) fun t24 => 
  pur Tryz.prog (binS .add 3 false true v_at (.int .i64 1)) fun t27 => 
  (rd Tryz.prog (Instr.loadAt 62 t4) (fun t13 => 
  (act Tryz.prog (Instr.buildSlice 28 1 #[(0, t13)]) (fun t14 w_3 => 
  rd Tryz.prog (Instr.loadAt 28 t17) (fun t18 => 
  pur Tryz.prog (Instr.sliceAt 28 t18 none (some v_at) none) fun t20 => 
  (act Tryz.prog (Builtin.append_ #[28, 28] 28 #[(.slice none 0 0), t20]) (fun t21 w_4 => 
  rd Tryz.prog (Instr.loadAt 28 t24) (fun t25 => 
  pur Tryz.prog (Instr.sliceAt 28 t25 (some t27) none none) fun t28 => 
  act Tryz.prog (Builtin.append_ #[28, 28] 28 #[t21, t28]) (fun t29 w_5 => 
  act Tryz.prog (Builtin.append_ #[28, 28] 28 #[t14, t29]) (fun t30 w_6 => 
  pur Tryz.prog (nilV v_c) fun t31 => 
  pur Tryz.prog (Instr.fieldAt 30 t31 0) fun t32 => 
  act Tryz.prog (thenU (Instr.storeAt 28 t32 t30)) (fun _ w_7 => 
  J  w_7) w_6) w_5) w_4) w_4) w_3
  ) ∧ (rd Tryz.prog (Instr.loadAt 28 t24) (fun t25_1 => 
  act Tryz.prog (Builtin.append_ #[28, 28] 28 #[(.slice none 0 0), t20]) (fun t21_1 w_8 => 
  pur Tryz.prog (Instr.sliceAt 28 t25_1 (some t27) none none) fun t28_1 => 
  act Tryz.prog (Builtin.append_ #[28, 28] 28 #[t21_1, t28_1]) (fun t29_1 w_9 => 
  act Tryz.prog (Builtin.append_ #[28, 28] 28 #[t14, t29_1]) (fun t30_1 w_10 => 
  pur Tryz.prog (nilV v_c) fun t31_1 => 
  pur Tryz.prog (Instr.fieldAt 30 t31_1 0) fun t32_1 => 
  act Tryz.prog (thenU (Instr.storeAt 28 t32_1 t30_1)) (fun _ w_11 => 
  J  w_11) w_10) w_9) w_8) w_3) w_3)) w_3) (World.drew w_2)
  ) ∧ (rd Tryz.prog (Instr.loadAt 28 t17) (fun t18_1 => 
  pur Tryz.prog (Instr.sliceAt 28 t18_1 none (some v_at) none) fun t20_1 => 
  (act Tryz.prog (Instr.buildSlice 28 1 #[(0, t13)]) (fun t14_1 w_12 => 
  (act Tryz.prog (Builtin.append_ #[28, 28] 28 #[(.slice none 0 0), t20_1]) (fun t21_2 w_13 => 
  rd Tryz.prog (Instr.loadAt 28 t24) (fun t25_2 => 
  pur Tryz.prog (Instr.sliceAt 28 t25_2 (some t27) none none) fun t28_2 => 
  act Tryz.prog (Builtin.append_ #[28, 28] 28 #[t21_2, t28_2]) (fun t29_2 w_14 => 
  act Tryz.prog (Builtin.append_ #[28, 28] 28 #[t14_1, t29_2]) (fun t30_2 w_15 => 
  pur Tryz.prog (nilV v_c) fun t31_2 => 
  pur Tryz.prog (Instr.fieldAt 30 t31_2 0) fun t32_2 => 
  act Tryz.prog (thenU (Instr.storeAt 28 t32_2 t30_2)) (fun _ w_16 => 
  J  w_16) w_15) w_14) w_13) w_13) w_12
  ) ∧ (rd Tryz.prog (Instr.loadAt 28 t24) (fun t25_3 => 
  act Tryz.prog (Builtin.append_ #[28, 28] 28 #[(.slice none 0 0), t20_1]) (fun t21_3 w_17 => 
  pur Tryz.prog (Instr.sliceAt 28 t25_3 (some t27) none none) fun t28_3 => 
  act Tryz.prog (Builtin.append_ #[28, 28] 28 #[t21_3, t28_3]) (fun t29_3 w_18 => 
  act Tryz.prog (Builtin.append_ #[28, 28] 28 #[t14_1, t29_3]) (fun t30_3 w_19 => 
  pur Tryz.prog (nilV v_c) fun t31_3 => 
  pur Tryz.prog (Instr.fieldAt 30 t31_3 0) fun t32_3 => 
  act Tryz.prog (thenU (Instr.storeAt 28 t32_3 t30_3)) (fun _ w_20 => 
  J  w_20) w_19) w_18) w_17) w_12) w_12)) (World.drew w_2)
  ) ∧ (act Tryz.prog (Builtin.append_ #[28, 28] 28 #[(.slice none 0 0), t20_1]) (fun t21_4 w_21 => 
  (act Tryz.prog (Instr.buildSlice 28 1 #[(0, t13)]) (fun t14_2 w_22 => 
  rd Tryz.prog (Instr.loadAt 28 t24) (fun t25_4 => 
  pur Tryz.prog (Instr.sliceAt 28 t25_4 (some t27) none none) fun t28_4 => 
  act Tryz.prog (Builtin.append_ #[28, 28] 28 #[t21_4, t28_4]) (fun t29_4 w_23 => 
  act Tryz.prog (Builtin.append_ #[28, 28] 28 #[t14_2, t29_4]) (fun t30_4 w_24 => 
  pur Tryz.prog (nilV v_c) fun t31_4 => 
  pur Tryz.prog (Instr.fieldAt 30 t31_4 0) fun t32_4 => 
  act Tryz.prog (thenU (Instr.storeAt 28 t32_4 t30_4)) (fun _ w_25 => 
  J  w_25) w_24) w_23) w_22) w_22) w_21
  ) ∧ (rd Tryz.prog (Instr.loadAt 28 t24) (fun t25_5 => 
  pur Tryz.prog (Instr.sliceAt 28 t25_5 (some t27) none none) fun t28_5 => 
  (act Tryz.prog (Instr.buildSlice 28 1 #[(0, t13)]) (fun t14_3 w_26 => 
  act Tryz.prog (Builtin.append_ #[28, 28] 28 #[t21_4, t28_5]) (fun t29_5 w_27 => 
  act Tryz.prog (Builtin.append_ #[28, 28] 28 #[t14_3, t29_5]) (fun t30_5 w_28 => 
  pur Tryz.prog (nilV v_c) fun t31_5 => 
  pur Tryz.prog (Instr.fieldAt 30 t31_5 0) fun t32_5 => 
  act Tryz.prog (thenU (Instr.storeAt 28 t32_5 t30_5)) (fun _ w_29 => 
  J  w_29) w_28) w_27) w_26) w_21
  ) ∧ (act Tryz.prog (Builtin.append_ #[28, 28] 28 #[t21_4, t28_5]) (fun t29_6 w_30 => 
  act Tryz.prog (Instr.buildSlice 28 1 #[(0, t13)]) (fun t14_4 w_31 => 
  act Tryz.prog (Builtin.append_ #[28, 28] 28 #[t14_4, t29_6]) (fun t30_6 w_32 => 
  pur Tryz.prog (nilV v_c) fun t31_6 => 
  pur Tryz.prog (Instr.fieldAt 30 t31_6 0) fun t32_6 => 
  act Tryz.prog (thenU (Instr.storeAt 28 t32_6 t30_6)) (fun _ w_33 => 
  J  w_33) w_32) w_31) w_30) w_21)) w_21)) (World.drew w_2)
  ) ∧ (rd Tryz.prog (Instr.loadAt 28 t24) (fun t25_6 => 
  pur Tryz.prog (Instr.sliceAt 28 t25_6 (some t27) none none) fun t28_6 => 
  (act Tryz.prog (Instr.buildSlice 28 1 #[(0, t13)]) (fun t14_5 w_34 => 
  act Tryz.prog (Builtin.append_ #[28, 28] 28 #[(.slice none 0 0), t20_1]) (fun t21_5 w_35 => 
  act Tryz.prog (Builtin.append_ #[28, 28] 28 #[t21_5, t28_6]) (fun t29_7 w_36 => 
  act Tryz.prog (Builtin.append_ #[28, 28] 28 #[t14_5, t29_7]) (fun t30_7 w_37 => 
  pur Tryz.prog (nilV v_c) fun t31_7 => 
  pur Tryz.prog (Instr.fieldAt 30 t31_7 0) fun t32_7 => 
  act Tryz.prog (thenU (Instr.storeAt 28 t32_7 t30_7)) (fun _ w_38 => 
  J  w_38) w_37) w_36) w_35) w_34) (World.drew w_2)
  ) ∧ (act Tryz.prog (Builtin.append_ #[28, 28] 28 #[(.slice none 0 0), t20_1]) (fun t21_6 w_39 => 
  (act Tryz.prog (Instr.buildSlice 28 1 #[(0, t13)]) (fun t14_6 w_40 => 
  act Tryz.prog (Builtin.append_ #[28, 28] 28 #[t21_6, t28_6]) (fun t29_8 w_41 => 
  act Tryz.prog (Builtin.append_ #[28, 28] 28 #[t14_6, t29_8]) (fun t30_8 w_42 => 
  pur Tryz.prog (nilV v_c) fun t31_8 => 
  pur Tryz.prog (Instr.fieldAt 30 t31_8 0) fun t32_8 => 
  act Tryz.prog (thenU (Instr.storeAt 28 t32_8 t30_8)) (fun _ w_43 => 
  J  w_43) w_42) w_41) w_40) w_39
  ) ∧ (act Tryz.prog (Builtin.append_ #[28, 28] 28 #[t21_6, t28_6]) (fun t29_9 w_44 => 
  act Tryz.prog (Instr.buildSlice 28 1 #[(0, t13)]) (fun t14_7 w_45 => 
  act Tryz.prog (Builtin.append_ #[28, 28] 28 #[t14_7, t29_9]) (fun t30_9 w_46 => 
  pur Tryz.prog (nilV v_c) fun t31_9 => 
  pur Tryz.prog (Instr.fieldAt 30 t31_9 0) fun t32_9 => 
  act Tryz.prog (thenU (Instr.storeAt 28 t32_9 t30_9)) (fun _ w_47 => 
  J  w_47) w_46) w_45) w_44) w_39)) (World.drew w_2))) (World.drew w_2))) (World.drew w_2)
  ) ∧ (rd Tryz.prog (Instr.loadAt 28 t24) (fun t25_7 => 
  pur Tryz.prog (Instr.sliceAt 28 t25_7 (some t27) none none) fun t28_7 => 
  (act Tryz.prog (Instr.buildSlice 28 1 #[(0, t13)]) (fun t14_8 w_48 => 
  rd Tryz.prog (Instr.loadAt 28 t17) (fun t18_2 => 
  pur Tryz.prog (Instr.sliceAt 28 t18_2 none (some v_at) none) fun t20_2 => 
  act Tryz.prog (Builtin.append_ #[28, 28] 28 #[(.slice none 0 0), t20_2]) (fun t21_7 w_49 => 
  act Tryz.prog (Builtin.append_ #[28, 28] 28 #[t21_7, t28_7]) (fun t29_10 w_50 => 
  act Tryz.prog (Builtin.append_ #[28, 28] 28 #[t14_8, t29_10]) (fun t30_10 w_51 => 
  pur Tryz.prog (nilV v_c) fun t31_10 => 
  pur Tryz.prog (Instr.fieldAt 30 t31_10 0) fun t32_10 => 
  act Tryz.prog (thenU (Instr.storeAt 28 t32_10 t30_10)) (fun _ w_52 => 
  J  w_52) w_51) w_50) w_49) w_48) w_48) (World.drew w_2)
  ) ∧ (rd Tryz.prog (Instr.loadAt 28 t17) (fun t18_3 => 
  pur Tryz.prog (Instr.sliceAt 28 t18_3 none (some v_at) none) fun t20_3 => 
  (act Tryz.prog (Instr.buildSlice 28 1 #[(0, t13)]) (fun t14_9 w_53 => 
  act Tryz.prog (Builtin.append_ #[28, 28] 28 #[(.slice none 0 0), t20_3]) (fun t21_8 w_54 => 
  act Tryz.prog (Builtin.append_ #[28, 28] 28 #[t21_8, t28_7]) (fun t29_11 w_55 => 
  act Tryz.prog (Builtin.append_ #[28, 28] 28 #[t14_9, t29_11]) (fun t30_11 w_56 => 
  pur Tryz.prog (nilV v_c) fun t31_11 => 
  pur Tryz.prog (Instr.fieldAt 30 t31_11 0) fun t32_11 => 
  act Tryz.prog (thenU (Instr.storeAt 28 t32_11 t30_11)) (fun _ w_57 => 
  J  w_57) w_56) w_55) w_54) w_53) (World.drew w_2)
  ) ∧ (act Tryz.prog (Builtin.append_ #[28, 28] 28 #[(.slice none 0 0), t20_3]) (fun t21_9 w_58 => 
  (act Tryz.prog (Instr.buildSlice 28 1 #[(0, t13)]) (fun t14_10 w_59 => 
  act Tryz.prog (Builtin.append_ #[28, 28] 28 #[t21_9, t28_7]) (fun t29_12 w_60 => 
  act Tryz.prog (Builtin.append_ #[28, 28] 28 #[t14_10, t29_12]) (fun t30_12 w_61 => 
  pur Tryz.prog (nilV v_c) fun t31_12 => 
  pur Tryz.prog (Instr.fieldAt 30 t31_12 0) fun t32_12 => 
  act Tryz.prog (thenU (Instr.storeAt 28 t32_12 t30_12)) (fun _ w_62 => 
  J  w_62) w_61) w_60) w_59) w_58
  ) ∧ (act Tryz.prog (Builtin.append_ #[28, 28] 28 #[t21_9, t28_7]) (fun t29_13 w_63 => 
  act Tryz.prog (Instr.buildSlice 28 1 #[(0, t13)]) (fun t14_11 w_64 => 
  act Tryz.prog (Builtin.append_ #[28, 28] 28 #[t14_11, t29_13]) (fun t30_13 w_65 => 
  pur Tryz.prog (nilV v_c) fun t31_13 => 
  pur Tryz.prog (Instr.fieldAt 30 t31_13 0) fun t32_13 => 
  act Tryz.prog (thenU (Instr.storeAt 28 t32_13 t30_13)) (fun _ w_66 => 
  J  w_66) w_65) w_64) w_63) w_58)) (World.drew w_2))) (World.drew w_2))) (World.drew w_2))) (World.drew w_2)
  ) ∧ (rd Tryz.prog (Instr.loadAt 28 t17) (fun t18_4 => 
  pur Tryz.prog (Instr.sliceAt 28 t18_4 none (some v_at) none) fun t20_4 => 
  (rd Tryz.prog (Instr.loadAt 62 t4) (fun t13_1 => 
  (act Tryz.prog (Instr.buildSlice 28 1 #[(0, t13_1)]) (fun t14_12 w_67 => 
  (act Tryz.prog (Builtin.append_ #[28, 28] 28 #[(.slice none 0 0), t20_4]) (fun t21_10 w_68 => 
  rd Tryz.prog (Instr.loadAt 28 t24) (fun t25_8 => 
  pur Tryz.prog (Instr.sliceAt 28 t25_8 (some t27) none none) fun t28_8 => 
  act Tryz.prog (Builtin.append_ #[28, 28] 28 #[t21_10, t28_8]) (fun t29_14 w_69 => 
  act Tryz.prog (Builtin.append_ #[28, 28] 28 #[t14_12, t29_14]) (fun t30_14 w_70 => 
  pur Tryz.prog (nilV v_c) fun t31_14 => 
  pur Tryz.prog (Instr.fieldAt 30 t31_14 0) fun t32_14 => 
  act Tryz.prog (thenU (Instr.storeAt 28 t32_14 t30_14)) (fun _ w_71 => 
  J  w_71) w_70) w_69) w_68) w_68) w_67
  ) ∧ (rd Tryz.prog (Instr.loadAt 28 t24) (fun t25_9 => 
  act Tryz.prog (Builtin.append_ #[28, 28] 28 #[(.slice none 0 0), t20_4]) (fun t21_11 w_72 => 
  pur Tryz.prog (Instr.sliceAt 28 t25_9 (some t27) none none) fun t28_9 => 
  act Tryz.prog (Builtin.append_ #[28, 28] 28 #[t21_11, t28_9]) (fun t29_15 w_73 => 
  act Tryz.prog (Builtin.append_ #[28, 28] 28 #[t14_12, t29_15]) (fun t30_15 w_74 => 
  pur Tryz.prog (nilV v_c) fun t31_15 => 
  pur Tryz.prog (Instr.fieldAt 30 t31_15 0) fun t32_15 => 
  act Tryz.prog (thenU (Instr.storeAt 28 t32_15 t30_15)) (fun _ w_75 => 
  J  w_75) w_74) w_73) w_72) w_67) w_67)) (World.drew w_2)
  ) ∧ (act Tryz.prog (Builtin.append_ #[28, 28] 28 #[(.slice none 0 0), t20_4]) (fun t21_12 w_76 => 
  (act Tryz.prog (Instr.buildSlice 28 1 #[(0, t13_1)]) (fun t14_13 w_77 => 
  rd Tryz.prog (Instr.loadAt 28 t24) (fun t25_10 => 
  pur Tryz.prog (Instr.sliceAt 28 t25_10 (some t27) none none) fun t28_10 => 
  act Tryz.prog (Builtin.append_ #[28, 28] 28 #[t21_12, t28_10]) (fun t29_16 w_78 => 
  act Tryz.prog (Builtin.append_ #[28, 28] 28 #[t14_13, t29_16]) (fun t30_16 w_79 => 
  pur Tryz.prog (nilV v_c) fun t31_16 => 
  pur Tryz.prog (Instr.fieldAt 30 t31_16 0) fun t32_16 => 
  act Tryz.prog (thenU (Instr.storeAt 28 t32_16 t30_16)) (fun _ w_80 => 
  J  w_80) w_79) w_78) w_77) w_77) w_76
  ) ∧ (rd Tryz.prog (Instr.loadAt 28 t24) (fun t25_11 => 
  pur Tryz.prog (Instr.sliceAt 28 t25_11 (some t27) none none) fun t28_11 => 
  (act Tryz.prog (Instr.buildSlice 28 1 #[(0, t13_1)]) (fun t14_14 w_81 => 
  act Tryz.prog (Builtin.append_ #[28, 28] 28 #[t21_12, t28_11]) (fun t29_17 w_82 => 
  act Tryz.prog (Builtin.append_ #[28, 28] 28 #[t14_14, t29_17]) (fun t30_17 w_83 => 
  pur Tryz.prog (nilV v_c) fun t31_17 => 
  pur Tryz.prog (Instr.fieldAt 30 t31_17 0) fun t32_17 => 
  act Tryz.prog (thenU (Instr.storeAt 28 t32_17 t30_17)) (fun _ w_84 => 
  J  w_84) w_83) w_82) w_81) w_76
  ) ∧ (act Tryz.prog (Builtin.append_ #[28, 28] 28 #[t21_12, t28_11]) (fun t29_18 w_85 => 
  act Tryz.prog (Instr.buildSlice 28 1 #[(0, t13_1)]) (fun t14_15 w_86 => 
  act Tryz.prog (Builtin.append_ #[28, 28] 28 #[t14_15, t29_18]) (fun t30_18 w_87 => 
  pur Tryz.prog (nilV v_c) fun t31_18 => 
  pur Tryz.prog (Instr.fieldAt 30 t31_18 0) fun t32_18 => 
  act Tryz.prog (thenU (Instr.storeAt 28 t32_18 t30_18)) (fun _ w_88 => 
  J  w_88) w_87) w_86) w_85) w_76)) w_76)) (World.drew w_2)
  ) ∧ (rd Tryz.prog (Instr.loadAt 28 t24) (fun t25_12 => 
  pur Tryz.prog (Instr.sliceAt 28 t25_12 (some t27) none none) fun t28_12 => 
  (act Tryz.prog (Instr.buildSlice 28 1 #[(0, t13_1)]) (fun t14_16 w_89 => 
  act Tryz.prog (Builtin.append_ #[28, 28] 28 #[(.slice none 0 0), t20_4]) (fun t21_13 w_90 => 
  act Tryz.prog (Builtin.append_ #[28, 28] 28 #[t21_13, t28_12]) (fun t29_19 w_91 => 
  act Tryz.prog (Builtin.append_ #[28, 28] 28 #[t14_16, t29_19]) (fun t30_19 w_92 => 
  pur Tryz.prog (nilV v_c) fun t31_19 => 
  pur Tryz.prog (Instr.fieldAt 30 t31_19 0) fun t32_19 => 
  act Tryz.prog (thenU (Instr.storeAt 28 t32_19 t30_19)) (fun _ w_93 => 
  J  w_93) w_92) w_91) w_90) w_89) (World.drew w_2)
  ) ∧ (act Tryz.prog (Builtin.append_ #[28, 28] 28 #[(.slice none 0 0), t20_4]) (fun t21_14 w_94 => 
  (act Tryz.prog (Instr.buildSlice 28 1 #[(0, t13_1)]) (fun t14_17 w_95 => 
  act Tryz.prog (Builtin.append_ #[28, 28] 28 #[t21_14, t28_12]) (fun t29_20 w_96 => 
  act Tryz.prog (Builtin.append_ #[28, 28] 28 #[t14_17, t29_20]) (fun t30_20 w_97 => 
  pur Tryz.prog (nilV v_c) fun t31_20 => 
  pur Tryz.prog (Instr.fieldAt 30 t31_20 0) fun t32_20 => 
  act Tryz.prog (thenU (Instr.storeAt 28 t32_20 t30_20)) (fun _ w_98 => 
  J  w_98) w_97) w_96) w_95) w_94
  ) ∧ (act Tryz.prog (Builtin.append_ #[28, 28] 28 #[t21_14, t28_12]) (fun t29_21 w_99 => 
  act Tryz.prog (Instr.buildSlice 28 1 #[(0, t13_1)]) (fun t14_18 w_100 => 
  act Tryz.prog (Builtin.append_ #[28, 28] 28 #[t14_18, t29_21]) (fun t30_21 w_101 => 
  pur Tryz.prog (nilV v_c) fun t31_21 => 
  pur Tryz.prog (Instr.fieldAt 30 t31_21 0) fun t32_21 => 
  act Tryz.prog (thenU (Instr.storeAt 28 t32_21 t30_21)) (fun _ w_102 => 
  J  w_102) w_101) w_100) w_99) w_94)) (World.drew w_2))) (World.drew w_2))) (World.drew w_2)
  ) ∧ (act Tryz.prog (Builtin.append_ #[28, 28] 28 #[(.slice none 0 0), t20_4]) (fun t21_15 w_103 => 
  (rd Tryz.prog (Instr.loadAt 62 t4) (fun t13_2 => 
  (act Tryz.prog (Instr.buildSlice 28 1 #[(0, t13_2)]) (fun t14_19 w_104 => 
  rd Tryz.prog (Instr.loadAt 28 t24) (fun t25_13 => 
  pur Tryz.prog (Instr.sliceAt 28 t25_13 (some t27) none none) fun t28_13 => 
  act Tryz.prog (Builtin.append_ #[28, 28] 28 #[t21_15, t28_13]) (fun t29_22 w_105 => 
  act Tryz.prog (Builtin.append_ #[28, 28] 28 #[t14_19, t29_22]) (fun t30_22 w_106 => 
  pur Tryz.prog (nilV v_c) fun t31_22 => 
  pur Tryz.prog (Instr.fieldAt 30 t31_22 0) fun t32_22 => 
  act Tryz.prog (thenU (Instr.storeAt 28 t32_22 t30_22)) (fun _ w_107 => 
  J  w_107) w_106) w_105) w_104) w_104) w_103
  ) ∧ (rd Tryz.prog (Instr.loadAt 28 t24) (fun t25_14 => 
  pur Tryz.prog (Instr.sliceAt 28 t25_14 (some t27) none none) fun t28_14 => 
  (act Tryz.prog (Instr.buildSlice 28 1 #[(0, t13_2)]) (fun t14_20 w_108 => 
  act Tryz.prog (Builtin.append_ #[28, 28] 28 #[t21_15, t28_14]) (fun t29_23 w_109 => 
  act Tryz.prog (Builtin.append_ #[28, 28] 28 #[t14_20, t29_23]) (fun t30_23 w_110 => 
  pur Tryz.prog (nilV v_c) fun t31_23 => 
  pur Tryz.prog (Instr.fieldAt 30 t31_23 0) fun t32_23 => 
  act Tryz.prog (thenU (Instr.storeAt 28 t32_23 t30_23)) (fun _ w_111 => 
  J  w_111) w_110) w_109) w_108) w_103
  ) ∧ (act Tryz.prog (Builtin.append_ #[28, 28] 28 #[t21_15, t28_14]) (fun t29_24 w_112 => 
  act Tryz.prog (Instr.buildSlice 28 1 #[(0, t13_2)]) (fun t14_21 w_113 => 
  act Tryz.prog (Builtin.append_ #[28, 28] 28 #[t14_21, t29_24]) (fun t30_24 w_114 => 
  pur Tryz.prog (nilV v_c) fun t31_24 => 
  pur Tryz.prog (Instr.fieldAt 30 t31_24 0) fun t32_24 => 
  act Tryz.prog (thenU (Instr.storeAt 28 t32_24 t30_24)) (fun _ w_115 => 
  J  w_115) w_114) w_113) w_112) w_103)) w_103)) w_103
  ) ∧ (rd Tryz.prog (Instr.loadAt 28 t24) (fun t25_15 => 
  pur Tryz.prog (Instr.sliceAt 28 t25_15 (some t27) none none) fun t28_15 => 
  (rd Tryz.prog (Instr.loadAt 62 t4) (fun t13_3 => 
  (act Tryz.prog (Instr.buildSlice 28 1 #[(0, t13_3)]) (fun t14_22 w_116 => 
  act Tryz.prog (Builtin.append_ #[28, 28] 28 #[t21_15, t28_15]) (fun t29_25 w_117 => 
  act Tryz.prog (Builtin.append_ #[28, 28] 28 #[t14_22, t29_25]) (fun t30_25 w_118 => 
  pur Tryz.prog (nilV v_c) fun t31_25 => 
  pur Tryz.prog (Instr.fieldAt 30 t31_25 0) fun t32_25 => 
  act Tryz.prog (thenU (Instr.storeAt 28 t32_25 t30_25)) (fun _ w_119 => 
  J  w_119) w_118) w_117) w_116) w_103
  ) ∧ (act Tryz.prog (Builtin.append_ #[28, 28] 28 #[t21_15, t28_15]) (fun t29_26 w_120 => 
  act Tryz.prog (Instr.buildSlice 28 1 #[(0, t13_3)]) (fun t14_23 w_121 => 
  act Tryz.prog (Builtin.append_ #[28, 28] 28 #[t14_23, t29_26]) (fun t30_26 w_122 => 
  pur Tryz.prog (nilV v_c) fun t31_26 => 
  pur Tryz.prog (Instr.fieldAt 30 t31_26 0) fun t32_26 => 
  act Tryz.prog (thenU (Instr.storeAt 28 t32_26 t30_26)) (fun _ w_123 => 
  J  w_123) w_122) w_121) w_120) w_103)) w_103
  ) ∧ (act Tryz.prog (Builtin.append_ #[28, 28] 28 #[t21_15, t28_15]) (fun t29_27 w_124 => 
  rd Tryz.prog (Instr.loadAt 62 t4) (fun t13_4 => 
  act Tryz.prog (Instr.buildSlice 28 1 #[(0, t13_4)]) (fun t14_24 w_125 => 
  act Tryz.prog (Builtin.append_ #[28, 28] 28 #[t14_24, t29_27]) (fun t30_27 w_126 => 
  pur Tryz.prog (nilV v_c) fun t31_27 => 
  pur Tryz.prog (Instr.fieldAt 30 t31_27 0) fun t32_27 => 
  act Tryz.prog (thenU (Instr.storeAt 28 t32_27 t30_27)) (fun _ w_127 => 
  J  w_127) w_126) w_125) w_124) w_124) w_103)) w_103)) (World.drew w_2)
  ) ∧ (rd Tryz.prog (Instr.loadAt 28 t24) (fun t25_16 => 
  pur Tryz.prog (Instr.sliceAt 28 t25_16 (some t27) none none) fun t28_16 => 
  (rd Tryz.prog (Instr.loadAt 62 t4) (fun t13_5 => 
  (act Tryz.prog (Instr.buildSlice 28 1 #[(0, t13_5)]) (fun t14_25 w_128 => 
  act Tryz.prog (Builtin.append_ #[28, 28] 28 #[(.slice none 0 0), t20_4]) (fun t21_16 w_129 => 
  act Tryz.prog (Builtin.append_ #[28, 28] 28 #[t21_16, t28_16]) (fun t29_28 w_130 => 
  act Tryz.prog (Builtin.append_ #[28, 28] 28 #[t14_25, t29_28]) (fun t30_28 w_131 => 
  pur Tryz.prog (nilV v_c) fun t31_28 => 
  pur Tryz.prog (Instr.fieldAt 30 t31_28 0) fun t32_28 => 
  act Tryz.prog (thenU (Instr.storeAt 28 t32_28 t30_28)) (fun _ w_132 => 
  J  w_132) w_131) w_130) w_129) w_128) (World.drew w_2)
  ) ∧ (act Tryz.prog (Builtin.append_ #[28, 28] 28 #[(.slice none 0 0), t20_4]) (fun t21_17 w_133 => 
  (act Tryz.prog (Instr.buildSlice 28 1 #[(0, t13_5)]) (fun t14_26 w_134 => 
  act Tryz.prog (Builtin.append_ #[28, 28] 28 #[t21_17, t28_16]) (fun t29_29 w_135 => 
  act Tryz.prog (Builtin.append_ #[28, 28] 28 #[t14_26, t29_29]) (fun t30_29 w_136 => 
  pur Tryz.prog (nilV v_c) fun t31_29 => 
  pur Tryz.prog (Instr.fieldAt 30 t31_29 0) fun t32_29 => 
  act Tryz.prog (thenU (Instr.storeAt 28 t32_29 t30_29)) (fun _ w_137 => 
  J  w_137) w_136) w_135) w_134) w_133
  ) ∧ (act Tryz.prog (Builtin.append_ #[28, 28] 28 #[t21_17, t28_16]) (fun t29_30 w_138 => 
  act Tryz.prog (Instr.buildSlice 28 1 #[(0, t13_5)]) (fun t14_27 w_139 => 
  act Tryz.prog (Builtin.append_ #[28, 28] 28 #[t14_27, t29_30]) (fun t30_30 w_140 => 
  pur Tryz.prog (nilV v_c) fun t31_30 => 
  pur Tryz.prog (Instr.fieldAt 30 t31_30 0) fun t32_30 => 
  act Tryz.prog (thenU (Instr.storeAt 28 t32_30 t30_30)) (fun _ w_141 => 
  J  w_141) w_140) w_139) w_138) w_133)) (World.drew w_2))) (World.drew w_2)
  ) ∧ (act Tryz.prog (Builtin.append_ #[28, 28] 28 #[(.slice none 0 0), t20_4]) (fun t21_18 w_142 => 
  (rd Tryz.prog (Instr.loadAt 62 t4) (fun t13_6 => 
  (act Tryz.prog (Instr.buildSlice 28 1 #[(0, t13_6)]) (fun t14_28 w_143 => 
  act Tryz.prog (Builtin.append_ #[28, 28] 28 #[t21_18, t28_16]) (fun t29_31 w_144 => 
  act Tryz.prog (Builtin.append_ #[28, 28] 28 #[t14_28, t29_31]) (fun t30_31 w_145 => 
  pur Tryz.prog (nilV v_c) fun t31_31 => 
  pur Tryz.prog (Instr.fieldAt 30 t31_31 0) fun t32_31 => 
  act Tryz.prog (thenU (Instr.storeAt 28 t32_31 t30_31)) (fun _ w_146 => 
  J  w_146) w_145) w_144) w_143) w_142
  ) ∧ (act Tryz.prog (Builtin.append_ #[28, 28] 28 #[t21_18, t28_16]) (fun t29_32 w_147 => 
  act Tryz.prog (Instr.buildSlice 28 1 #[(0, t13_6)]) (fun t14_29 w_148 => 
  act Tryz.prog (Builtin.append_ #[28, 28] 28 #[t14_29, t29_32]) (fun t30_32 w_149 => 
  pur Tryz.prog (nilV v_c) fun t31_32 => 
  pur Tryz.prog (Instr.fieldAt 30 t31_32 0) fun t32_32 => 
  act Tryz.prog (thenU (Instr.storeAt 28 t32_32 t30_32)) (fun _ w_150 => 
  J  w_150) w_149) w_148) w_147) w_142)) w_142
  ) ∧ (act Tryz.prog (Builtin.append_ #[28, 28] 28 #[t21_18, t28_16]) (fun t29_33 w_151 => 
  rd Tryz.prog (Instr.loadAt 62 t4) (fun t13_7 => 
  act Tryz.prog (Instr.buildSlice 28 1 #[(0, t13_7)]) (fun t14_30 w_152 => 
  act Tryz.prog (Builtin.append_ #[28, 28] 28 #[t14_30, t29_33]) (fun t30_33 w_153 => 
  pur Tryz.prog (nilV v_c) fun t31_33 => 
  pur Tryz.prog (Instr.fieldAt 30 t31_33 0) fun t32_33 => 
  act Tryz.prog (thenU (Instr.storeAt 28 t32_33 t30_33)) (fun _ w_154 => 
  J  w_154) w_153) w_152) w_151) w_151) w_142)) (World.drew w_2))) (World.drew w_2))) (World.drew w_2)
  ) ∧ (rd Tryz.prog (Instr.loadAt 28 t24) (fun t25_17 => 
  pur Tryz.prog (Instr.sliceAt 28 t25_17 (some t27) none none) fun t28_17 => 
  (rd Tryz.prog (Instr.loadAt 62 t4) (fun t13_8 => 
  (act Tryz.prog (Instr.buildSlice 28 1 #[(0, t13_8)]) (fun t14_31 w_155 => 
  rd Tryz.prog (Instr.loadAt 28 t17) (fun t18_5 => 
  pur Tryz.prog (Instr.sliceAt 28 t18_5 none (some v_at) none) fun t20_5 => 
  act Tryz.prog (Builtin.append_ #[28, 28] 28 #[(.slice none 0 0), t20_5]) (fun t21_19 w_156 => 
  act Tryz.prog (Builtin.append_ #[28, 28] 28 #[t21_19, t28_17]) (fun t29_34 w_157 => 
  act Tryz.prog (Builtin.append_ #[28, 28] 28 #[t14_31, t29_34]) (fun t30_34 w_158 => 
  pur Tryz.prog (nilV v_c) fun t31_34 => 
  pur Tryz.prog (Instr.fieldAt 30 t31_34 0) fun t32_34 => 
  act Tryz.prog (thenU (Instr.storeAt 28 t32_34 t30_34)) (fun _ w_159 => 
  J  w_159) w_158) w_157) w_156) w_155) w_155) (World.drew w_2)
  ) ∧ (rd Tryz.prog (Instr.loadAt 28 t17) (fun t18_6 => 
  pur Tryz.prog (Instr.sliceAt 28 t18_6 none (some v_at) none) fun t20_6 => 
  (act Tryz.prog (Instr.buildSlice 28 1 #[(0, t13_8)]) (fun t14_32 w_160 => 
  act Tryz.prog (Builtin.append_ #[28, 28] 28 #[(.slice none 0 0), t20_6]) (fun t21_20 w_161 => 
  act Tryz.prog (Builtin.append_ #[28, 28] 28 #[t21_20, t28_17]) (fun t29_35 w_162 => 
  act Tryz.prog (Builtin.append_ #[28, 28] 28 #[t14_32, t29_35]) (fun t30_35 w_163 => 
  pur Tryz.prog (nilV v_c) fun t31_35 => 
  pur Tryz.prog (Instr.fieldAt 30 t31_35 0) fun t32_35 => 
  act Tryz.prog (thenU (Instr.storeAt 28 t32_35 t30_35)) (fun _ w_164 => 
  J  w_164) w_163) w_162) w_161) w_160) (World.drew w_2)
  ) ∧ (act Tryz.prog (Builtin.append_ #[28, 28] 28 #[(.slice none 0 0), t20_6]) (fun t21_21 w_165 => 
  (act Tryz.prog (Instr.buildSlice 28 1 #[(0, t13_8)]) (fun t14_33 w_166 => 
  act Tryz.prog (Builtin.append_ #[28, 28] 28 #[t21_21, t28_17]) (fun t29_36 w_167 => 
  act Tryz.prog (Builtin.append_ #[28, 28] 28 #[t14_33, t29_36]) (fun t30_36 w_168 => 
  pur Tryz.prog (nilV v_c) fun t31_36 => 
  pur Tryz.prog (Instr.fieldAt 30 t31_36 0) fun t32_36 => 
  act Tryz.prog (thenU (Instr.storeAt 28 t32_36 t30_36)) (fun _ w_169 => 
  J  w_169) w_168) w_167) w_166) w_165
  ) ∧ (act Tryz.prog (Builtin.append_ #[28, 28] 28 #[t21_21, t28_17]) (fun t29_37 w_170 => 
  act Tryz.prog (Instr.buildSlice 28 1 #[(0, t13_8)]) (fun t14_34 w_171 => 
  act Tryz.prog (Builtin.append_ #[28, 28] 28 #[t14_34, t29_37]) (fun t30_37 w_172 => 
  pur Tryz.prog (nilV v_c) fun t31_37 => 
  pur Tryz.prog (Instr.fieldAt 30 t31_37 0) fun t32_37 => 
  act Tryz.prog (thenU (Instr.storeAt 28 t32_37 t30_37)) (fun _ w_173 => 
  J  w_173) w_172) w_171) w_170) w_165)) (World.drew w_2))) (World.drew w_2))) (World.drew w_2)
  ) ∧ (rd Tryz.prog (Instr.loadAt 28 t17) (fun t18_7 => 
  pur Tryz.prog (Instr.sliceAt 28 t18_7 none (some v_at) none) fun t20_7 => 
  (rd Tryz.prog (Instr.loadAt 62 t4) (fun t13_9 => 
  (act Tryz.prog (Instr.buildSlice 28 1 #[(0, t13_9)]) (fun t14_35 w_174 => 
  act Tryz.prog (Builtin.append_ #[28, 28] 28 #[(.slice none 0 0), t20_7]) (fun t21_22 w_175 => 
  act Tryz.prog (Builtin.append_ #[28, 28] 28 #[t21_22, t28_17]) (fun t29_38 w_176 => 
  act Tryz.prog (Builtin.append_ #[28, 28] 28 #[t14_35, t29_38]) (fun t30_38 w_177 => 
  pur Tryz.prog (nilV v_c) fun t31_38 => 
  pur Tryz.prog (Instr.fieldAt 30 t31_38 0) fun t32_38 => 
  act Tryz.prog (thenU (Instr.storeAt 28 t32_38 t30_38)) (fun _ w_178 => 
  J  w_178) w_177) w_176) w_175) w_174) (World.drew w_2)
  ) ∧ (act Tryz.prog (Builtin.append_ #[28, 28] 28 #[(.slice none 0 0), t20_7]) (fun t21_23 w_179 => 
  (act Tryz.prog (Instr.buildSlice 28 1 #[(0, t13_9)]) (fun t14_36 w_180 => 
  act Tryz.prog (Builtin.append_ #[28, 28] 28 #[t21_23, t28_17]) (fun t29_39 w_181 => 
  act Tryz.prog (Builtin.append_ #[28, 28] 28 #[t14_36, t29_39]) (fun t30_39 w_182 => 
  pur Tryz.prog (nilV v_c) fun t31_39 => 
  pur Tryz.prog (Instr.fieldAt 30 t31_39 0) fun t32_39 => 
  act Tryz.prog (thenU (Instr.storeAt 28 t32_39 t30_39)) (fun _ w_183 => 
  J  w_183) w_182) w_181) w_180) w_179
  ) ∧ (act Tryz.prog (Builtin.append_ #[28, 28] 28 #[t21_23, t28_17]) (fun t29_40 w_184 => 
  act Tryz.prog (Instr.buildSlice 28 1 #[(0, t13_9)]) (fun t14_37 w_185 => 
  act Tryz.prog (Builtin.append_ #[28, 28] 28 #[t14_37, t29_40]) (fun t30_40 w_186 => 
  pur Tryz.prog (nilV v_c) fun t31_40 => 
  pur Tryz.prog (Instr.fieldAt 30 t31_40 0) fun t32_40 => 
  act Tryz.prog (thenU (Instr.storeAt 28 t32_40 t30_40)) (fun _ w_187 => 
  J  w_187) w_186) w_185) w_184) w_179)) (World.drew w_2))) (World.drew w_2)
  ) ∧ (act Tryz.prog (Builtin.append_ #[28, 28] 28 #[(.slice none 0 0), t20_7]) (fun t21_24 w_188 => 
  (rd Tryz.prog (Instr.loadAt 62 t4) (fun t13_10 => 
  (act Tryz.prog (Instr.buildSlice 28 1 #[(0, t13_10)]) (fun t14_38 w_189 => 
  act Tryz.prog (Builtin.append_ #[28, 28] 28 #[t21_24, t28_17]) (fun t29_41 w_190 => 
  act Tryz.prog (Builtin.append_ #[28, 28] 28 #[t14_38, t29_41]) (fun t30_41 w_191 => 
  pur Tryz.prog (nilV v_c) fun t31_41 => 
  pur Tryz.prog (Instr.fieldAt 30 t31_41 0) fun t32_41 => 
  act Tryz.prog (thenU (Instr.storeAt 28 t32_41 t30_41)) (fun _ w_192 => 
  J  w_192) w_191) w_190) w_189) w_188
  ) ∧ (act Tryz.prog (Builtin.append_ #[28, 28] 28 #[t21_24, t28_17]) (fun t29_42 w_193 => 
  act Tryz.prog (Instr.buildSlice 28 1 #[(0, t13_10)]) (fun t14_39 w_194 => 
  act Tryz.prog (Builtin.append_ #[28, 28] 28 #[t14_39, t29_42]) (fun t30_42 w_195 => 
  pur Tryz.prog (nilV v_c) fun t31_42 => 
  pur Tryz.prog (Instr.fieldAt 30 t31_42 0) fun t32_42 => 
  act Tryz.prog (thenU (Instr.storeAt 28 t32_42 t30_42)) (fun _ w_196 => 
  J  w_196) w_195) w_194) w_193) w_188)) w_188
  ) ∧ (act Tryz.prog (Builtin.append_ #[28, 28] 28 #[t21_24, t28_17]) (fun t29_43 w_197 => 
  rd Tryz.prog (Instr.loadAt 62 t4) (fun t13_11 => 
  act Tryz.prog (Instr.buildSlice 28 1 #[(0, t13_11)]) (fun t14_40 w_198 => 
  act Tryz.prog (Builtin.append_ #[28, 28] 28 #[t14_40, t29_43]) (fun t30_43 w_199 => 
  pur Tryz.prog (nilV v_c) fun t31_43 => 
  pur Tryz.prog (Instr.fieldAt 30 t31_43 0) fun t32_43 => 
  act Tryz.prog (thenU (Instr.storeAt 28 t32_43 t30_43)) (fun _ w_200 => 
  J  w_200) w_199) w_198) w_197) w_197) w_188)) (World.drew w_2))) (World.drew w_2))) (World.drew w_2)))
 (fun  w_201 => ∀ _j : Fr, 
  Q (.tuple #[]) w_201)) w_1) w) w) w
theorem eq19 (v_c v_at : Value) (Q : Value → World → Prop) (w : World) : semF Tryz.prog 19 [v_c, v_at] Q w = S19 v_c v_at Q w := by kernel_rfl
theorem ref19 {v_c v_at : Value} {Q : Value → World → Prop} {w : World} (h : S19 v_c v_at Q w) : callS Tryz.prog 19 #[v_c, v_at] Q w :=
  callS_of mix (fun a w => Tryz.call19 a w) (by kernel_rfl) (by rw [eq19]; exact h)
-- (*commons/lru.Cache[int, int]).Pin
def S20 (v_c v_k : Value) (Q : Value → World → Prop) (w : World) : Prop :=
 callS Tryz.prog 115 #[v_c, v_k] (fun t8 w_1 => 
 rd Tryz.prog (binS .eql 32 false true t8 (.pointer none)) (fun t10 => 
 condS t10
  (Q (.bool false) w_1)
  (pur Tryz.prog (nilV t8) fun t12 => 
 pur Tryz.prog (Instr.fieldAt 34 t12 2) fun t13 => 
 rd Tryz.prog (Instr.loadAt 3 t13) (fun t14 => 
 pur Tryz.prog (binS .add 3 false true t14 (.int .i64 1)) fun t15 => 
 pur Tryz.prog (nilV t8) fun t16 => 
 pur Tryz.prog (Instr.fieldAt 34 t16 2) fun t17 => 
 act Tryz.prog (thenU (Instr.storeAt 3 t17 t15)) (fun _ w_2 => 
 Q (.bool true) w_2) w_1) w_1)) w_1) w
theorem eq20 (v_c v_k : Value) (Q : Value → World → Prop) (w : World) : semF Tryz.prog 20 [v_c, v_k] Q w = S20 v_c v_k Q w := by kernel_rfl
theorem ref20 {v_c v_k : Value} {Q : Value → World → Prop} {w : World} (h : S20 v_c v_k Q w) : callS Tryz.prog 20 #[v_c, v_k] Q w :=
  callS_of mix (fun a w => Tryz.call20 a w) (by kernel_rfl) (by rw [eq20]; exact h)
-- (*commons/lru.Cache[int, int]).Unpin
def S21 (v_c v_k : Value) (Q : Value → World → Prop) (w : World) : Prop :=
 callS Tryz.prog 115 #[v_c, v_k] (fun t8 w_1 => 
 rd Tryz.prog (binS .eql 32 false true t8 (.pointer none)) (fun t10 => 
 gd t10 false (fun k w_2 => k t8 w_2) (fun t12_1 w_3 => 
 gd t10 false (fun k_1 w_4 => pur Tryz.prog (nilV t12_1) fun t13 => k_1 t13 w_4) (fun t13_1 w_5 => 
 gd t10 false (fun k_2 w_6 => pur Tryz.prog (Instr.fieldAt 34 t13_1 2) fun t14 => k_2 t14 w_6) (fun t14_1 w_7 => 
 gd t10 false (fun k_3 w_8 => rd Tryz.prog (Instr.loadAt 3 t14_1) (fun t15 => k_3 t15 w_8) w_8) (fun t15_1 w_9 => 
 gd t10 false (fun k_4 w_10 => pur Tryz.prog (binS .eql 3 false true t15_1 (.int .i64 0)) fun t16 => k_4 t16 w_10) (fun t16_1 w_11 => 
 pur Tryz.prog (pickS t10 (.bool true) t16_1) fun t17 => 
 condS t17
  (Q (.bool false) w_11)
  (pur Tryz.prog (nilV t8) fun t19 => 
 pur Tryz.prog (Instr.fieldAt 34 t19 2) fun t20 => 
 rd Tryz.prog (Instr.loadAt 3 t20) (fun t21 => 
 pur Tryz.prog (binS .sub 3 false true t21 (.int .i64 1)) fun t22 => 
 pur Tryz.prog (nilV t8) fun t23 => 
 pur Tryz.prog (Instr.fieldAt 34 t23 2) fun t24 => 
 act Tryz.prog (thenU (Instr.storeAt 3 t24 t22)) (fun _ w_12 => 
 Q (.bool true) w_12) w_11) w_11)) w_9) w_7) w_5) w_3) w_1) w_1) w
theorem eq21 (v_c v_k : Value) (Q : Value → World → Prop) (w : World) : semF Tryz.prog 21 [v_c, v_k] Q w = S21 v_c v_k Q w := by kernel_rfl
theorem ref21 {v_c v_k : Value} {Q : Value → World → Prop} {w : World} (h : S21 v_c v_k Q w) : callS Tryz.prog 21 #[v_c, v_k] Q w :=
  callS_of mix (fun a w => Tryz.call21 a w) (by kernel_rfl) (by rw [eq21]; exact h)
-- (*commons/lru.Cache[int, int]).Delete
def S22 (v_c v_k : Value) (Q : Value → World → Prop) (w : World) : Prop :=
 callS Tryz.prog 115 #[v_c, v_k] (fun t8 w_1 => 
 rd Tryz.prog (binS .eql 32 false true t8 (.pointer none)) (fun t10 => 
 condS t10
  (Q (.bool false) w_1)
  (callS Tryz.prog 118 #[t8] (fun _ w_2 => 
 pur Tryz.prog (nilV v_c) fun t14 => 
 pur Tryz.prog (Instr.fieldAt 36 t14 0) fun t15 => 
 rd Tryz.prog (Instr.loadAt 31 t15) (fun t16 => 
 act Tryz.prog (Builtin.delete_ #[31, 3] 0 #[t16, v_k]) (fun _ w_3 => 
 Q (.bool true) w_3) w_2) w_2) w_1)) w_1) w
theorem eq22 (v_c v_k : Value) (Q : Value → World → Prop) (w : World) : semF Tryz.prog 22 [v_c, v_k] Q w = S22 v_c v_k Q w := by kernel_rfl
theorem ref22 {v_c v_k : Value} {Q : Value → World → Prop} {w : World} (h : S22 v_c v_k Q w) : callS Tryz.prog 22 #[v_c, v_k] Q w :=
  callS_of mix (fun a w => Tryz.call22 a w) (by kernel_rfl) (by rw [eq22]; exact h)
-- (*commons/lru.Cache[int, int]).Peek
def S23 (v_c v_k : Value) (Q : Value → World → Prop) (w : World) : Prop :=
 callS Tryz.prog 115 #[v_c, v_k] (fun t10 w_1 => 
 rd Tryz.prog (binS .eql 32 false true t10 (.pointer none)) (fun t12 => 
 condS t12
  (Q (.tuple #[(.int .i64 0), (.bool false)]) w_1)
  (pur Tryz.prog (nilV t10) fun t15 => 
 pur Tryz.prog (Instr.fieldAt 34 t15 1) fun t16 => 
 rd Tryz.prog (Instr.loadAt 3 t16) (fun t17 => 
 Q (.tuple #[t17, (.bool true)]) w_1) w_1)) w_1) w
theorem eq23 (v_c v_k : Value) (Q : Value → World → Prop) (w : World) : semF Tryz.prog 23 [v_c, v_k] Q w = S23 v_c v_k Q w := by kernel_rfl
theorem ref23 {v_c v_k : Value} {Q : Value → World → Prop} {w : World} (h : S23 v_c v_k Q w) : callS Tryz.prog 23 #[v_c, v_k] Q w :=
  callS_of mix (fun a w => Tryz.call23 a w) (by kernel_rfl) (by rw [eq23]; exact h)
-- (*commons/lru.Cache[int, int]).Pinned
def S24 (v_c v_k : Value) (Q : Value → World → Prop) (w : World) : Prop :=
 callS Tryz.prog 115 #[v_c, v_k] (fun t8 w_1 => 
 rd Tryz.prog (binS .eql 32 false true t8 (.pointer none)) (fun t10 => 
 condS t10
  (Q (.int .i64 0) w_1)
  (pur Tryz.prog (nilV t8) fun t12 => 
 pur Tryz.prog (Instr.fieldAt 34 t12 2) fun t13 => 
 rd Tryz.prog (Instr.loadAt 3 t13) (fun t14 => 
 Q t14 w_1) w_1)) w_1) w
theorem eq24 (v_c v_k : Value) (Q : Value → World → Prop) (w : World) : semF Tryz.prog 24 [v_c, v_k] Q w = S24 v_c v_k Q w := by kernel_rfl
theorem ref24 {v_c v_k : Value} {Q : Value → World → Prop} {w : World} (h : S24 v_c v_k Q w) : callS Tryz.prog 24 #[v_c, v_k] Q w :=
  callS_of mix (fun a w => Tryz.call24 a w) (by kernel_rfl) (by rw [eq24]; exact h)
-- (*commons/lru.Cache[int, int]).Keys
def S25 (v_c : Value) (Q : Value → World → Prop) (w : World) : Prop :=
 callS Tryz.prog 28 #[v_c] (fun t6 w_1 => 
 pur Tryz.prog (binS .eql 3 false true t6 (.int .i64 0)) fun t7 => 
 condS t7
  (Q (.slice none 0 0) w_1)
  (pur Tryz.prog (nilV v_c) fun t9 => 
 pur Tryz.prog (Instr.fieldAt 36 t9 1) fun t10 => 
 pur Tryz.prog (Instr.fieldAt 34 t10 4) fun t11 => 
 rd Tryz.prog (Instr.loadAt 32 t11) (fun t12 => 
 lp 2 (fun J => fun v_out v_x w_2 => ∀ _j : Fr, 
  pur Tryz.prog (nilV v_c) fun t15 => 
  pur Tryz.prog (Instr.fieldAt 36 t15 1) fun t16 => 
  rd Tryz.prog (binS .neq 32 false false v_x t16) (fun t17 => 
  condS t17
   (pur Tryz.prog (nilV v_x) fun t24 => 
  pur Tryz.prog (Instr.fieldAt 34 t24 0) fun t25 => 
  rd Tryz.prog (Instr.loadAt 3 t25) (fun t26 => 
  act Tryz.prog (Instr.buildSlice 65 1 #[(0, t26)]) (fun t27 w_3 => 
  act Tryz.prog (Builtin.append_ #[65, 65] 65 #[v_out, t27]) (fun t28 w_4 => 
  pur Tryz.prog (nilV v_x) fun t19 => 
  pur Tryz.prog (Instr.fieldAt 34 t19 4) fun t20 => 
  rd Tryz.prog (Instr.loadAt 32 t20) (fun t21 => 
  J t28 t21 w_4) w_4) w_3) w_2) w_2)
   (Q v_out w_2)) w_2) [(.slice none 0 0), t12] w_1) w_1)) w
theorem eq25 (v_c : Value) (Q : Value → World → Prop) (w : World) : semF Tryz.prog 25 [v_c] Q w = S25 v_c Q w := by kernel_rfl
theorem ref25 {v_c : Value} {Q : Value → World → Prop} {w : World} (h : S25 v_c Q w) : callS Tryz.prog 25 #[v_c] Q w :=
  callS_of mix (fun a w => Tryz.call25 a w) (by kernel_rfl) (by rw [eq25]; exact h)
-- (*commons/commonsbook.Book).Ints
def S26 (v_b v_l : Value) (Q : Value → World → Prop) (w : World) : Prop :=
 pur Tryz.prog (nilV v_b) fun t5 => 
 pur Tryz.prog (Instr.fieldAt 54 t5 2) fun t6 => 
 rd Tryz.prog (Instr.loadAt 39 t6) (fun t7 => 
 pur Tryz.prog (Builtin.len_ #[39] 3 #[t7]) fun t8 => 
 pur Tryz.prog (binS .lss 3 false true t8 (.int .i64 250)) fun t9 => 
 condS t9
  (pur Tryz.prog (nilV v_b) fun t12 => 
  pur Tryz.prog (Instr.fieldAt 54 t12 2) fun t13 => 
  rd Tryz.prog (Instr.loadAt 39 t13) (fun t14 => 
  act Tryz.prog (Instr.buildSlice 39 1 #[(0, v_l)]) (fun t16 w_1 => 
  act Tryz.prog (Builtin.append_ #[39, 39] 39 #[t14, t16]) (fun t17 w_2 => 
  pur Tryz.prog (nilV v_b) fun t18 => 
  pur Tryz.prog (Instr.fieldAt 54 t18 2) fun t19 => 
  act Tryz.prog (thenU (Instr.storeAt 39 t19 t17)) (fun _ w_3 => 
  jn 0 (fun J => 
   pur Tryz.prog (nilV v_b) fun t22 => 
   pur Tryz.prog (Instr.fieldAt 54 t22 3) fun t23 => 
   (rd Tryz.prog (Instr.loadAt 39 t23) (fun t24 => 
   callS Tryz.prog 120 #[v_l] (fun t26 w_4 => 
   act Tryz.prog (Instr.buildSlice 39 1 #[(0, t26)]) (fun t27 w_5 => 
   act Tryz.prog (Builtin.append_ #[39, 39] 39 #[t24, t27]) (fun t28 w_6 => 
   pur Tryz.prog (nilV v_b) fun t29 => 
   pur Tryz.prog (Instr.fieldAt 54 t29 3) fun t30 => 
   act Tryz.prog (thenU (Instr.storeAt 39 t30 t28)) (fun _ w_7 => 
   J  w_7) w_6) w_5) w_4) (World.drew w_3)) (World.drew w_3)
   ) ∧ (callS Tryz.prog 120 #[v_l] (fun t26_1 w_8 => 
   (rd Tryz.prog (Instr.loadAt 39 t23) (fun t24_1 => 
   act Tryz.prog (Instr.buildSlice 39 1 #[(0, t26_1)]) (fun t27_1 w_9 => 
   act Tryz.prog (Builtin.append_ #[39, 39] 39 #[t24_1, t27_1]) (fun t28_1 w_10 => 
   pur Tryz.prog (nilV v_b) fun t29_1 => 
   pur Tryz.prog (Instr.fieldAt 54 t29_1 3) fun t30_1 => 
   act Tryz.prog (thenU (Instr.storeAt 39 t30_1 t28_1)) (fun _ w_11 => 
   J  w_11) w_10) w_9) w_8) w_8
   ) ∧ (act Tryz.prog (Instr.buildSlice 39 1 #[(0, t26_1)]) (fun t27_2 w_12 => 
   rd Tryz.prog (Instr.loadAt 39 t23) (fun t24_2 => 
   act Tryz.prog (Builtin.append_ #[39, 39] 39 #[t24_2, t27_2]) (fun t28_2 w_13 => 
   pur Tryz.prog (nilV v_b) fun t29_2 => 
   pur Tryz.prog (Instr.fieldAt 54 t29_2 3) fun t30_2 => 
   act Tryz.prog (thenU (Instr.storeAt 39 t30_2 t28_2)) (fun _ w_14 => 
   J  w_14) w_13) w_12) w_12) w_8)) (World.drew w_3)))
  (fun  w_15 => ∀ _j : Fr, 
   Q (.tuple #[]) w_15)) w_2) w_1) w) w)
  (Q (.tuple #[]) w)) w
theorem eq26 (v_b v_l : Value) (Q : Value → World → Prop) (w : World) : semF Tryz.prog 26 [v_b, v_l] Q w = S26 v_b v_l Q w := by kernel_rfl
theorem ref26 {v_b v_l : Value} {Q : Value → World → Prop} {w : World} (h : S26 v_b v_l Q w) : callS Tryz.prog 26 #[v_b, v_l] Q w :=
  callS_of mix (fun a w => Tryz.call26 a w) (by kernel_rfl) (by rw [eq26]; exact h)
-- commons/commonsbook.SameInts
def S27 (v_a v_b : Value) (Q : Value → World → Prop) (w : World) : Prop :=
 pur Tryz.prog (Builtin.len_ #[65] 3 #[v_a]) fun t7 => 
 pur Tryz.prog (Builtin.len_ #[65] 3 #[v_b]) fun t9 => 
 pur Tryz.prog (binS .neq 3 false false t7 t9) fun t10 => 
 condS t10
  (Q (.bool false) w)
  (lp 1 (fun J => fun v_i w_1 => ∀ _j : Fr, 
  pur Tryz.prog (Builtin.len_ #[65] 3 #[v_a]) fun t13 => 
  pur Tryz.prog (binS .lss 3 false false v_i t13) fun t14 => 
  condS t14
   (pur Tryz.prog (Instr.indexAt 65 v_a v_i) fun t19 => 
  rd Tryz.prog (Instr.loadAt 3 t19) (fun t20 => 
  pur Tryz.prog (Instr.indexAt 65 v_b v_i) fun t23 => 
  rd Tryz.prog (Instr.loadAt 3 t23) (fun t24 => 
  pur Tryz.prog (binS .eql 3 false false t20 t24) fun t25 => 
  pur Tryz.prog (Op.unary .not t25) fun t26 => 
  condS t26
   (Q (.bool false) (World.drew w_1))
   (pur Tryz.prog (binS .add 3 false true v_i (.int .i64 1)) fun t16 => 
  J t16 (World.drew w_1))) (World.drew w_1)) (World.drew w_1))
   (Q (.bool true) w_1)) [(.int .i64 0)] w)
theorem eq27 (v_a v_b : Value) (Q : Value → World → Prop) (w : World) : semF Tryz.prog 27 [v_a, v_b] Q w = S27 v_a v_b Q w := by kernel_rfl
theorem ref27 {v_a v_b : Value} {Q : Value → World → Prop} {w : World} (h : S27 v_a v_b Q w) : callS Tryz.prog 27 #[v_a, v_b] Q w :=
  callS_of mix (fun a w => Tryz.call27 a w) (by kernel_rfl) (by rw [eq27]; exact h)
-- (*commons/lru.Cache[int, int]).Len
def S28 (v_c : Value) (Q : Value → World → Prop) (w : World) : Prop :=
 rd Tryz.prog (binS .eql 24 false true v_c (.pointer none)) (fun t4 => 
 condS t4
  (Q (.int .i64 0) w)
  (pur Tryz.prog (nilV v_c) fun t6 => 
 pur Tryz.prog (Instr.fieldAt 36 t6 0) fun t7 => 
 rd Tryz.prog (Instr.loadAt 31 t7) (fun t8 => 
 rd Tryz.prog (Builtin.len_ #[31] 3 #[t8]) (fun t9 => 
 Q t9 w) w) w)) w
theorem eq28 (v_c : Value) (Q : Value → World → Prop) (w : World) : semF Tryz.prog 28 [v_c] Q w = S28 v_c Q w := by kernel_rfl
theorem ref28 {v_c : Value} {Q : Value → World → Prop} {w : World} (h : S28 v_c Q w) : callS Tryz.prog 28 #[v_c] Q w :=
  callS_of mix (fun a w => Tryz.call28 a w) (by kernel_rfl) (by rw [eq28]; exact h)
-- (*commons/lru.Cache[int, int]).Room
def S29 (v_c : Value) (Q : Value → World → Prop) (w : World) : Prop :=
 rd Tryz.prog (binS .eql 24 false true v_c (.pointer none)) (fun t4 => 
 condS t4
  (Q (.int .i64 0) w)
  (pur Tryz.prog (nilV v_c) fun t6 => 
 pur Tryz.prog (Instr.fieldAt 36 t6 2) fun t7 => 
 rd Tryz.prog (Instr.loadAt 3 t7) (fun t8 => 
 Q t8 w) w)) w
theorem eq29 (v_c : Value) (Q : Value → World → Prop) (w : World) : semF Tryz.prog 29 [v_c] Q w = S29 v_c Q w := by kernel_rfl
theorem ref29 {v_c : Value} {Q : Value → World → Prop} {w : World} (h : S29 v_c Q w) : callS Tryz.prog 29 #[v_c] Q w :=
  callS_of mix (fun a w => Tryz.call29 a w) (by kernel_rfl) (by rw [eq29]; exact h)
-- (*commons/commonsbook.Book).Apart
def S30 (v_b : Value) (Q : Value → World → Prop) (w : World) : Prop :=
 callS Tryz.prog 121 #[v_b] (fun t19 w_1 => 
 pur Tryz.prog (Op.unary .not t19) fun t20 => 
 condS t20
  (Q (.bool false) w_1)
  (callS Tryz.prog 122 #[v_b] (fun t22 w_2 => 
 pur Tryz.prog (Op.unary .not t22) fun t23 => 
 condS t23
  (Q (.bool false) w_2)
  (callS Tryz.prog 123 #[v_b] (fun t25 w_3 => 
 pur Tryz.prog (Op.unary .not t25) fun t26 => 
 condS t26
  (Q (.bool false) w_3)
  (callS Tryz.prog 124 #[v_b] (fun t28 w_4 => 
 pur Tryz.prog (Op.unary .not t28) fun t29 => 
 condS t29
  (Q (.bool false) w_4)
  (callS Tryz.prog 125 #[v_b] (fun t31 w_5 => 
 pur Tryz.prog (Op.unary .not t31) fun t32 => 
 condS t32
  (Q (.bool false) w_5)
  (callS Tryz.prog 126 #[v_b] (fun t34 w_6 => 
 pur Tryz.prog (Op.unary .not t34) fun t35 => 
 condS t35
  (Q (.bool false) w_6)
  (callS Tryz.prog 127 #[v_b] (fun t37 w_7 => 
 pur Tryz.prog (Op.unary .not t37) fun t38 => 
 condS t38
  (Q (.bool false) w_7)
  (callS Tryz.prog 128 #[v_b] (fun t40 w_8 => 
 pur Tryz.prog (Op.unary .not t40) fun t41 => 
 condS t41
  (Q (.bool false) w_8)
  (callS Tryz.prog 129 #[v_b] (fun t43 w_9 => 
 pur Tryz.prog (Op.unary .not t43) fun t44 => 
 condS t44
  (Q (.bool false) w_9)
  (callS Tryz.prog 130 #[v_b] (fun t46 w_10 => 
 pur Tryz.prog (Op.unary .not t46) fun t47 => 
 condS t47
  (Q (.bool false) w_10)
  (callS Tryz.prog 131 #[v_b] (fun t49 w_11 => 
 pur Tryz.prog (Op.unary .not t49) fun t50 => 
 condS t50
  (Q (.bool false) w_11)
  (callS Tryz.prog 132 #[v_b] (fun t52 w_12 => 
 pur Tryz.prog (Op.unary .not t52) fun t53 => 
 condS t53
  (Q (.bool false) w_12)
  (callS Tryz.prog 133 #[v_b] (fun t55 w_13 => 
 pur Tryz.prog (Op.unary .not t55) fun t56 => 
 condS t56
  (Q (.bool false) w_13)
  (callS Tryz.prog 134 #[v_b] (fun t58 w_14 => 
 pur Tryz.prog (Op.unary .not t58) fun t59 => 
 condS t59
  (Q (.bool false) w_14)
  (callS Tryz.prog 135 #[v_b] (fun t61 w_15 => 
 pur Tryz.prog (Op.unary .not t61) fun t62 => 
 condS t62
  (Q (.bool false) w_15)
  (callS Tryz.prog 136 #[v_b] (fun _ w_16 => 
 callS Tryz.prog 137 #[v_b] (fun _ w_17 => 
 callS Tryz.prog 138 #[v_b] (fun _ w_18 => 
 callS Tryz.prog 139 #[v_b] (fun _ w_19 => 
 callS Tryz.prog 140 #[v_b] (fun _ w_20 => 
 callS Tryz.prog 141 #[v_b] (fun _ w_21 => 
 callS Tryz.prog 142 #[v_b] (fun _ w_22 => 
 callS Tryz.prog 143 #[v_b] (fun _ w_23 => 
 callS Tryz.prog 144 #[v_b] (fun _ w_24 => 
 callS Tryz.prog 145 #[v_b] (fun _ w_25 => 
 callS Tryz.prog 146 #[v_b] (fun _ w_26 => 
 callS Tryz.prog 147 #[v_b] (fun _ w_27 => 
 callS Tryz.prog 148 #[v_b] (fun _ w_28 => 
 callS Tryz.prog 149 #[v_b] (fun _ w_29 => 
 callS Tryz.prog 150 #[v_b] (fun _ w_30 => 
 callS Tryz.prog 151 #[v_b] (fun t94 w_31 => 
 callS Tryz.prog 152 #[v_b] (fun t96 w_32 => 
 callS Tryz.prog 153 #[v_b] (fun t98 w_33 => 
 callS Tryz.prog 154 #[v_b] (fun t100 w_34 => 
 callS Tryz.prog 155 #[v_b] (fun t102 w_35 => 
 callS Tryz.prog 156 #[v_b] (fun t104 w_36 => 
 callS Tryz.prog 157 #[v_b] (fun t106 w_37 => 
 callS Tryz.prog 158 #[v_b] (fun t108 w_38 => 
 callS Tryz.prog 159 #[v_b] (fun t110 w_39 => 
 callS Tryz.prog 160 #[v_b] (fun t112 w_40 => 
 callS Tryz.prog 161 #[v_b] (fun t114 w_41 => 
 callS Tryz.prog 162 #[v_b] (fun t116 w_42 => 
 callS Tryz.prog 163 #[v_b] (fun t118 w_43 => 
 callS Tryz.prog 164 #[v_b] (fun t120 w_44 => 
 callS Tryz.prog 165 #[v_b] (fun t122 w_45 => 
 callS Tryz.prog 166 #[t94] (fun t124 w_46 => 
 gd t124 true (fun k w_47 => k v_b w_47) (fun t126_1 w_48 => 
 gd t124 true (fun k_1 w_49 => pur Tryz.prog (nilV t126_1) fun t127 => k_1 t127 w_49) (fun t127_1 w_50 => 
 gd t124 true (fun k_2 w_51 => pur Tryz.prog (Instr.fieldAt 54 t127_1 0) fun t128 => k_2 t128 w_51) (fun t128_1 w_52 => 
 gd t124 true (fun k_3 w_53 => rd Tryz.prog (Instr.loadAt 38 t128_1) (fun t129 => k_3 t129 w_53) w_53) (fun t129_1 w_54 => 
 gd t124 true (fun k_4 w_55 => callS Tryz.prog 166 #[t129_1] (fun t130 w_56 => k_4 t130 w_56) w_55) (fun t130_1 w_57 => 
 pur Tryz.prog (pickS t124 t130_1 (.bool false)) fun t131 => 
 gd t131 true (fun k_5 w_58 => k_5 t96 w_58) (fun t133_1 w_59 => 
 gd t131 true (fun k_6 w_60 => callS Tryz.prog 167 #[t133_1] (fun t134 w_61 => k_6 t134 w_61) w_60) (fun t134_1 w_62 => 
 pur Tryz.prog (pickS t131 t134_1 (.bool false)) fun t135 => 
 gd t135 true (fun k_7 w_63 => k_7 v_b w_63) (fun t137_1 w_64 => 
 gd t135 true (fun k_8 w_65 => pur Tryz.prog (nilV t137_1) fun t138 => k_8 t138 w_65) (fun t138_1 w_66 => 
 gd t135 true (fun k_9 w_67 => pur Tryz.prog (Instr.fieldAt 54 t138_1 2) fun t139 => k_9 t139 w_67) (fun t139_1 w_68 => 
 gd t135 true (fun k_10 w_69 => rd Tryz.prog (Instr.loadAt 39 t139_1) (fun t140 => k_10 t140 w_69) w_69) (fun t140_1 w_70 => 
 gd t135 true (fun k_11 w_71 => callS Tryz.prog 167 #[t140_1] (fun t141 w_72 => k_11 t141 w_72) w_71) (fun t141_1 w_73 => 
 pur Tryz.prog (pickS t135 t141_1 (.bool false)) fun t142 => 
 gd t142 true (fun k_12 w_74 => k_12 t98 w_74) (fun t144_1 w_75 => 
 gd t142 true (fun k_13 w_76 => callS Tryz.prog 168 #[t144_1] (fun t145 w_77 => k_13 t145 w_77) w_76) (fun t145_1 w_78 => 
 pur Tryz.prog (pickS t142 t145_1 (.bool false)) fun t146 => 
 gd t146 true (fun k_14 w_79 => k_14 v_b w_79) (fun t148_1 w_80 => 
 gd t146 true (fun k_15 w_81 => pur Tryz.prog (nilV t148_1) fun t149 => k_15 t149 w_81) (fun t149_1 w_82 => 
 gd t146 true (fun k_16 w_83 => pur Tryz.prog (Instr.fieldAt 54 t149_1 4) fun t150 => k_16 t150 w_83) (fun t150_1 w_84 => 
 gd t146 true (fun k_17 w_85 => rd Tryz.prog (Instr.loadAt 40 t150_1) (fun t151 => k_17 t151 w_85) w_85) (fun t151_1 w_86 => 
 gd t146 true (fun k_18 w_87 => callS Tryz.prog 168 #[t151_1] (fun t152 w_88 => k_18 t152 w_88) w_87) (fun t152_1 w_89 => 
 pur Tryz.prog (pickS t146 t152_1 (.bool false)) fun t153 => 
 gd t153 true (fun k_19 w_90 => k_19 t100 w_90) (fun t155_1 w_91 => 
 gd t153 true (fun k_20 w_92 => callS Tryz.prog 169 #[t155_1] (fun t156 w_93 => k_20 t156 w_93) w_92) (fun t156_1 w_94 => 
 pur Tryz.prog (pickS t153 t156_1 (.bool false)) fun t157 => 
 gd t157 true (fun k_21 w_95 => k_21 v_b w_95) (fun t159_1 w_96 => 
 gd t157 true (fun k_22 w_97 => pur Tryz.prog (nilV t159_1) fun t160 => k_22 t160 w_97) (fun t160_1 w_98 => 
 gd t157 true (fun k_23 w_99 => pur Tryz.prog (Instr.fieldAt 54 t160_1 6) fun t161 => k_23 t161 w_99) (fun t161_1 w_100 => 
 gd t157 true (fun k_24 w_101 => rd Tryz.prog (Instr.loadAt 41 t161_1) (fun t162 => k_24 t162 w_101) w_101) (fun t162_1 w_102 => 
 gd t157 true (fun k_25 w_103 => callS Tryz.prog 169 #[t162_1] (fun t163 w_104 => k_25 t163 w_104) w_103) (fun t163_1 w_105 => 
 pur Tryz.prog (pickS t157 t163_1 (.bool false)) fun t164 => 
 gd t164 true (fun k_26 w_106 => k_26 t102 w_106) (fun t166_1 w_107 => 
 gd t164 true (fun k_27 w_108 => callS Tryz.prog 170 #[t166_1] (fun t167 w_109 => k_27 t167 w_109) w_108) (fun t167_1 w_110 => 
 pur Tryz.prog (pickS t164 t167_1 (.bool false)) fun t168 => 
 gd t168 true (fun k_28 w_111 => k_28 v_b w_111) (fun t170_1 w_112 => 
 gd t168 true (fun k_29 w_113 => pur Tryz.prog (nilV t170_1) fun t171 => k_29 t171 w_113) (fun t171_1 w_114 => 
 gd t168 true (fun k_30 w_115 => pur Tryz.prog (Instr.fieldAt 54 t171_1 8) fun t172 => k_30 t172 w_115) (fun t172_1 w_116 => 
 gd t168 true (fun k_31 w_117 => rd Tryz.prog (Instr.loadAt 42 t172_1) (fun t173 => k_31 t173 w_117) w_117) (fun t173_1 w_118 => 
 gd t168 true (fun k_32 w_119 => callS Tryz.prog 170 #[t173_1] (fun t174 w_120 => k_32 t174 w_120) w_119) (fun t174_1 w_121 => 
 pur Tryz.prog (pickS t168 t174_1 (.bool false)) fun t175 => 
 gd t175 true (fun k_33 w_122 => k_33 t104 w_122) (fun t177_1 w_123 => 
 gd t175 true (fun k_34 w_124 => callS Tryz.prog 171 #[t177_1] (fun t178 w_125 => k_34 t178 w_125) w_124) (fun t178_1 w_126 => 
 pur Tryz.prog (pickS t175 t178_1 (.bool false)) fun t179 => 
 gd t179 true (fun k_35 w_127 => k_35 v_b w_127) (fun t181_1 w_128 => 
 gd t179 true (fun k_36 w_129 => pur Tryz.prog (nilV t181_1) fun t182 => k_36 t182 w_129) (fun t182_1 w_130 => 
 gd t179 true (fun k_37 w_131 => pur Tryz.prog (Instr.fieldAt 54 t182_1 10) fun t183 => k_37 t183 w_131) (fun t183_1 w_132 => 
 gd t179 true (fun k_38 w_133 => rd Tryz.prog (Instr.loadAt 43 t183_1) (fun t184 => k_38 t184 w_133) w_133) (fun t184_1 w_134 => 
 gd t179 true (fun k_39 w_135 => callS Tryz.prog 171 #[t184_1] (fun t185 w_136 => k_39 t185 w_136) w_135) (fun t185_1 w_137 => 
 pur Tryz.prog (pickS t179 t185_1 (.bool false)) fun t186 => 
 gd t186 true (fun k_40 w_138 => k_40 t106 w_138) (fun t188_1 w_139 => 
 gd t186 true (fun k_41 w_140 => callS Tryz.prog 172 #[t188_1] (fun t189 w_141 => k_41 t189 w_141) w_140) (fun t189_1 w_142 => 
 pur Tryz.prog (pickS t186 t189_1 (.bool false)) fun t190 => 
 gd t190 true (fun k_42 w_143 => k_42 v_b w_143) (fun t192_1 w_144 => 
 gd t190 true (fun k_43 w_145 => pur Tryz.prog (nilV t192_1) fun t193 => k_43 t193 w_145) (fun t193_1 w_146 => 
 gd t190 true (fun k_44 w_147 => pur Tryz.prog (Instr.fieldAt 54 t193_1 12) fun t194 => k_44 t194 w_147) (fun t194_1 w_148 => 
 gd t190 true (fun k_45 w_149 => rd Tryz.prog (Instr.loadAt 44 t194_1) (fun t195 => k_45 t195 w_149) w_149) (fun t195_1 w_150 => 
 gd t190 true (fun k_46 w_151 => callS Tryz.prog 172 #[t195_1] (fun t196 w_152 => k_46 t196 w_152) w_151) (fun t196_1 w_153 => 
 pur Tryz.prog (pickS t190 t196_1 (.bool false)) fun t197 => 
 gd t197 true (fun k_47 w_154 => k_47 t108 w_154) (fun t199_1 w_155 => 
 gd t197 true (fun k_48 w_156 => callS Tryz.prog 173 #[t199_1] (fun t200 w_157 => k_48 t200 w_157) w_156) (fun t200_1 w_158 => 
 pur Tryz.prog (pickS t197 t200_1 (.bool false)) fun t201 => 
 gd t201 true (fun k_49 w_159 => k_49 v_b w_159) (fun t203_1 w_160 => 
 gd t201 true (fun k_50 w_161 => pur Tryz.prog (nilV t203_1) fun t204 => k_50 t204 w_161) (fun t204_1 w_162 => 
 gd t201 true (fun k_51 w_163 => pur Tryz.prog (Instr.fieldAt 54 t204_1 14) fun t205 => k_51 t205 w_163) (fun t205_1 w_164 => 
 gd t201 true (fun k_52 w_165 => rd Tryz.prog (Instr.loadAt 45 t205_1) (fun t206 => k_52 t206 w_165) w_165) (fun t206_1 w_166 => 
 gd t201 true (fun k_53 w_167 => callS Tryz.prog 173 #[t206_1] (fun t207 w_168 => k_53 t207 w_168) w_167) (fun t207_1 w_169 => 
 pur Tryz.prog (pickS t201 t207_1 (.bool false)) fun t208 => 
 gd t208 true (fun k_54 w_170 => k_54 t110 w_170) (fun t210_1 w_171 => 
 gd t208 true (fun k_55 w_172 => callS Tryz.prog 174 #[t210_1] (fun t211 w_173 => k_55 t211 w_173) w_172) (fun t211_1 w_174 => 
 pur Tryz.prog (pickS t208 t211_1 (.bool false)) fun t212 => 
 gd t212 true (fun k_56 w_175 => k_56 v_b w_175) (fun t214_1 w_176 => 
 gd t212 true (fun k_57 w_177 => pur Tryz.prog (nilV t214_1) fun t215 => k_57 t215 w_177) (fun t215_1 w_178 => 
 gd t212 true (fun k_58 w_179 => pur Tryz.prog (Instr.fieldAt 54 t215_1 16) fun t216 => k_58 t216 w_179) (fun t216_1 w_180 => 
 gd t212 true (fun k_59 w_181 => rd Tryz.prog (Instr.loadAt 46 t216_1) (fun t217 => k_59 t217 w_181) w_181) (fun t217_1 w_182 => 
 gd t212 true (fun k_60 w_183 => callS Tryz.prog 174 #[t217_1] (fun t218 w_184 => k_60 t218 w_184) w_183) (fun t218_1 w_185 => 
 pur Tryz.prog (pickS t212 t218_1 (.bool false)) fun t219 => 
 gd t219 true (fun k_61 w_186 => k_61 t112 w_186) (fun t221_1 w_187 => 
 gd t219 true (fun k_62 w_188 => callS Tryz.prog 175 #[t221_1] (fun t222 w_189 => k_62 t222 w_189) w_188) (fun t222_1 w_190 => 
 pur Tryz.prog (pickS t219 t222_1 (.bool false)) fun t223 => 
 gd t223 true (fun k_63 w_191 => k_63 v_b w_191) (fun t225_1 w_192 => 
 gd t223 true (fun k_64 w_193 => pur Tryz.prog (nilV t225_1) fun t226 => k_64 t226 w_193) (fun t226_1 w_194 => 
 gd t223 true (fun k_65 w_195 => pur Tryz.prog (Instr.fieldAt 54 t226_1 18) fun t227 => k_65 t227 w_195) (fun t227_1 w_196 => 
 gd t223 true (fun k_66 w_197 => rd Tryz.prog (Instr.loadAt 47 t227_1) (fun t228 => k_66 t228 w_197) w_197) (fun t228_1 w_198 => 
 gd t223 true (fun k_67 w_199 => callS Tryz.prog 175 #[t228_1] (fun t229 w_200 => k_67 t229 w_200) w_199) (fun t229_1 w_201 => 
 pur Tryz.prog (pickS t223 t229_1 (.bool false)) fun t230 => 
 gd t230 true (fun k_68 w_202 => k_68 t114 w_202) (fun t232_1 w_203 => 
 gd t230 true (fun k_69 w_204 => callS Tryz.prog 176 #[t232_1] (fun t233 w_205 => k_69 t233 w_205) w_204) (fun t233_1 w_206 => 
 pur Tryz.prog (pickS t230 t233_1 (.bool false)) fun t234 => 
 gd t234 true (fun k_70 w_207 => k_70 v_b w_207) (fun t236_1 w_208 => 
 gd t234 true (fun k_71 w_209 => pur Tryz.prog (nilV t236_1) fun t237 => k_71 t237 w_209) (fun t237_1 w_210 => 
 gd t234 true (fun k_72 w_211 => pur Tryz.prog (Instr.fieldAt 54 t237_1 20) fun t238 => k_72 t238 w_211) (fun t238_1 w_212 => 
 gd t234 true (fun k_73 w_213 => rd Tryz.prog (Instr.loadAt 48 t238_1) (fun t239 => k_73 t239 w_213) w_213) (fun t239_1 w_214 => 
 gd t234 true (fun k_74 w_215 => callS Tryz.prog 176 #[t239_1] (fun t240 w_216 => k_74 t240 w_216) w_215) (fun t240_1 w_217 => 
 pur Tryz.prog (pickS t234 t240_1 (.bool false)) fun t241 => 
 gd t241 true (fun k_75 w_218 => k_75 t116 w_218) (fun t243_1 w_219 => 
 gd t241 true (fun k_76 w_220 => callS Tryz.prog 177 #[t243_1] (fun t244 w_221 => k_76 t244 w_221) w_220) (fun t244_1 w_222 => 
 pur Tryz.prog (pickS t241 t244_1 (.bool false)) fun t245 => 
 gd t245 true (fun k_77 w_223 => k_77 v_b w_223) (fun t247_1 w_224 => 
 gd t245 true (fun k_78 w_225 => pur Tryz.prog (nilV t247_1) fun t248 => k_78 t248 w_225) (fun t248_1 w_226 => 
 gd t245 true (fun k_79 w_227 => pur Tryz.prog (Instr.fieldAt 54 t248_1 22) fun t249 => k_79 t249 w_227) (fun t249_1 w_228 => 
 gd t245 true (fun k_80 w_229 => rd Tryz.prog (Instr.loadAt 49 t249_1) (fun t250 => k_80 t250 w_229) w_229) (fun t250_1 w_230 => 
 gd t245 true (fun k_81 w_231 => callS Tryz.prog 177 #[t250_1] (fun t251 w_232 => k_81 t251 w_232) w_231) (fun t251_1 w_233 => 
 pur Tryz.prog (pickS t245 t251_1 (.bool false)) fun t252 => 
 gd t252 true (fun k_82 w_234 => k_82 t118 w_234) (fun t254_1 w_235 => 
 gd t252 true (fun k_83 w_236 => callS Tryz.prog 178 #[t254_1] (fun t255 w_237 => k_83 t255 w_237) w_236) (fun t255_1 w_238 => 
 pur Tryz.prog (pickS t252 t255_1 (.bool false)) fun t256 => 
 gd t256 true (fun k_84 w_239 => k_84 v_b w_239) (fun t258_1 w_240 => 
 gd t256 true (fun k_85 w_241 => pur Tryz.prog (nilV t258_1) fun t259 => k_85 t259 w_241) (fun t259_1 w_242 => 
 gd t256 true (fun k_86 w_243 => pur Tryz.prog (Instr.fieldAt 54 t259_1 24) fun t260 => k_86 t260 w_243) (fun t260_1 w_244 => 
 gd t256 true (fun k_87 w_245 => rd Tryz.prog (Instr.loadAt 50 t260_1) (fun t261 => k_87 t261 w_245) w_245) (fun t261_1 w_246 => 
 gd t256 true (fun k_88 w_247 => callS Tryz.prog 178 #[t261_1] (fun t262 w_248 => k_88 t262 w_248) w_247) (fun t262_1 w_249 => 
 pur Tryz.prog (pickS t256 t262_1 (.bool false)) fun t263 => 
 gd t263 true (fun k_89 w_250 => k_89 t120 w_250) (fun t265_1 w_251 => 
 gd t263 true (fun k_90 w_252 => callS Tryz.prog 179 #[t265_1] (fun t266 w_253 => k_90 t266 w_253) w_252) (fun t266_1 w_254 => 
 pur Tryz.prog (pickS t263 t266_1 (.bool false)) fun t267 => 
 gd t267 true (fun k_91 w_255 => k_91 v_b w_255) (fun t269_1 w_256 => 
 gd t267 true (fun k_92 w_257 => pur Tryz.prog (nilV t269_1) fun t270 => k_92 t270 w_257) (fun t270_1 w_258 => 
 gd t267 true (fun k_93 w_259 => pur Tryz.prog (Instr.fieldAt 54 t270_1 26) fun t271 => k_93 t271 w_259) (fun t271_1 w_260 => 
 gd t267 true (fun k_94 w_261 => rd Tryz.prog (Instr.loadAt 51 t271_1) (fun t272 => k_94 t272 w_261) w_261) (fun t272_1 w_262 => 
 gd t267 true (fun k_95 w_263 => callS Tryz.prog 179 #[t272_1] (fun t273 w_264 => k_95 t273 w_264) w_263) (fun t273_1 w_265 => 
 pur Tryz.prog (pickS t267 t273_1 (.bool false)) fun t274 => 
 gd t274 true (fun k_96 w_266 => k_96 t122 w_266) (fun t276_1 w_267 => 
 gd t274 true (fun k_97 w_268 => callS Tryz.prog 180 #[t276_1] (fun t277 w_269 => k_97 t277 w_269) w_268) (fun t277_1 w_270 => 
 pur Tryz.prog (pickS t274 t277_1 (.bool false)) fun t278 => 
 gd t278 true (fun k_98 w_271 => k_98 v_b w_271) (fun t280_1 w_272 => 
 gd t278 true (fun k_99 w_273 => pur Tryz.prog (nilV t280_1) fun t281 => k_99 t281 w_273) (fun t281_1 w_274 => 
 gd t278 true (fun k_100 w_275 => pur Tryz.prog (Instr.fieldAt 54 t281_1 28) fun t282 => k_100 t282 w_275) (fun t282_1 w_276 => 
 gd t278 true (fun k_101 w_277 => rd Tryz.prog (Instr.loadAt 52 t282_1) (fun t283 => k_101 t283 w_277) w_277) (fun t283_1 w_278 => 
 gd t278 true (fun k_102 w_279 => callS Tryz.prog 180 #[t283_1] (fun t284 w_280 => k_102 t284 w_280) w_279) (fun t284_1 w_281 => 
 pur Tryz.prog (pickS t278 t284_1 (.bool false)) fun t285 => 
 Q t285 w_281) w_278) w_276) w_274) w_272) w_270) w_267) w_265) w_262) w_260) w_258) w_256) w_254) w_251) w_249) w_246) w_244) w_242) w_240) w_238) w_235) w_233) w_230) w_228) w_226) w_224) w_222) w_219) w_217) w_214) w_212) w_210) w_208) w_206) w_203) w_201) w_198) w_196) w_194) w_192) w_190) w_187) w_185) w_182) w_180) w_178) w_176) w_174) w_171) w_169) w_166) w_164) w_162) w_160) w_158) w_155) w_153) w_150) w_148) w_146) w_144) w_142) w_139) w_137) w_134) w_132) w_130) w_128) w_126) w_123) w_121) w_118) w_116) w_114) w_112) w_110) w_107) w_105) w_102) w_100) w_98) w_96) w_94) w_91) w_89) w_86) w_84) w_82) w_80) w_78) w_75) w_73) w_70) w_68) w_66) w_64) w_62) w_59) w_57) w_54) w_52) w_50) w_48) w_46) w_45) w_44) w_43) w_42) w_41) w_40) w_39) w_38) w_37) w_36) w_35) w_34) w_33) w_32) w_31) w_30) w_29) w_28) w_27) w_26) w_25) w_24) w_23) w_22) w_21) w_20) w_19) w_18) w_17) w_16) w_15)) w_14)) w_13)) w_12)) w_11)) w_10)) w_9)) w_8)) w_7)) w_6)) w_5)) w_4)) w_3)) w_2)) w_1)) w
theorem eq30 (v_b : Value) (Q : Value → World → Prop) (w : World) : semF Tryz.prog 30 [v_b] Q w = S30 v_b Q w := by kernel_rfl
theorem ref30 {v_b : Value} {Q : Value → World → Prop} {w : World} (h : S30 v_b Q w) : callS Tryz.prog 30 #[v_b] Q w :=
  callS_of mix (fun a w => Tryz.call30 a w) (by kernel_rfl) (by rw [eq30]; exact h)
-- commons/commonsbook.SameSpans
def S58 (v_a v_b : Value) (Q : Value → World → Prop) (w : World) : Prop :=
 pur Tryz.prog (Builtin.len_ #[90] 3 #[v_a]) fun t7 => 
 pur Tryz.prog (Builtin.len_ #[90] 3 #[v_b]) fun t9 => 
 pur Tryz.prog (binS .neq 3 false false t7 t9) fun t10 => 
 condS t10
  (Q (.bool false) w)
  (lp 1 (fun J => fun v_i w_1 => ∀ _j : Fr, 
  pur Tryz.prog (Builtin.len_ #[90] 3 #[v_a]) fun t13 => 
  pur Tryz.prog (binS .lss 3 false false v_i t13) fun t14 => 
  condS t14
   (pur Tryz.prog (Instr.indexAt 90 v_a v_i) fun t19 => 
  rd Tryz.prog (Instr.loadAt 92 t19) (fun t20 => 
  pur Tryz.prog (Instr.indexAt 90 v_b v_i) fun t23 => 
  rd Tryz.prog (Instr.loadAt 92 t23) (fun t24 => 
  rd Tryz.prog (binS .eql 92 false false t20 t24) (fun t25 => 
  pur Tryz.prog (Op.unary .not t25) fun t26 => 
  condS t26
   (Q (.bool false) (World.drew w_1))
   (pur Tryz.prog (binS .add 3 false true v_i (.int .i64 1)) fun t16 => 
  J t16 (World.drew w_1))) (World.drew w_1)) (World.drew w_1)) (World.drew w_1))
   (Q (.bool true) w_1)) [(.int .i64 0)] w)
theorem eq58 (v_a v_b : Value) (Q : Value → World → Prop) (w : World) : semF Tryz.prog 58 [v_a, v_b] Q w = S58 v_a v_b Q w := by kernel_rfl
theorem ref58 {v_a v_b : Value} {Q : Value → World → Prop} {w : World} (h : S58 v_a v_b Q w) : callS Tryz.prog 58 #[v_a, v_b] Q w :=
  callS_of mix (fun a w => Tryz.call58 a w) (by kernel_rfl) (by rw [eq58]; exact h)
-- commons/commonsbook.SameLocks
def S89 (v_a v_b : Value) (Q : Value → World → Prop) (w : World) : Prop :=
 pur Tryz.prog (Builtin.len_ #[129] 3 #[v_a]) fun t7 => 
 pur Tryz.prog (Builtin.len_ #[129] 3 #[v_b]) fun t9 => 
 pur Tryz.prog (binS .neq 3 false false t7 t9) fun t10 => 
 condS t10
  (Q (.bool false) w)
  (lp 1 (fun J => fun v_i w_1 => ∀ _j : Fr, 
  pur Tryz.prog (Builtin.len_ #[129] 3 #[v_a]) fun t13 => 
  pur Tryz.prog (binS .lss 3 false false v_i t13) fun t14 => 
  condS t14
   (pur Tryz.prog (Instr.indexAt 129 v_a v_i) fun t19 => 
  rd Tryz.prog (Instr.loadAt 148 t19) (fun t20 => 
  pur Tryz.prog (Instr.indexAt 129 v_b v_i) fun t23 => 
  rd Tryz.prog (Instr.loadAt 148 t23) (fun t24 => 
  rd Tryz.prog (binS .eql 148 false false t20 t24) (fun t25 => 
  pur Tryz.prog (Op.unary .not t25) fun t26 => 
  condS t26
   (Q (.bool false) (World.drew w_1))
   (pur Tryz.prog (binS .add 3 false true v_i (.int .i64 1)) fun t16 => 
  J t16 (World.drew w_1))) (World.drew w_1)) (World.drew w_1)) (World.drew w_1))
   (Q (.bool true) w_1)) [(.int .i64 0)] w)
theorem eq89 (v_a v_b : Value) (Q : Value → World → Prop) (w : World) : semF Tryz.prog 89 [v_a, v_b] Q w = S89 v_a v_b Q w := by kernel_rfl
theorem ref89 {v_a v_b : Value} {Q : Value → World → Prop} {w : World} (h : S89 v_a v_b Q w) : callS Tryz.prog 89 #[v_a, v_b] Q w :=
  callS_of mix (fun a w => Tryz.call89 a w) (by kernel_rfl) (by rw [eq89]; exact h)
-- commons/commonsbook.SameImages
def S114 (v_a v_b : Value) (Q : Value → World → Prop) (w : World) : Prop :=
 pur Tryz.prog (Builtin.len_ #[150] 3 #[v_a]) fun t7 => 
 pur Tryz.prog (Builtin.len_ #[150] 3 #[v_b]) fun t9 => 
 pur Tryz.prog (binS .neq 3 false false t7 t9) fun t10 => 
 condS t10
  (Q (.bool false) w)
  (lp 1 (fun J => fun v_i w_1 => ∀ _j : Fr, 
  pur Tryz.prog (Builtin.len_ #[150] 3 #[v_a]) fun t13 => 
  pur Tryz.prog (binS .lss 3 false false v_i t13) fun t14 => 
  condS t14
   (pur Tryz.prog (Instr.indexAt 150 v_a v_i) fun t19 => 
  rd Tryz.prog (Instr.loadAt 162 t19) (fun t20 => 
  pur Tryz.prog (Instr.indexAt 150 v_b v_i) fun t23 => 
  rd Tryz.prog (Instr.loadAt 162 t23) (fun t24 => 
  rd Tryz.prog (binS .eql 162 false false t20 t24) (fun t25 => 
  pur Tryz.prog (Op.unary .not t25) fun t26 => 
  condS t26
   (Q (.bool false) (World.drew w_1))
   (pur Tryz.prog (binS .add 3 false true v_i (.int .i64 1)) fun t16 => 
  J t16 (World.drew w_1))) (World.drew w_1)) (World.drew w_1)) (World.drew w_1))
   (Q (.bool true) w_1)) [(.int .i64 0)] w)
theorem eq114 (v_a v_b : Value) (Q : Value → World → Prop) (w : World) : semF Tryz.prog 114 [v_a, v_b] Q w = S114 v_a v_b Q w := by kernel_rfl
theorem ref114 {v_a v_b : Value} {Q : Value → World → Prop} {w : World} (h : S114 v_a v_b Q w) : callS Tryz.prog 114 #[v_a, v_b] Q w :=
  callS_of mix (fun a w => Tryz.call114 a w) (by kernel_rfl) (by rw [eq114]; exact h)
-- (*commons/lru.Cache[int, int]).find
def S115 (v_c v_k : Value) (Q : Value → World → Prop) (w : World) : Prop :=
 rd Tryz.prog (binS .eql 24 false true v_c (.pointer none)) (fun t6 => 
 condS t6
  (Q (.pointer none) w)
  (pur Tryz.prog (nilV v_c) fun t8 => 
 pur Tryz.prog (Instr.fieldAt 36 t8 0) fun t9 => 
 rd Tryz.prog (Instr.loadAt 31 t9) (fun t10 => 
 rd Tryz.prog (Instr.lookup 31 t10 v_k false) (fun t12 => 
 Q t12 w) w) w)) w
theorem eq115 (v_c v_k : Value) (Q : Value → World → Prop) (w : World) : semF Tryz.prog 115 [v_c, v_k] Q w = S115 v_c v_k Q w := by kernel_rfl
theorem ref115 {v_c v_k : Value} {Q : Value → World → Prop} {w : World} (h : S115 v_c v_k Q w) : callS Tryz.prog 115 #[v_c, v_k] Q w :=
  callS_of mix (fun a w => Tryz.call115 a w) (by kernel_rfl) (by rw [eq115]; exact h)
-- (*commons/lru.Cache[int, int]).use
def S116 (v_c v_x : Value) (Q : Value → World → Prop) (w : World) : Prop :=
 callS Tryz.prog 118 #[v_x] (fun _ w_1 => 
 callS Tryz.prog 119 #[v_c, v_x] (fun _ w_2 => 
 Q (.tuple #[]) w_2) w_1) w
theorem eq116 (v_c v_x : Value) (Q : Value → World → Prop) (w : World) : semF Tryz.prog 116 [v_c, v_x] Q w = S116 v_c v_x Q w := by kernel_rfl
theorem ref116 {v_c v_x : Value} {Q : Value → World → Prop} {w : World} (h : S116 v_c v_x Q w) : callS Tryz.prog 116 #[v_c, v_x] Q w :=
  callS_of mix (fun a w => Tryz.call116 a w) (by kernel_rfl) (by rw [eq116]; exact h)
-- (*commons/lru.Cache[int, int]).idle
def S117 (v_c : Value) (Q : Value → World → Prop) (w : World) : Prop :=
 pur Tryz.prog (nilV v_c) fun t5 => 
 pur Tryz.prog (Instr.fieldAt 36 t5 1) fun t6 => 
 pur Tryz.prog (Instr.fieldAt 34 t6 3) fun t7 => 
 rd Tryz.prog (Instr.loadAt 32 t7) (fun t8 => 
 lp 1 (fun J => fun v_x w_1 => ∀ _j : Fr, 
  pur Tryz.prog (nilV v_c) fun t11 => 
  pur Tryz.prog (Instr.fieldAt 36 t11 1) fun t12 => 
  rd Tryz.prog (binS .neq 32 false false v_x t12) (fun t13 => 
  condS t13
   (pur Tryz.prog (nilV v_x) fun t19 => 
  pur Tryz.prog (Instr.fieldAt 34 t19 2) fun t20 => 
  rd Tryz.prog (Instr.loadAt 3 t20) (fun t21 => 
  pur Tryz.prog (binS .eql 3 false true t21 (.int .i64 0)) fun t22 => 
  condS t22
   (Q v_x w_1)
   (pur Tryz.prog (nilV v_x) fun t15 => 
  pur Tryz.prog (Instr.fieldAt 34 t15 3) fun t16 => 
  rd Tryz.prog (Instr.loadAt 32 t16) (fun t17 => 
  J t17 w_1) w_1)) w_1)
   (Q (.pointer none) w_1)) w_1) [t8] w) w
theorem eq117 (v_c : Value) (Q : Value → World → Prop) (w : World) : semF Tryz.prog 117 [v_c] Q w = S117 v_c Q w := by kernel_rfl
theorem ref117 {v_c : Value} {Q : Value → World → Prop} {w : World} (h : S117 v_c Q w) : callS Tryz.prog 117 #[v_c] Q w :=
  callS_of mix (fun a w => Tryz.call117 a w) (by kernel_rfl) (by rw [eq117]; exact h)
-- (*commons/lru.node[int, int]).off
def S118 (v_x : Value) (Q : Value → World → Prop) (w : World) : Prop :=
 pur Tryz.prog (nilV v_x) fun t3 => 
 pur Tryz.prog (Instr.fieldAt 34 t3 3) fun t4 => 
 rd Tryz.prog (Instr.loadAt 32 t4) (fun t5 => 
 pur Tryz.prog (nilV v_x) fun t7 => 
 pur Tryz.prog (Instr.fieldAt 34 t7 4) fun t8 => 
 rd Tryz.prog (Instr.loadAt 32 t8) (fun t9 => 
 pur Tryz.prog (nilV v_x) fun t11 => 
 pur Tryz.prog (Instr.fieldAt 34 t11 4) fun t12 => 
 rd Tryz.prog (Instr.loadAt 32 t12) (fun t13 => 
 pur Tryz.prog (nilV v_x) fun t15 => 
 pur Tryz.prog (Instr.fieldAt 34 t15 3) fun t16 => 
 rd Tryz.prog (Instr.loadAt 32 t16) (fun t17 => 
 pur Tryz.prog (nilV t5) fun t18 => 
 pur Tryz.prog (Instr.fieldAt 34 t18 4) fun t19 => 
 act Tryz.prog (thenU (Instr.storeAt 32 t19 t13)) (fun _ w_1 => 
 pur Tryz.prog (nilV t9) fun t20 => 
 pur Tryz.prog (Instr.fieldAt 34 t20 3) fun t21 => 
 act Tryz.prog (thenU (Instr.storeAt 32 t21 t17)) (fun _ w_2 => 
 Q (.tuple #[]) w_2) w_1) (World.drew w)) (World.drew w)) (World.drew w)) (World.drew w)) (World.drew w)
theorem eq118 (v_x : Value) (Q : Value → World → Prop) (w : World) : semF Tryz.prog 118 [v_x] Q w = S118 v_x Q w := by kernel_rfl
theorem ref118 {v_x : Value} {Q : Value → World → Prop} {w : World} (h : S118 v_x Q w) : callS Tryz.prog 118 #[v_x] Q w :=
  callS_of mix (fun a w => Tryz.call118 a w) (by kernel_rfl) (by rw [eq118]; exact h)
-- (*commons/lru.Cache[int, int]).first
def S119 (v_c v_x : Value) (Q : Value → World → Prop) (w : World) : Prop :=
 pur Tryz.prog (nilV v_c) fun t7 => 
 pur Tryz.prog (Instr.fieldAt 36 t7 1) fun t8 => 
 pur Tryz.prog (nilV v_c) fun t10 => 
 pur Tryz.prog (Instr.fieldAt 36 t10 1) fun t11 => 
 pur Tryz.prog (Instr.fieldAt 34 t11 4) fun t12 => 
 rd Tryz.prog (Instr.loadAt 32 t12) (fun t13 => 
 pur Tryz.prog (nilV v_x) fun t14 => 
 pur Tryz.prog (Instr.fieldAt 34 t14 3) fun t15 => 
 act Tryz.prog (thenU (Instr.storeAt 32 t15 t8)) (fun _ w_1 => 
 pur Tryz.prog (nilV v_x) fun t16 => 
 pur Tryz.prog (Instr.fieldAt 34 t16 4) fun t17 => 
 act Tryz.prog (thenU (Instr.storeAt 32 t17 t13)) (fun _ w_2 => 
 pur Tryz.prog (nilV v_x) fun t19 => 
 pur Tryz.prog (Instr.fieldAt 34 t19 3) fun t20 => 
 rd Tryz.prog (Instr.loadAt 32 t20) (fun t21 => 
 pur Tryz.prog (nilV v_x) fun t23 => 
 pur Tryz.prog (Instr.fieldAt 34 t23 4) fun t24 => 
 rd Tryz.prog (Instr.loadAt 32 t24) (fun t25 => 
 pur Tryz.prog (nilV t21) fun t28 => 
 pur Tryz.prog (Instr.fieldAt 34 t28 4) fun t29 => 
 act Tryz.prog (thenU (Instr.storeAt 32 t29 v_x)) (fun _ w_3 => 
 pur Tryz.prog (nilV t25) fun t30 => 
 pur Tryz.prog (Instr.fieldAt 34 t30 3) fun t31 => 
 act Tryz.prog (thenU (Instr.storeAt 32 t31 v_x)) (fun _ w_4 => 
 Q (.tuple #[]) w_4) w_3) (World.drew w_2)) (World.drew w_2)) (World.drew w_2)) w_1) (World.drew w)) (World.drew w)
theorem eq119 (v_c v_x : Value) (Q : Value → World → Prop) (w : World) : semF Tryz.prog 119 [v_c, v_x] Q w = S119 v_c v_x Q w := by kernel_rfl
theorem ref119 {v_c v_x : Value} {Q : Value → World → Prop} {w : World} (h : S119 v_c v_x Q w) : callS Tryz.prog 119 #[v_c, v_x] Q w :=
  callS_of mix (fun a w => Tryz.call119 a w) (by kernel_rfl) (by rw [eq119]; exact h)
-- commons/commonsbook.copyInts
def S120 (v_l : Value) (Q : Value → World → Prop) (w : World) : Prop :=
 act Tryz.prog (Builtin.append_ #[65, 65] 65 #[(.slice none 0 0), v_l]) (fun t4 w_1 => 
 Q t4 w_1) w
theorem eq120 (v_l : Value) (Q : Value → World → Prop) (w : World) : semF Tryz.prog 120 [v_l] Q w = S120 v_l Q w := by kernel_rfl
theorem ref120 {v_l : Value} {Q : Value → World → Prop} {w : World} (h : S120 v_l Q w) : callS Tryz.prog 120 #[v_l] Q w :=
  callS_of mix (fun a w => Tryz.call120 a w) (by kernel_rfl) (by rw [eq120]; exact h)
-- (*commons/commonsbook.Book).stillTexts
def S121 (v_b : Value) (Q : Value → World → Prop) (w : World) : Prop :=
 lp 1 (fun J => fun v_i w_1 => ∀ _j : Fr, 
  pur Tryz.prog (nilV v_b) fun t6 => 
  pur Tryz.prog (Instr.fieldAt 54 t6 0) fun t7 => 
  rd Tryz.prog (Instr.loadAt 38 t7) (fun t8 => 
  pur Tryz.prog (Builtin.len_ #[38] 3 #[t8]) fun t9 => 
  pur Tryz.prog (binS .lss 3 false false v_i t9) fun t10 => 
  condS t10
   (pur Tryz.prog (nilV v_b) fun t14 => 
  pur Tryz.prog (Instr.fieldAt 54 t14 0) fun t15 => 
  rd Tryz.prog (Instr.loadAt 38 t15) (fun t16 => 
  pur Tryz.prog (Instr.indexAt 38 t16 v_i) fun t18 => 
  rd Tryz.prog (Instr.loadAt 243 t18) (fun t19 => 
  pur Tryz.prog (nilV v_b) fun t21 => 
  pur Tryz.prog (Instr.fieldAt 54 t21 1) fun t22 => 
  rd Tryz.prog (Instr.loadAt 38 t22) (fun t23 => 
  pur Tryz.prog (Instr.indexAt 38 t23 v_i) fun t25 => 
  rd Tryz.prog (Instr.loadAt 243 t25) (fun t26 => 
  callS Tryz.prog 217 #[t19, t26] (fun t27 w_2 => 
  pur Tryz.prog (Op.unary .not t27) fun t28 => 
  condS t28
   (Q (.bool false) w_2)
   (pur Tryz.prog (binS .add 3 false true v_i (.int .i64 1)) fun t12 => 
  J t12 w_2)) (World.drew w_1)) (World.drew w_1)) (World.drew w_1)) (World.drew w_1)) (World.drew w_1))
   (Q (.bool true) w_1)) w_1) [(.int .i64 0)] w
theorem eq121 (v_b : Value) (Q : Value → World → Prop) (w : World) : semF Tryz.prog 121 [v_b] Q w = S121 v_b Q w := by kernel_rfl
theorem ref121 {v_b : Value} {Q : Value → World → Prop} {w : World} (h : S121 v_b Q w) : callS Tryz.prog 121 #[v_b] Q w :=
  callS_of mix (fun a w => Tryz.call121 a w) (by kernel_rfl) (by rw [eq121]; exact h)
-- (*commons/commonsbook.Book).stillInts
def S122 (v_b : Value) (Q : Value → World → Prop) (w : World) : Prop :=
 lp 1 (fun J => fun v_i w_1 => ∀ _j : Fr, 
  pur Tryz.prog (nilV v_b) fun t6 => 
  pur Tryz.prog (Instr.fieldAt 54 t6 2) fun t7 => 
  rd Tryz.prog (Instr.loadAt 39 t7) (fun t8 => 
  pur Tryz.prog (Builtin.len_ #[39] 3 #[t8]) fun t9 => 
  pur Tryz.prog (binS .lss 3 false false v_i t9) fun t10 => 
  condS t10
   (pur Tryz.prog (nilV v_b) fun t14 => 
  pur Tryz.prog (Instr.fieldAt 54 t14 2) fun t15 => 
  rd Tryz.prog (Instr.loadAt 39 t15) (fun t16 => 
  pur Tryz.prog (Instr.indexAt 39 t16 v_i) fun t18 => 
  rd Tryz.prog (Instr.loadAt 65 t18) (fun t19 => 
  pur Tryz.prog (nilV v_b) fun t21 => 
  pur Tryz.prog (Instr.fieldAt 54 t21 3) fun t22 => 
  rd Tryz.prog (Instr.loadAt 39 t22) (fun t23 => 
  pur Tryz.prog (Instr.indexAt 39 t23 v_i) fun t25 => 
  rd Tryz.prog (Instr.loadAt 65 t25) (fun t26 => 
  callS Tryz.prog 27 #[t19, t26] (fun t27 w_2 => 
  pur Tryz.prog (Op.unary .not t27) fun t28 => 
  condS t28
   (Q (.bool false) w_2)
   (pur Tryz.prog (binS .add 3 false true v_i (.int .i64 1)) fun t12 => 
  J t12 w_2)) (World.drew w_1)) (World.drew w_1)) (World.drew w_1)) (World.drew w_1)) (World.drew w_1))
   (Q (.bool true) w_1)) w_1) [(.int .i64 0)] w
theorem eq122 (v_b : Value) (Q : Value → World → Prop) (w : World) : semF Tryz.prog 122 [v_b] Q w = S122 v_b Q w := by kernel_rfl
theorem ref122 {v_b : Value} {Q : Value → World → Prop} {w : World} (h : S122 v_b Q w) : callS Tryz.prog 122 #[v_b] Q w :=
  callS_of mix (fun a w => Tryz.call122 a w) (by kernel_rfl) (by rw [eq122]; exact h)
-- (*commons/commonsbook.Book).stillNums
def S123 (v_b : Value) (Q : Value → World → Prop) (w : World) : Prop :=
 lp 1 (fun J => fun v_i w_1 => ∀ _j : Fr, 
  pur Tryz.prog (nilV v_b) fun t6 => 
  pur Tryz.prog (Instr.fieldAt 54 t6 4) fun t7 => 
  rd Tryz.prog (Instr.loadAt 40 t7) (fun t8 => 
  pur Tryz.prog (Builtin.len_ #[40] 3 #[t8]) fun t9 => 
  pur Tryz.prog (binS .lss 3 false false v_i t9) fun t10 => 
  condS t10
   (pur Tryz.prog (nilV v_b) fun t14 => 
  pur Tryz.prog (Instr.fieldAt 54 t14 4) fun t15 => 
  rd Tryz.prog (Instr.loadAt 40 t15) (fun t16 => 
  pur Tryz.prog (Instr.indexAt 40 t16 v_i) fun t18 => 
  rd Tryz.prog (Instr.loadAt 245 t18) (fun t19 => 
  pur Tryz.prog (nilV v_b) fun t21 => 
  pur Tryz.prog (Instr.fieldAt 54 t21 5) fun t22 => 
  rd Tryz.prog (Instr.loadAt 40 t22) (fun t23 => 
  pur Tryz.prog (Instr.indexAt 40 t23 v_i) fun t25 => 
  rd Tryz.prog (Instr.loadAt 245 t25) (fun t26 => 
  callS Tryz.prog 218 #[t19, t26] (fun t27 w_2 => 
  pur Tryz.prog (Op.unary .not t27) fun t28 => 
  condS t28
   (Q (.bool false) w_2)
   (pur Tryz.prog (binS .add 3 false true v_i (.int .i64 1)) fun t12 => 
  J t12 w_2)) (World.drew w_1)) (World.drew w_1)) (World.drew w_1)) (World.drew w_1)) (World.drew w_1))
   (Q (.bool true) w_1)) w_1) [(.int .i64 0)] w
theorem eq123 (v_b : Value) (Q : Value → World → Prop) (w : World) : semF Tryz.prog 123 [v_b] Q w = S123 v_b Q w := by kernel_rfl
theorem ref123 {v_b : Value} {Q : Value → World → Prop} {w : World} (h : S123 v_b Q w) : callS Tryz.prog 123 #[v_b] Q w :=
  callS_of mix (fun a w => Tryz.call123 a w) (by kernel_rfl) (by rw [eq123]; exact h)
-- (*commons/commonsbook.Book).stillSpans
def S124 (v_b : Value) (Q : Value → World → Prop) (w : World) : Prop :=
 lp 1 (fun J => fun v_i w_1 => ∀ _j : Fr, 
  pur Tryz.prog (nilV v_b) fun t6 => 
  pur Tryz.prog (Instr.fieldAt 54 t6 6) fun t7 => 
  rd Tryz.prog (Instr.loadAt 41 t7) (fun t8 => 
  pur Tryz.prog (Builtin.len_ #[41] 3 #[t8]) fun t9 => 
  pur Tryz.prog (binS .lss 3 false false v_i t9) fun t10 => 
  condS t10
   (pur Tryz.prog (nilV v_b) fun t14 => 
  pur Tryz.prog (Instr.fieldAt 54 t14 6) fun t15 => 
  rd Tryz.prog (Instr.loadAt 41 t15) (fun t16 => 
  pur Tryz.prog (Instr.indexAt 41 t16 v_i) fun t18 => 
  rd Tryz.prog (Instr.loadAt 90 t18) (fun t19 => 
  pur Tryz.prog (nilV v_b) fun t21 => 
  pur Tryz.prog (Instr.fieldAt 54 t21 7) fun t22 => 
  rd Tryz.prog (Instr.loadAt 41 t22) (fun t23 => 
  pur Tryz.prog (Instr.indexAt 41 t23 v_i) fun t25 => 
  rd Tryz.prog (Instr.loadAt 90 t25) (fun t26 => 
  callS Tryz.prog 58 #[t19, t26] (fun t27 w_2 => 
  pur Tryz.prog (Op.unary .not t27) fun t28 => 
  condS t28
   (Q (.bool false) w_2)
   (pur Tryz.prog (binS .add 3 false true v_i (.int .i64 1)) fun t12 => 
  J t12 w_2)) (World.drew w_1)) (World.drew w_1)) (World.drew w_1)) (World.drew w_1)) (World.drew w_1))
   (Q (.bool true) w_1)) w_1) [(.int .i64 0)] w
theorem eq124 (v_b : Value) (Q : Value → World → Prop) (w : World) : semF Tryz.prog 124 [v_b] Q w = S124 v_b Q w := by kernel_rfl
theorem ref124 {v_b : Value} {Q : Value → World → Prop} {w : World} (h : S124 v_b Q w) : callS Tryz.prog 124 #[v_b] Q w :=
  callS_of mix (fun a w => Tryz.call124 a w) (by kernel_rfl) (by rw [eq124]; exact h)
-- (*commons/commonsbook.Book).stillLocks
def S125 (v_b : Value) (Q : Value → World → Prop) (w : World) : Prop :=
 lp 1 (fun J => fun v_i w_1 => ∀ _j : Fr, 
  pur Tryz.prog (nilV v_b) fun t6 => 
  pur Tryz.prog (Instr.fieldAt 54 t6 8) fun t7 => 
  rd Tryz.prog (Instr.loadAt 42 t7) (fun t8 => 
  pur Tryz.prog (Builtin.len_ #[42] 3 #[t8]) fun t9 => 
  pur Tryz.prog (binS .lss 3 false false v_i t9) fun t10 => 
  condS t10
   (pur Tryz.prog (nilV v_b) fun t14 => 
  pur Tryz.prog (Instr.fieldAt 54 t14 8) fun t15 => 
  rd Tryz.prog (Instr.loadAt 42 t15) (fun t16 => 
  pur Tryz.prog (Instr.indexAt 42 t16 v_i) fun t18 => 
  rd Tryz.prog (Instr.loadAt 129 t18) (fun t19 => 
  pur Tryz.prog (nilV v_b) fun t21 => 
  pur Tryz.prog (Instr.fieldAt 54 t21 9) fun t22 => 
  rd Tryz.prog (Instr.loadAt 42 t22) (fun t23 => 
  pur Tryz.prog (Instr.indexAt 42 t23 v_i) fun t25 => 
  rd Tryz.prog (Instr.loadAt 129 t25) (fun t26 => 
  callS Tryz.prog 89 #[t19, t26] (fun t27 w_2 => 
  pur Tryz.prog (Op.unary .not t27) fun t28 => 
  condS t28
   (Q (.bool false) w_2)
   (pur Tryz.prog (binS .add 3 false true v_i (.int .i64 1)) fun t12 => 
  J t12 w_2)) (World.drew w_1)) (World.drew w_1)) (World.drew w_1)) (World.drew w_1)) (World.drew w_1))
   (Q (.bool true) w_1)) w_1) [(.int .i64 0)] w
theorem eq125 (v_b : Value) (Q : Value → World → Prop) (w : World) : semF Tryz.prog 125 [v_b] Q w = S125 v_b Q w := by kernel_rfl
theorem ref125 {v_b : Value} {Q : Value → World → Prop} {w : World} (h : S125 v_b Q w) : callS Tryz.prog 125 #[v_b] Q w :=
  callS_of mix (fun a w => Tryz.call125 a w) (by kernel_rfl) (by rw [eq125]; exact h)
-- (*commons/commonsbook.Book).stillImages
def S126 (v_b : Value) (Q : Value → World → Prop) (w : World) : Prop :=
 lp 1 (fun J => fun v_i w_1 => ∀ _j : Fr, 
  pur Tryz.prog (nilV v_b) fun t6 => 
  pur Tryz.prog (Instr.fieldAt 54 t6 10) fun t7 => 
  rd Tryz.prog (Instr.loadAt 43 t7) (fun t8 => 
  pur Tryz.prog (Builtin.len_ #[43] 3 #[t8]) fun t9 => 
  pur Tryz.prog (binS .lss 3 false false v_i t9) fun t10 => 
  condS t10
   (pur Tryz.prog (nilV v_b) fun t14 => 
  pur Tryz.prog (Instr.fieldAt 54 t14 10) fun t15 => 
  rd Tryz.prog (Instr.loadAt 43 t15) (fun t16 => 
  pur Tryz.prog (Instr.indexAt 43 t16 v_i) fun t18 => 
  rd Tryz.prog (Instr.loadAt 150 t18) (fun t19 => 
  pur Tryz.prog (nilV v_b) fun t21 => 
  pur Tryz.prog (Instr.fieldAt 54 t21 11) fun t22 => 
  rd Tryz.prog (Instr.loadAt 43 t22) (fun t23 => 
  pur Tryz.prog (Instr.indexAt 43 t23 v_i) fun t25 => 
  rd Tryz.prog (Instr.loadAt 150 t25) (fun t26 => 
  callS Tryz.prog 114 #[t19, t26] (fun t27 w_2 => 
  pur Tryz.prog (Op.unary .not t27) fun t28 => 
  condS t28
   (Q (.bool false) w_2)
   (pur Tryz.prog (binS .add 3 false true v_i (.int .i64 1)) fun t12 => 
  J t12 w_2)) (World.drew w_1)) (World.drew w_1)) (World.drew w_1)) (World.drew w_1)) (World.drew w_1))
   (Q (.bool true) w_1)) w_1) [(.int .i64 0)] w
theorem eq126 (v_b : Value) (Q : Value → World → Prop) (w : World) : semF Tryz.prog 126 [v_b] Q w = S126 v_b Q w := by kernel_rfl
theorem ref126 {v_b : Value} {Q : Value → World → Prop} {w : World} (h : S126 v_b Q w) : callS Tryz.prog 126 #[v_b] Q w :=
  callS_of mix (fun a w => Tryz.call126 a w) (by kernel_rfl) (by rw [eq126]; exact h)
-- (*commons/commonsbook.Book).stillRecords
def S127 (v_b : Value) (Q : Value → World → Prop) (w : World) : Prop :=
 lp 1 (fun J => fun v_i w_1 => ∀ _j : Fr, 
  pur Tryz.prog (nilV v_b) fun t6 => 
  pur Tryz.prog (Instr.fieldAt 54 t6 12) fun t7 => 
  rd Tryz.prog (Instr.loadAt 44 t7) (fun t8 => 
  pur Tryz.prog (Builtin.len_ #[44] 3 #[t8]) fun t9 => 
  pur Tryz.prog (binS .lss 3 false false v_i t9) fun t10 => 
  condS t10
   (pur Tryz.prog (nilV v_b) fun t14 => 
  pur Tryz.prog (Instr.fieldAt 54 t14 12) fun t15 => 
  rd Tryz.prog (Instr.loadAt 44 t15) (fun t16 => 
  pur Tryz.prog (Instr.indexAt 44 t16 v_i) fun t18 => 
  rd Tryz.prog (Instr.loadAt 247 t18) (fun t19 => 
  pur Tryz.prog (nilV v_b) fun t21 => 
  pur Tryz.prog (Instr.fieldAt 54 t21 13) fun t22 => 
  rd Tryz.prog (Instr.loadAt 44 t22) (fun t23 => 
  pur Tryz.prog (Instr.indexAt 44 t23 v_i) fun t25 => 
  rd Tryz.prog (Instr.loadAt 247 t25) (fun t26 => 
  callS Tryz.prog 219 #[t19, t26] (fun t27 w_2 => 
  pur Tryz.prog (Op.unary .not t27) fun t28 => 
  condS t28
   (Q (.bool false) w_2)
   (pur Tryz.prog (binS .add 3 false true v_i (.int .i64 1)) fun t12 => 
  J t12 w_2)) (World.drew w_1)) (World.drew w_1)) (World.drew w_1)) (World.drew w_1)) (World.drew w_1))
   (Q (.bool true) w_1)) w_1) [(.int .i64 0)] w
theorem eq127 (v_b : Value) (Q : Value → World → Prop) (w : World) : semF Tryz.prog 127 [v_b] Q w = S127 v_b Q w := by kernel_rfl
theorem ref127 {v_b : Value} {Q : Value → World → Prop} {w : World} (h : S127 v_b Q w) : callS Tryz.prog 127 #[v_b] Q w :=
  callS_of mix (fun a w => Tryz.call127 a w) (by kernel_rfl) (by rw [eq127]; exact h)
-- (*commons/commonsbook.Book).stillPackets
def S128 (v_b : Value) (Q : Value → World → Prop) (w : World) : Prop :=
 lp 1 (fun J => fun v_i w_1 => ∀ _j : Fr, 
  pur Tryz.prog (nilV v_b) fun t6 => 
  pur Tryz.prog (Instr.fieldAt 54 t6 14) fun t7 => 
  rd Tryz.prog (Instr.loadAt 45 t7) (fun t8 => 
  pur Tryz.prog (Builtin.len_ #[45] 3 #[t8]) fun t9 => 
  pur Tryz.prog (binS .lss 3 false false v_i t9) fun t10 => 
  condS t10
   (pur Tryz.prog (nilV v_b) fun t14 => 
  pur Tryz.prog (Instr.fieldAt 54 t14 14) fun t15 => 
  rd Tryz.prog (Instr.loadAt 45 t15) (fun t16 => 
  pur Tryz.prog (Instr.indexAt 45 t16 v_i) fun t18 => 
  rd Tryz.prog (Instr.loadAt 249 t18) (fun t19 => 
  pur Tryz.prog (nilV v_b) fun t21 => 
  pur Tryz.prog (Instr.fieldAt 54 t21 15) fun t22 => 
  rd Tryz.prog (Instr.loadAt 45 t22) (fun t23 => 
  pur Tryz.prog (Instr.indexAt 45 t23 v_i) fun t25 => 
  rd Tryz.prog (Instr.loadAt 249 t25) (fun t26 => 
  callS Tryz.prog 220 #[t19, t26] (fun t27 w_2 => 
  pur Tryz.prog (Op.unary .not t27) fun t28 => 
  condS t28
   (Q (.bool false) w_2)
   (pur Tryz.prog (binS .add 3 false true v_i (.int .i64 1)) fun t12 => 
  J t12 w_2)) (World.drew w_1)) (World.drew w_1)) (World.drew w_1)) (World.drew w_1)) (World.drew w_1))
   (Q (.bool true) w_1)) w_1) [(.int .i64 0)] w
theorem eq128 (v_b : Value) (Q : Value → World → Prop) (w : World) : semF Tryz.prog 128 [v_b] Q w = S128 v_b Q w := by kernel_rfl
theorem ref128 {v_b : Value} {Q : Value → World → Prop} {w : World} (h : S128 v_b Q w) : callS Tryz.prog 128 #[v_b] Q w :=
  callS_of mix (fun a w => Tryz.call128 a w) (by kernel_rfl) (by rw [eq128]; exact h)
-- (*commons/commonsbook.Book).stillFrames
def S129 (v_b : Value) (Q : Value → World → Prop) (w : World) : Prop :=
 lp 1 (fun J => fun v_i w_1 => ∀ _j : Fr, 
  pur Tryz.prog (nilV v_b) fun t6 => 
  pur Tryz.prog (Instr.fieldAt 54 t6 16) fun t7 => 
  rd Tryz.prog (Instr.loadAt 46 t7) (fun t8 => 
  pur Tryz.prog (Builtin.len_ #[46] 3 #[t8]) fun t9 => 
  pur Tryz.prog (binS .lss 3 false false v_i t9) fun t10 => 
  condS t10
   (pur Tryz.prog (nilV v_b) fun t14 => 
  pur Tryz.prog (Instr.fieldAt 54 t14 16) fun t15 => 
  rd Tryz.prog (Instr.loadAt 46 t15) (fun t16 => 
  pur Tryz.prog (Instr.indexAt 46 t16 v_i) fun t18 => 
  rd Tryz.prog (Instr.loadAt 251 t18) (fun t19 => 
  pur Tryz.prog (nilV v_b) fun t21 => 
  pur Tryz.prog (Instr.fieldAt 54 t21 17) fun t22 => 
  rd Tryz.prog (Instr.loadAt 46 t22) (fun t23 => 
  pur Tryz.prog (Instr.indexAt 46 t23 v_i) fun t25 => 
  rd Tryz.prog (Instr.loadAt 251 t25) (fun t26 => 
  callS Tryz.prog 221 #[t19, t26] (fun t27 w_2 => 
  pur Tryz.prog (Op.unary .not t27) fun t28 => 
  condS t28
   (Q (.bool false) w_2)
   (pur Tryz.prog (binS .add 3 false true v_i (.int .i64 1)) fun t12 => 
  J t12 w_2)) (World.drew w_1)) (World.drew w_1)) (World.drew w_1)) (World.drew w_1)) (World.drew w_1))
   (Q (.bool true) w_1)) w_1) [(.int .i64 0)] w
theorem eq129 (v_b : Value) (Q : Value → World → Prop) (w : World) : semF Tryz.prog 129 [v_b] Q w = S129 v_b Q w := by kernel_rfl
theorem ref129 {v_b : Value} {Q : Value → World → Prop} {w : World} (h : S129 v_b Q w) : callS Tryz.prog 129 #[v_b] Q w :=
  callS_of mix (fun a w => Tryz.call129 a w) (by kernel_rfl) (by rw [eq129]; exact h)
-- (*commons/commonsbook.Book).stillWaits
def S130 (v_b : Value) (Q : Value → World → Prop) (w : World) : Prop :=
 lp 1 (fun J => fun v_i w_1 => ∀ _j : Fr, 
  pur Tryz.prog (nilV v_b) fun t6 => 
  pur Tryz.prog (Instr.fieldAt 54 t6 18) fun t7 => 
  rd Tryz.prog (Instr.loadAt 47 t7) (fun t8 => 
  pur Tryz.prog (Builtin.len_ #[47] 3 #[t8]) fun t9 => 
  pur Tryz.prog (binS .lss 3 false false v_i t9) fun t10 => 
  condS t10
   (pur Tryz.prog (nilV v_b) fun t14 => 
  pur Tryz.prog (Instr.fieldAt 54 t14 18) fun t15 => 
  rd Tryz.prog (Instr.loadAt 47 t15) (fun t16 => 
  pur Tryz.prog (Instr.indexAt 47 t16 v_i) fun t18 => 
  rd Tryz.prog (Instr.loadAt 253 t18) (fun t19 => 
  pur Tryz.prog (nilV v_b) fun t21 => 
  pur Tryz.prog (Instr.fieldAt 54 t21 19) fun t22 => 
  rd Tryz.prog (Instr.loadAt 47 t22) (fun t23 => 
  pur Tryz.prog (Instr.indexAt 47 t23 v_i) fun t25 => 
  rd Tryz.prog (Instr.loadAt 253 t25) (fun t26 => 
  callS Tryz.prog 222 #[t19, t26] (fun t27 w_2 => 
  pur Tryz.prog (Op.unary .not t27) fun t28 => 
  condS t28
   (Q (.bool false) w_2)
   (pur Tryz.prog (binS .add 3 false true v_i (.int .i64 1)) fun t12 => 
  J t12 w_2)) (World.drew w_1)) (World.drew w_1)) (World.drew w_1)) (World.drew w_1)) (World.drew w_1))
   (Q (.bool true) w_1)) w_1) [(.int .i64 0)] w
theorem eq130 (v_b : Value) (Q : Value → World → Prop) (w : World) : semF Tryz.prog 130 [v_b] Q w = S130 v_b Q w := by kernel_rfl
theorem ref130 {v_b : Value} {Q : Value → World → Prop} {w : World} (h : S130 v_b Q w) : callS Tryz.prog 130 #[v_b] Q w :=
  callS_of mix (fun a w => Tryz.call130 a w) (by kernel_rfl) (by rw [eq130]; exact h)
-- (*commons/commonsbook.Book).stillRevokes
def S131 (v_b : Value) (Q : Value → World → Prop) (w : World) : Prop :=
 lp 1 (fun J => fun v_i w_1 => ∀ _j : Fr, 
  pur Tryz.prog (nilV v_b) fun t6 => 
  pur Tryz.prog (Instr.fieldAt 54 t6 20) fun t7 => 
  rd Tryz.prog (Instr.loadAt 48 t7) (fun t8 => 
  pur Tryz.prog (Builtin.len_ #[48] 3 #[t8]) fun t9 => 
  pur Tryz.prog (binS .lss 3 false false v_i t9) fun t10 => 
  condS t10
   (pur Tryz.prog (nilV v_b) fun t14 => 
  pur Tryz.prog (Instr.fieldAt 54 t14 20) fun t15 => 
  rd Tryz.prog (Instr.loadAt 48 t15) (fun t16 => 
  pur Tryz.prog (Instr.indexAt 48 t16 v_i) fun t18 => 
  rd Tryz.prog (Instr.loadAt 255 t18) (fun t19 => 
  pur Tryz.prog (nilV v_b) fun t21 => 
  pur Tryz.prog (Instr.fieldAt 54 t21 21) fun t22 => 
  rd Tryz.prog (Instr.loadAt 48 t22) (fun t23 => 
  pur Tryz.prog (Instr.indexAt 48 t23 v_i) fun t25 => 
  rd Tryz.prog (Instr.loadAt 255 t25) (fun t26 => 
  callS Tryz.prog 223 #[t19, t26] (fun t27 w_2 => 
  pur Tryz.prog (Op.unary .not t27) fun t28 => 
  condS t28
   (Q (.bool false) w_2)
   (pur Tryz.prog (binS .add 3 false true v_i (.int .i64 1)) fun t12 => 
  J t12 w_2)) (World.drew w_1)) (World.drew w_1)) (World.drew w_1)) (World.drew w_1)) (World.drew w_1))
   (Q (.bool true) w_1)) w_1) [(.int .i64 0)] w
theorem eq131 (v_b : Value) (Q : Value → World → Prop) (w : World) : semF Tryz.prog 131 [v_b] Q w = S131 v_b Q w := by kernel_rfl
theorem ref131 {v_b : Value} {Q : Value → World → Prop} {w : World} (h : S131 v_b Q w) : callS Tryz.prog 131 #[v_b] Q w :=
  callS_of mix (fun a w => Tryz.call131 a w) (by kernel_rfl) (by rw [eq131]; exact h)
-- (*commons/commonsbook.Book).stillEntries
def S132 (v_b : Value) (Q : Value → World → Prop) (w : World) : Prop :=
 lp 1 (fun J => fun v_i w_1 => ∀ _j : Fr, 
  pur Tryz.prog (nilV v_b) fun t6 => 
  pur Tryz.prog (Instr.fieldAt 54 t6 22) fun t7 => 
  rd Tryz.prog (Instr.loadAt 49 t7) (fun t8 => 
  pur Tryz.prog (Builtin.len_ #[49] 3 #[t8]) fun t9 => 
  pur Tryz.prog (binS .lss 3 false false v_i t9) fun t10 => 
  condS t10
   (pur Tryz.prog (nilV v_b) fun t14 => 
  pur Tryz.prog (Instr.fieldAt 54 t14 22) fun t15 => 
  rd Tryz.prog (Instr.loadAt 49 t15) (fun t16 => 
  pur Tryz.prog (Instr.indexAt 49 t16 v_i) fun t18 => 
  rd Tryz.prog (Instr.loadAt 257 t18) (fun t19 => 
  pur Tryz.prog (nilV v_b) fun t21 => 
  pur Tryz.prog (Instr.fieldAt 54 t21 23) fun t22 => 
  rd Tryz.prog (Instr.loadAt 49 t22) (fun t23 => 
  pur Tryz.prog (Instr.indexAt 49 t23 v_i) fun t25 => 
  rd Tryz.prog (Instr.loadAt 257 t25) (fun t26 => 
  callS Tryz.prog 224 #[t19, t26] (fun t27 w_2 => 
  pur Tryz.prog (Op.unary .not t27) fun t28 => 
  condS t28
   (Q (.bool false) w_2)
   (pur Tryz.prog (binS .add 3 false true v_i (.int .i64 1)) fun t12 => 
  J t12 w_2)) (World.drew w_1)) (World.drew w_1)) (World.drew w_1)) (World.drew w_1)) (World.drew w_1))
   (Q (.bool true) w_1)) w_1) [(.int .i64 0)] w
theorem eq132 (v_b : Value) (Q : Value → World → Prop) (w : World) : semF Tryz.prog 132 [v_b] Q w = S132 v_b Q w := by kernel_rfl
theorem ref132 {v_b : Value} {Q : Value → World → Prop} {w : World} (h : S132 v_b Q w) : callS Tryz.prog 132 #[v_b] Q w :=
  callS_of mix (fun a w => Tryz.call132 a w) (by kernel_rfl) (by rw [eq132]; exact h)
-- (*commons/commonsbook.Book).stillParts
def S133 (v_b : Value) (Q : Value → World → Prop) (w : World) : Prop :=
 lp 1 (fun J => fun v_i w_1 => ∀ _j : Fr, 
  pur Tryz.prog (nilV v_b) fun t6 => 
  pur Tryz.prog (Instr.fieldAt 54 t6 24) fun t7 => 
  rd Tryz.prog (Instr.loadAt 50 t7) (fun t8 => 
  pur Tryz.prog (Builtin.len_ #[50] 3 #[t8]) fun t9 => 
  pur Tryz.prog (binS .lss 3 false false v_i t9) fun t10 => 
  condS t10
   (pur Tryz.prog (nilV v_b) fun t14 => 
  pur Tryz.prog (Instr.fieldAt 54 t14 24) fun t15 => 
  rd Tryz.prog (Instr.loadAt 50 t15) (fun t16 => 
  pur Tryz.prog (Instr.indexAt 50 t16 v_i) fun t18 => 
  rd Tryz.prog (Instr.loadAt 113 t18) (fun t19 => 
  pur Tryz.prog (nilV v_b) fun t21 => 
  pur Tryz.prog (Instr.fieldAt 54 t21 25) fun t22 => 
  rd Tryz.prog (Instr.loadAt 50 t22) (fun t23 => 
  pur Tryz.prog (Instr.indexAt 50 t23 v_i) fun t25 => 
  rd Tryz.prog (Instr.loadAt 113 t25) (fun t26 => 
  callS Tryz.prog 225 #[t19, t26] (fun t27 w_2 => 
  pur Tryz.prog (Op.unary .not t27) fun t28 => 
  condS t28
   (Q (.bool false) w_2)
   (pur Tryz.prog (binS .add 3 false true v_i (.int .i64 1)) fun t12 => 
  J t12 w_2)) (World.drew w_1)) (World.drew w_1)) (World.drew w_1)) (World.drew w_1)) (World.drew w_1))
   (Q (.bool true) w_1)) w_1) [(.int .i64 0)] w
theorem eq133 (v_b : Value) (Q : Value → World → Prop) (w : World) : semF Tryz.prog 133 [v_b] Q w = S133 v_b Q w := by kernel_rfl
theorem ref133 {v_b : Value} {Q : Value → World → Prop} {w : World} (h : S133 v_b Q w) : callS Tryz.prog 133 #[v_b] Q w :=
  callS_of mix (fun a w => Tryz.call133 a w) (by kernel_rfl) (by rw [eq133]; exact h)
-- (*commons/commonsbook.Book).stillMsgs
def S134 (v_b : Value) (Q : Value → World → Prop) (w : World) : Prop :=
 lp 1 (fun J => fun v_i w_1 => ∀ _j : Fr, 
  pur Tryz.prog (nilV v_b) fun t6 => 
  pur Tryz.prog (Instr.fieldAt 54 t6 26) fun t7 => 
  rd Tryz.prog (Instr.loadAt 51 t7) (fun t8 => 
  pur Tryz.prog (Builtin.len_ #[51] 3 #[t8]) fun t9 => 
  pur Tryz.prog (binS .lss 3 false false v_i t9) fun t10 => 
  condS t10
   (pur Tryz.prog (nilV v_b) fun t14 => 
  pur Tryz.prog (Instr.fieldAt 54 t14 26) fun t15 => 
  rd Tryz.prog (Instr.loadAt 51 t15) (fun t16 => 
  pur Tryz.prog (Instr.indexAt 51 t16 v_i) fun t18 => 
  rd Tryz.prog (Instr.loadAt 260 t18) (fun t19 => 
  pur Tryz.prog (nilV v_b) fun t21 => 
  pur Tryz.prog (Instr.fieldAt 54 t21 27) fun t22 => 
  rd Tryz.prog (Instr.loadAt 51 t22) (fun t23 => 
  pur Tryz.prog (Instr.indexAt 51 t23 v_i) fun t25 => 
  rd Tryz.prog (Instr.loadAt 260 t25) (fun t26 => 
  callS Tryz.prog 226 #[t19, t26] (fun t27 w_2 => 
  pur Tryz.prog (Op.unary .not t27) fun t28 => 
  condS t28
   (Q (.bool false) w_2)
   (pur Tryz.prog (binS .add 3 false true v_i (.int .i64 1)) fun t12 => 
  J t12 w_2)) (World.drew w_1)) (World.drew w_1)) (World.drew w_1)) (World.drew w_1)) (World.drew w_1))
   (Q (.bool true) w_1)) w_1) [(.int .i64 0)] w
theorem eq134 (v_b : Value) (Q : Value → World → Prop) (w : World) : semF Tryz.prog 134 [v_b] Q w = S134 v_b Q w := by kernel_rfl
theorem ref134 {v_b : Value} {Q : Value → World → Prop} {w : World} (h : S134 v_b Q w) : callS Tryz.prog 134 #[v_b] Q w :=
  callS_of mix (fun a w => Tryz.call134 a w) (by kernel_rfl) (by rw [eq134]; exact h)
-- (*commons/commonsbook.Book).stillSteps
def S135 (v_b : Value) (Q : Value → World → Prop) (w : World) : Prop :=
 lp 1 (fun J => fun v_i w_1 => ∀ _j : Fr, 
  pur Tryz.prog (nilV v_b) fun t6 => 
  pur Tryz.prog (Instr.fieldAt 54 t6 28) fun t7 => 
  rd Tryz.prog (Instr.loadAt 52 t7) (fun t8 => 
  pur Tryz.prog (Builtin.len_ #[52] 3 #[t8]) fun t9 => 
  pur Tryz.prog (binS .lss 3 false false v_i t9) fun t10 => 
  condS t10
   (pur Tryz.prog (nilV v_b) fun t14 => 
  pur Tryz.prog (Instr.fieldAt 54 t14 28) fun t15 => 
  rd Tryz.prog (Instr.loadAt 52 t15) (fun t16 => 
  pur Tryz.prog (Instr.indexAt 52 t16 v_i) fun t18 => 
  rd Tryz.prog (Instr.loadAt 262 t18) (fun t19 => 
  pur Tryz.prog (nilV v_b) fun t21 => 
  pur Tryz.prog (Instr.fieldAt 54 t21 29) fun t22 => 
  rd Tryz.prog (Instr.loadAt 52 t22) (fun t23 => 
  pur Tryz.prog (Instr.indexAt 52 t23 v_i) fun t25 => 
  rd Tryz.prog (Instr.loadAt 262 t25) (fun t26 => 
  callS Tryz.prog 227 #[t19, t26] (fun t27 w_2 => 
  pur Tryz.prog (Op.unary .not t27) fun t28 => 
  condS t28
   (Q (.bool false) w_2)
   (pur Tryz.prog (binS .add 3 false true v_i (.int .i64 1)) fun t12 => 
  J t12 w_2)) (World.drew w_1)) (World.drew w_1)) (World.drew w_1)) (World.drew w_1)) (World.drew w_1))
   (Q (.bool true) w_1)) w_1) [(.int .i64 0)] w
theorem eq135 (v_b : Value) (Q : Value → World → Prop) (w : World) : semF Tryz.prog 135 [v_b] Q w = S135 v_b Q w := by kernel_rfl
theorem ref135 {v_b : Value} {Q : Value → World → Prop} {w : World} (h : S135 v_b Q w) : callS Tryz.prog 135 #[v_b] Q w :=
  callS_of mix (fun a w => Tryz.call135 a w) (by kernel_rfl) (by rw [eq135]; exact h)
-- (*commons/commonsbook.Book).putRecords
def S136 (v_b : Value) (Q : Value → World → Prop) (w : World) : Prop :=
 lp 1 (fun J => fun v_i w_1 => ∀ _j : Fr, 
  pur Tryz.prog (nilV v_b) fun t7 => 
  pur Tryz.prog (Instr.fieldAt 54 t7 12) fun t8 => 
  rd Tryz.prog (Instr.loadAt 44 t8) (fun t9 => 
  pur Tryz.prog (Builtin.len_ #[44] 3 #[t9]) fun t10 => 
  pur Tryz.prog (binS .lss 3 false false v_i t10) fun t11 => 
  condS t11
   (pur Tryz.prog (nilV v_b) fun t16 => 
  pur Tryz.prog (Instr.fieldAt 54 t16 12) fun t17 => 
  rd Tryz.prog (Instr.loadAt 44 t17) (fun t18 => 
  pur Tryz.prog (Instr.indexAt 44 t18 v_i) fun t20 => 
  rd Tryz.prog (Instr.loadAt 247 t20) (fun t21 => 
  pur Tryz.prog (Builtin.len_ #[247] 3 #[t21]) fun t22 => 
  callS Tryz.prog 228 #[v_i, (.int .i64 0), t22] (fun t23 w_2 => 
  lp 1 (fun J_1 => fun v_k w_3 => ∀ _j : Fr, 
   pur Tryz.prog (Builtin.len_ #[247] 3 #[t23]) fun t26 => 
   pur Tryz.prog (binS .lss 3 false false v_k t26) fun t27 => 
   condS t27
    (pur Tryz.prog (nilV v_b) fun t31 => 
   pur Tryz.prog (Instr.fieldAt 54 t31 12) fun t32 => 
   rd Tryz.prog (Instr.loadAt 44 t32) (fun t33 => 
   pur Tryz.prog (Instr.indexAt 44 t33 v_i) fun t35 => 
   rd Tryz.prog (Instr.loadAt 247 t35) (fun t36 => 
   pur Tryz.prog (Instr.indexAt 247 t23 v_k) fun t40 => 
   rd Tryz.prog (Instr.loadAt 265 t40) (fun t41 => 
   pur Tryz.prog (Instr.indexAt 247 t36 v_k) fun t42 => 
   act Tryz.prog (thenU (Instr.storeAt 265 t42 t41)) (fun _ w_4 => 
   pur Tryz.prog (binS .add 3 false true v_k (.int .i64 1)) fun t29 => 
   J_1 t29 w_4) (World.drew w_3)) (World.drew w_3)) (World.drew w_3)) (World.drew w_3))
    (pur Tryz.prog (binS .add 3 false true v_i (.int .i64 1)) fun t13 => 
  J t13 w_3)) [(.int .i64 0)] w_2) w_1) w_1) w_1)
   (Q (.tuple #[]) w_1)) w_1) [(.int .i64 0)] w
theorem eq136 (v_b : Value) (Q : Value → World → Prop) (w : World) : semF Tryz.prog 136 [v_b] Q w = S136 v_b Q w := by kernel_rfl
theorem ref136 {v_b : Value} {Q : Value → World → Prop} {w : World} (h : S136 v_b Q w) : callS Tryz.prog 136 #[v_b] Q w :=
  callS_of mix (fun a w => Tryz.call136 a w) (by kernel_rfl) (by rw [eq136]; exact h)
-- (*commons/commonsbook.Book).putMsgs
def S137 (v_b : Value) (Q : Value → World → Prop) (w : World) : Prop :=
 lp 1 (fun J => fun v_i w_1 => ∀ _j : Fr, 
  pur Tryz.prog (nilV v_b) fun t7 => 
  pur Tryz.prog (Instr.fieldAt 54 t7 26) fun t8 => 
  rd Tryz.prog (Instr.loadAt 51 t8) (fun t9 => 
  pur Tryz.prog (Builtin.len_ #[51] 3 #[t9]) fun t10 => 
  pur Tryz.prog (binS .lss 3 false false v_i t10) fun t11 => 
  condS t11
   (pur Tryz.prog (nilV v_b) fun t16 => 
  pur Tryz.prog (Instr.fieldAt 54 t16 26) fun t17 => 
  rd Tryz.prog (Instr.loadAt 51 t17) (fun t18 => 
  pur Tryz.prog (Instr.indexAt 51 t18 v_i) fun t20 => 
  rd Tryz.prog (Instr.loadAt 260 t20) (fun t21 => 
  pur Tryz.prog (Builtin.len_ #[260] 3 #[t21]) fun t22 => 
  callS Tryz.prog 229 #[v_i, (.int .i64 0), t22] (fun t23 w_2 => 
  lp 1 (fun J_1 => fun v_k w_3 => ∀ _j : Fr, 
   pur Tryz.prog (Builtin.len_ #[260] 3 #[t23]) fun t26 => 
   pur Tryz.prog (binS .lss 3 false false v_k t26) fun t27 => 
   condS t27
    (pur Tryz.prog (nilV v_b) fun t31 => 
   pur Tryz.prog (Instr.fieldAt 54 t31 26) fun t32 => 
   rd Tryz.prog (Instr.loadAt 51 t32) (fun t33 => 
   pur Tryz.prog (Instr.indexAt 51 t33 v_i) fun t35 => 
   rd Tryz.prog (Instr.loadAt 260 t35) (fun t36 => 
   pur Tryz.prog (Instr.indexAt 260 t23 v_k) fun t40 => 
   rd Tryz.prog (Instr.loadAt 268 t40) (fun t41 => 
   pur Tryz.prog (Instr.indexAt 260 t36 v_k) fun t42 => 
   act Tryz.prog (thenU (Instr.storeAt 268 t42 t41)) (fun _ w_4 => 
   pur Tryz.prog (binS .add 3 false true v_k (.int .i64 1)) fun t29 => 
   J_1 t29 w_4) (World.drew w_3)) (World.drew w_3)) (World.drew w_3)) (World.drew w_3))
    (pur Tryz.prog (binS .add 3 false true v_i (.int .i64 1)) fun t13 => 
  J t13 w_3)) [(.int .i64 0)] w_2) w_1) w_1) w_1)
   (Q (.tuple #[]) w_1)) w_1) [(.int .i64 0)] w
theorem eq137 (v_b : Value) (Q : Value → World → Prop) (w : World) : semF Tryz.prog 137 [v_b] Q w = S137 v_b Q w := by kernel_rfl
theorem ref137 {v_b : Value} {Q : Value → World → Prop} {w : World} (h : S137 v_b Q w) : callS Tryz.prog 137 #[v_b] Q w :=
  callS_of mix (fun a w => Tryz.call137 a w) (by kernel_rfl) (by rw [eq137]; exact h)
-- (*commons/commonsbook.Book).putSteps
def S138 (v_b : Value) (Q : Value → World → Prop) (w : World) : Prop :=
 lp 1 (fun J => fun v_i w_1 => ∀ _j : Fr, 
  pur Tryz.prog (nilV v_b) fun t7 => 
  pur Tryz.prog (Instr.fieldAt 54 t7 28) fun t8 => 
  rd Tryz.prog (Instr.loadAt 52 t8) (fun t9 => 
  pur Tryz.prog (Builtin.len_ #[52] 3 #[t9]) fun t10 => 
  pur Tryz.prog (binS .lss 3 false false v_i t10) fun t11 => 
  condS t11
   (pur Tryz.prog (nilV v_b) fun t16 => 
  pur Tryz.prog (Instr.fieldAt 54 t16 28) fun t17 => 
  rd Tryz.prog (Instr.loadAt 52 t17) (fun t18 => 
  pur Tryz.prog (Instr.indexAt 52 t18 v_i) fun t20 => 
  rd Tryz.prog (Instr.loadAt 262 t20) (fun t21 => 
  pur Tryz.prog (Builtin.len_ #[262] 3 #[t21]) fun t22 => 
  callS Tryz.prog 230 #[v_i, (.int .i64 0), t22] (fun t23 w_2 => 
  lp 1 (fun J_1 => fun v_k w_3 => ∀ _j : Fr, 
   pur Tryz.prog (Builtin.len_ #[262] 3 #[t23]) fun t26 => 
   pur Tryz.prog (binS .lss 3 false false v_k t26) fun t27 => 
   condS t27
    (pur Tryz.prog (nilV v_b) fun t31 => 
   pur Tryz.prog (Instr.fieldAt 54 t31 28) fun t32 => 
   rd Tryz.prog (Instr.loadAt 52 t32) (fun t33 => 
   pur Tryz.prog (Instr.indexAt 52 t33 v_i) fun t35 => 
   rd Tryz.prog (Instr.loadAt 262 t35) (fun t36 => 
   pur Tryz.prog (Instr.indexAt 262 t23 v_k) fun t40 => 
   rd Tryz.prog (Instr.loadAt 271 t40) (fun t41 => 
   pur Tryz.prog (Instr.indexAt 262 t36 v_k) fun t42 => 
   act Tryz.prog (thenU (Instr.storeAt 271 t42 t41)) (fun _ w_4 => 
   pur Tryz.prog (binS .add 3 false true v_k (.int .i64 1)) fun t29 => 
   J_1 t29 w_4) (World.drew w_3)) (World.drew w_3)) (World.drew w_3)) (World.drew w_3))
    (pur Tryz.prog (binS .add 3 false true v_i (.int .i64 1)) fun t13 => 
  J t13 w_3)) [(.int .i64 0)] w_2) w_1) w_1) w_1)
   (Q (.tuple #[]) w_1)) w_1) [(.int .i64 0)] w
theorem eq138 (v_b : Value) (Q : Value → World → Prop) (w : World) : semF Tryz.prog 138 [v_b] Q w = S138 v_b Q w := by kernel_rfl
theorem ref138 {v_b : Value} {Q : Value → World → Prop} {w : World} (h : S138 v_b Q w) : callS Tryz.prog 138 #[v_b] Q w :=
  callS_of mix (fun a w => Tryz.call138 a w) (by kernel_rfl) (by rw [eq138]; exact h)
-- (*commons/commonsbook.Book).putTexts
def S139 (v_b : Value) (Q : Value → World → Prop) (w : World) : Prop :=
 lp 1 (fun J => fun v_i w_1 => ∀ _j : Fr, 
  pur Tryz.prog (nilV v_b) fun t7 => 
  pur Tryz.prog (Instr.fieldAt 54 t7 0) fun t8 => 
  rd Tryz.prog (Instr.loadAt 38 t8) (fun t9 => 
  pur Tryz.prog (Builtin.len_ #[38] 3 #[t9]) fun t10 => 
  pur Tryz.prog (binS .lss 3 false false v_i t10) fun t11 => 
  condS t11
   (pur Tryz.prog (nilV v_b) fun t16 => 
  pur Tryz.prog (Instr.fieldAt 54 t16 0) fun t17 => 
  rd Tryz.prog (Instr.loadAt 38 t17) (fun t18 => 
  pur Tryz.prog (Instr.indexAt 38 t18 v_i) fun t20 => 
  rd Tryz.prog (Instr.loadAt 243 t20) (fun t21 => 
  pur Tryz.prog (Builtin.len_ #[243] 3 #[t21]) fun t22 => 
  callS Tryz.prog 231 #[v_i, (.int .i64 0), t22] (fun t23 w_2 => 
  lp 1 (fun J_1 => fun v_k w_3 => ∀ _j : Fr, 
   pur Tryz.prog (Builtin.len_ #[243] 3 #[t23]) fun t26 => 
   pur Tryz.prog (binS .lss 3 false false v_k t26) fun t27 => 
   condS t27
    (pur Tryz.prog (nilV v_b) fun t31 => 
   pur Tryz.prog (Instr.fieldAt 54 t31 0) fun t32 => 
   rd Tryz.prog (Instr.loadAt 38 t32) (fun t33 => 
   pur Tryz.prog (Instr.indexAt 38 t33 v_i) fun t35 => 
   rd Tryz.prog (Instr.loadAt 243 t35) (fun t36 => 
   pur Tryz.prog (Instr.indexAt 243 t23 v_k) fun t40 => 
   rd Tryz.prog (Instr.loadAt 9 t40) (fun t41 => 
   pur Tryz.prog (Instr.indexAt 243 t36 v_k) fun t42 => 
   act Tryz.prog (thenU (Instr.storeAt 9 t42 t41)) (fun _ w_4 => 
   pur Tryz.prog (binS .add 3 false true v_k (.int .i64 1)) fun t29 => 
   J_1 t29 w_4) (World.drew w_3)) (World.drew w_3)) (World.drew w_3)) (World.drew w_3))
    (pur Tryz.prog (binS .add 3 false true v_i (.int .i64 1)) fun t13 => 
  J t13 w_3)) [(.int .i64 0)] w_2) w_1) w_1) w_1)
   (Q (.tuple #[]) w_1)) w_1) [(.int .i64 0)] w
theorem eq139 (v_b : Value) (Q : Value → World → Prop) (w : World) : semF Tryz.prog 139 [v_b] Q w = S139 v_b Q w := by kernel_rfl
theorem ref139 {v_b : Value} {Q : Value → World → Prop} {w : World} (h : S139 v_b Q w) : callS Tryz.prog 139 #[v_b] Q w :=
  callS_of mix (fun a w => Tryz.call139 a w) (by kernel_rfl) (by rw [eq139]; exact h)
-- (*commons/commonsbook.Book).putInts
def S140 (v_b : Value) (Q : Value → World → Prop) (w : World) : Prop :=
 lp 1 (fun J => fun v_i w_1 => ∀ _j : Fr, 
  pur Tryz.prog (nilV v_b) fun t7 => 
  pur Tryz.prog (Instr.fieldAt 54 t7 2) fun t8 => 
  rd Tryz.prog (Instr.loadAt 39 t8) (fun t9 => 
  pur Tryz.prog (Builtin.len_ #[39] 3 #[t9]) fun t10 => 
  pur Tryz.prog (binS .lss 3 false false v_i t10) fun t11 => 
  condS t11
   (pur Tryz.prog (nilV v_b) fun t16 => 
  pur Tryz.prog (Instr.fieldAt 54 t16 2) fun t17 => 
  rd Tryz.prog (Instr.loadAt 39 t17) (fun t18 => 
  pur Tryz.prog (Instr.indexAt 39 t18 v_i) fun t20 => 
  rd Tryz.prog (Instr.loadAt 65 t20) (fun t21 => 
  pur Tryz.prog (Builtin.len_ #[65] 3 #[t21]) fun t22 => 
  callS Tryz.prog 232 #[v_i, (.int .i64 0), t22] (fun t23 w_2 => 
  lp 1 (fun J_1 => fun v_k w_3 => ∀ _j : Fr, 
   pur Tryz.prog (Builtin.len_ #[65] 3 #[t23]) fun t26 => 
   pur Tryz.prog (binS .lss 3 false false v_k t26) fun t27 => 
   condS t27
    (pur Tryz.prog (nilV v_b) fun t31 => 
   pur Tryz.prog (Instr.fieldAt 54 t31 2) fun t32 => 
   rd Tryz.prog (Instr.loadAt 39 t32) (fun t33 => 
   pur Tryz.prog (Instr.indexAt 39 t33 v_i) fun t35 => 
   rd Tryz.prog (Instr.loadAt 65 t35) (fun t36 => 
   pur Tryz.prog (Instr.indexAt 65 t23 v_k) fun t40 => 
   rd Tryz.prog (Instr.loadAt 3 t40) (fun t41 => 
   pur Tryz.prog (Instr.indexAt 65 t36 v_k) fun t42 => 
   act Tryz.prog (thenU (Instr.storeAt 3 t42 t41)) (fun _ w_4 => 
   pur Tryz.prog (binS .add 3 false true v_k (.int .i64 1)) fun t29 => 
   J_1 t29 w_4) (World.drew w_3)) (World.drew w_3)) (World.drew w_3)) (World.drew w_3))
    (pur Tryz.prog (binS .add 3 false true v_i (.int .i64 1)) fun t13 => 
  J t13 w_3)) [(.int .i64 0)] w_2) w_1) w_1) w_1)
   (Q (.tuple #[]) w_1)) w_1) [(.int .i64 0)] w
theorem eq140 (v_b : Value) (Q : Value → World → Prop) (w : World) : semF Tryz.prog 140 [v_b] Q w = S140 v_b Q w := by kernel_rfl
theorem ref140 {v_b : Value} {Q : Value → World → Prop} {w : World} (h : S140 v_b Q w) : callS Tryz.prog 140 #[v_b] Q w :=
  callS_of mix (fun a w => Tryz.call140 a w) (by kernel_rfl) (by rw [eq140]; exact h)
-- (*commons/commonsbook.Book).putNums
def S141 (v_b : Value) (Q : Value → World → Prop) (w : World) : Prop :=
 lp 1 (fun J => fun v_i w_1 => ∀ _j : Fr, 
  pur Tryz.prog (nilV v_b) fun t7 => 
  pur Tryz.prog (Instr.fieldAt 54 t7 4) fun t8 => 
  rd Tryz.prog (Instr.loadAt 40 t8) (fun t9 => 
  pur Tryz.prog (Builtin.len_ #[40] 3 #[t9]) fun t10 => 
  pur Tryz.prog (binS .lss 3 false false v_i t10) fun t11 => 
  condS t11
   (pur Tryz.prog (nilV v_b) fun t16 => 
  pur Tryz.prog (Instr.fieldAt 54 t16 4) fun t17 => 
  rd Tryz.prog (Instr.loadAt 40 t17) (fun t18 => 
  pur Tryz.prog (Instr.indexAt 40 t18 v_i) fun t20 => 
  rd Tryz.prog (Instr.loadAt 245 t20) (fun t21 => 
  pur Tryz.prog (Builtin.len_ #[245] 3 #[t21]) fun t22 => 
  callS Tryz.prog 233 #[v_i, (.int .i64 0), t22] (fun t23 w_2 => 
  lp 1 (fun J_1 => fun v_k w_3 => ∀ _j : Fr, 
   pur Tryz.prog (Builtin.len_ #[245] 3 #[t23]) fun t26 => 
   pur Tryz.prog (binS .lss 3 false false v_k t26) fun t27 => 
   condS t27
    (pur Tryz.prog (nilV v_b) fun t31 => 
   pur Tryz.prog (Instr.fieldAt 54 t31 4) fun t32 => 
   rd Tryz.prog (Instr.loadAt 40 t32) (fun t33 => 
   pur Tryz.prog (Instr.indexAt 40 t33 v_i) fun t35 => 
   rd Tryz.prog (Instr.loadAt 245 t35) (fun t36 => 
   pur Tryz.prog (Instr.indexAt 245 t23 v_k) fun t40 => 
   rd Tryz.prog (Instr.loadAt 160 t40) (fun t41 => 
   pur Tryz.prog (Instr.indexAt 245 t36 v_k) fun t42 => 
   act Tryz.prog (thenU (Instr.storeAt 160 t42 t41)) (fun _ w_4 => 
   pur Tryz.prog (binS .add 3 false true v_k (.int .i64 1)) fun t29 => 
   J_1 t29 w_4) (World.drew w_3)) (World.drew w_3)) (World.drew w_3)) (World.drew w_3))
    (pur Tryz.prog (binS .add 3 false true v_i (.int .i64 1)) fun t13 => 
  J t13 w_3)) [(.int .i64 0)] w_2) w_1) w_1) w_1)
   (Q (.tuple #[]) w_1)) w_1) [(.int .i64 0)] w
theorem eq141 (v_b : Value) (Q : Value → World → Prop) (w : World) : semF Tryz.prog 141 [v_b] Q w = S141 v_b Q w := by kernel_rfl
theorem ref141 {v_b : Value} {Q : Value → World → Prop} {w : World} (h : S141 v_b Q w) : callS Tryz.prog 141 #[v_b] Q w :=
  callS_of mix (fun a w => Tryz.call141 a w) (by kernel_rfl) (by rw [eq141]; exact h)
-- (*commons/commonsbook.Book).putSpans
def S142 (v_b : Value) (Q : Value → World → Prop) (w : World) : Prop :=
 lp 1 (fun J => fun v_i w_1 => ∀ _j : Fr, 
  pur Tryz.prog (nilV v_b) fun t7 => 
  pur Tryz.prog (Instr.fieldAt 54 t7 6) fun t8 => 
  rd Tryz.prog (Instr.loadAt 41 t8) (fun t9 => 
  pur Tryz.prog (Builtin.len_ #[41] 3 #[t9]) fun t10 => 
  pur Tryz.prog (binS .lss 3 false false v_i t10) fun t11 => 
  condS t11
   (pur Tryz.prog (nilV v_b) fun t16 => 
  pur Tryz.prog (Instr.fieldAt 54 t16 6) fun t17 => 
  rd Tryz.prog (Instr.loadAt 41 t17) (fun t18 => 
  pur Tryz.prog (Instr.indexAt 41 t18 v_i) fun t20 => 
  rd Tryz.prog (Instr.loadAt 90 t20) (fun t21 => 
  pur Tryz.prog (Builtin.len_ #[90] 3 #[t21]) fun t22 => 
  callS Tryz.prog 234 #[v_i, (.int .i64 0), t22] (fun t23 w_2 => 
  lp 1 (fun J_1 => fun v_k w_3 => ∀ _j : Fr, 
   pur Tryz.prog (Builtin.len_ #[90] 3 #[t23]) fun t26 => 
   pur Tryz.prog (binS .lss 3 false false v_k t26) fun t27 => 
   condS t27
    (pur Tryz.prog (nilV v_b) fun t31 => 
   pur Tryz.prog (Instr.fieldAt 54 t31 6) fun t32 => 
   rd Tryz.prog (Instr.loadAt 41 t32) (fun t33 => 
   pur Tryz.prog (Instr.indexAt 41 t33 v_i) fun t35 => 
   rd Tryz.prog (Instr.loadAt 90 t35) (fun t36 => 
   pur Tryz.prog (Instr.indexAt 90 t23 v_k) fun t40 => 
   rd Tryz.prog (Instr.loadAt 92 t40) (fun t41 => 
   pur Tryz.prog (Instr.indexAt 90 t36 v_k) fun t42 => 
   act Tryz.prog (thenU (Instr.storeAt 92 t42 t41)) (fun _ w_4 => 
   pur Tryz.prog (binS .add 3 false true v_k (.int .i64 1)) fun t29 => 
   J_1 t29 w_4) (World.drew w_3)) (World.drew w_3)) (World.drew w_3)) (World.drew w_3))
    (pur Tryz.prog (binS .add 3 false true v_i (.int .i64 1)) fun t13 => 
  J t13 w_3)) [(.int .i64 0)] w_2) w_1) w_1) w_1)
   (Q (.tuple #[]) w_1)) w_1) [(.int .i64 0)] w
theorem eq142 (v_b : Value) (Q : Value → World → Prop) (w : World) : semF Tryz.prog 142 [v_b] Q w = S142 v_b Q w := by kernel_rfl
theorem ref142 {v_b : Value} {Q : Value → World → Prop} {w : World} (h : S142 v_b Q w) : callS Tryz.prog 142 #[v_b] Q w :=
  callS_of mix (fun a w => Tryz.call142 a w) (by kernel_rfl) (by rw [eq142]; exact h)
-- (*commons/commonsbook.Book).putLocks
def S143 (v_b : Value) (Q : Value → World → Prop) (w : World) : Prop :=
 lp 1 (fun J => fun v_i w_1 => ∀ _j : Fr, 
  pur Tryz.prog (nilV v_b) fun t7 => 
  pur Tryz.prog (Instr.fieldAt 54 t7 8) fun t8 => 
  rd Tryz.prog (Instr.loadAt 42 t8) (fun t9 => 
  pur Tryz.prog (Builtin.len_ #[42] 3 #[t9]) fun t10 => 
  pur Tryz.prog (binS .lss 3 false false v_i t10) fun t11 => 
  condS t11
   (pur Tryz.prog (nilV v_b) fun t16 => 
  pur Tryz.prog (Instr.fieldAt 54 t16 8) fun t17 => 
  rd Tryz.prog (Instr.loadAt 42 t17) (fun t18 => 
  pur Tryz.prog (Instr.indexAt 42 t18 v_i) fun t20 => 
  rd Tryz.prog (Instr.loadAt 129 t20) (fun t21 => 
  pur Tryz.prog (Builtin.len_ #[129] 3 #[t21]) fun t22 => 
  callS Tryz.prog 235 #[v_i, (.int .i64 0), t22] (fun t23 w_2 => 
  lp 1 (fun J_1 => fun v_k w_3 => ∀ _j : Fr, 
   pur Tryz.prog (Builtin.len_ #[129] 3 #[t23]) fun t26 => 
   pur Tryz.prog (binS .lss 3 false false v_k t26) fun t27 => 
   condS t27
    (pur Tryz.prog (nilV v_b) fun t31 => 
   pur Tryz.prog (Instr.fieldAt 54 t31 8) fun t32 => 
   rd Tryz.prog (Instr.loadAt 42 t32) (fun t33 => 
   pur Tryz.prog (Instr.indexAt 42 t33 v_i) fun t35 => 
   rd Tryz.prog (Instr.loadAt 129 t35) (fun t36 => 
   pur Tryz.prog (Instr.indexAt 129 t23 v_k) fun t40 => 
   rd Tryz.prog (Instr.loadAt 148 t40) (fun t41 => 
   pur Tryz.prog (Instr.indexAt 129 t36 v_k) fun t42 => 
   act Tryz.prog (thenU (Instr.storeAt 148 t42 t41)) (fun _ w_4 => 
   pur Tryz.prog (binS .add 3 false true v_k (.int .i64 1)) fun t29 => 
   J_1 t29 w_4) (World.drew w_3)) (World.drew w_3)) (World.drew w_3)) (World.drew w_3))
    (pur Tryz.prog (binS .add 3 false true v_i (.int .i64 1)) fun t13 => 
  J t13 w_3)) [(.int .i64 0)] w_2) w_1) w_1) w_1)
   (Q (.tuple #[]) w_1)) w_1) [(.int .i64 0)] w
theorem eq143 (v_b : Value) (Q : Value → World → Prop) (w : World) : semF Tryz.prog 143 [v_b] Q w = S143 v_b Q w := by kernel_rfl
theorem ref143 {v_b : Value} {Q : Value → World → Prop} {w : World} (h : S143 v_b Q w) : callS Tryz.prog 143 #[v_b] Q w :=
  callS_of mix (fun a w => Tryz.call143 a w) (by kernel_rfl) (by rw [eq143]; exact h)
-- (*commons/commonsbook.Book).putImages
def S144 (v_b : Value) (Q : Value → World → Prop) (w : World) : Prop :=
 lp 1 (fun J => fun v_i w_1 => ∀ _j : Fr, 
  pur Tryz.prog (nilV v_b) fun t7 => 
  pur Tryz.prog (Instr.fieldAt 54 t7 10) fun t8 => 
  rd Tryz.prog (Instr.loadAt 43 t8) (fun t9 => 
  pur Tryz.prog (Builtin.len_ #[43] 3 #[t9]) fun t10 => 
  pur Tryz.prog (binS .lss 3 false false v_i t10) fun t11 => 
  condS t11
   (pur Tryz.prog (nilV v_b) fun t16 => 
  pur Tryz.prog (Instr.fieldAt 54 t16 10) fun t17 => 
  rd Tryz.prog (Instr.loadAt 43 t17) (fun t18 => 
  pur Tryz.prog (Instr.indexAt 43 t18 v_i) fun t20 => 
  rd Tryz.prog (Instr.loadAt 150 t20) (fun t21 => 
  pur Tryz.prog (Builtin.len_ #[150] 3 #[t21]) fun t22 => 
  callS Tryz.prog 236 #[v_i, (.int .i64 0), t22] (fun t23 w_2 => 
  lp 1 (fun J_1 => fun v_k w_3 => ∀ _j : Fr, 
   pur Tryz.prog (Builtin.len_ #[150] 3 #[t23]) fun t26 => 
   pur Tryz.prog (binS .lss 3 false false v_k t26) fun t27 => 
   condS t27
    (pur Tryz.prog (nilV v_b) fun t31 => 
   pur Tryz.prog (Instr.fieldAt 54 t31 10) fun t32 => 
   rd Tryz.prog (Instr.loadAt 43 t32) (fun t33 => 
   pur Tryz.prog (Instr.indexAt 43 t33 v_i) fun t35 => 
   rd Tryz.prog (Instr.loadAt 150 t35) (fun t36 => 
   pur Tryz.prog (Instr.indexAt 150 t23 v_k) fun t40 => 
   rd Tryz.prog (Instr.loadAt 162 t40) (fun t41 => 
   pur Tryz.prog (Instr.indexAt 150 t36 v_k) fun t42 => 
   act Tryz.prog (thenU (Instr.storeAt 162 t42 t41)) (fun _ w_4 => 
   pur Tryz.prog (binS .add 3 false true v_k (.int .i64 1)) fun t29 => 
   J_1 t29 w_4) (World.drew w_3)) (World.drew w_3)) (World.drew w_3)) (World.drew w_3))
    (pur Tryz.prog (binS .add 3 false true v_i (.int .i64 1)) fun t13 => 
  J t13 w_3)) [(.int .i64 0)] w_2) w_1) w_1) w_1)
   (Q (.tuple #[]) w_1)) w_1) [(.int .i64 0)] w
theorem eq144 (v_b : Value) (Q : Value → World → Prop) (w : World) : semF Tryz.prog 144 [v_b] Q w = S144 v_b Q w := by kernel_rfl
theorem ref144 {v_b : Value} {Q : Value → World → Prop} {w : World} (h : S144 v_b Q w) : callS Tryz.prog 144 #[v_b] Q w :=
  callS_of mix (fun a w => Tryz.call144 a w) (by kernel_rfl) (by rw [eq144]; exact h)
-- (*commons/commonsbook.Book).putPackets
def S145 (v_b : Value) (Q : Value → World → Prop) (w : World) : Prop :=
 lp 1 (fun J => fun v_i w_1 => ∀ _j : Fr, 
  pur Tryz.prog (nilV v_b) fun t7 => 
  pur Tryz.prog (Instr.fieldAt 54 t7 14) fun t8 => 
  rd Tryz.prog (Instr.loadAt 45 t8) (fun t9 => 
  pur Tryz.prog (Builtin.len_ #[45] 3 #[t9]) fun t10 => 
  pur Tryz.prog (binS .lss 3 false false v_i t10) fun t11 => 
  condS t11
   (pur Tryz.prog (nilV v_b) fun t16 => 
  pur Tryz.prog (Instr.fieldAt 54 t16 14) fun t17 => 
  rd Tryz.prog (Instr.loadAt 45 t17) (fun t18 => 
  pur Tryz.prog (Instr.indexAt 45 t18 v_i) fun t20 => 
  rd Tryz.prog (Instr.loadAt 249 t20) (fun t21 => 
  pur Tryz.prog (Builtin.len_ #[249] 3 #[t21]) fun t22 => 
  callS Tryz.prog 237 #[v_i, (.int .i64 0), t22] (fun t23 w_2 => 
  lp 1 (fun J_1 => fun v_k w_3 => ∀ _j : Fr, 
   pur Tryz.prog (Builtin.len_ #[249] 3 #[t23]) fun t26 => 
   pur Tryz.prog (binS .lss 3 false false v_k t26) fun t27 => 
   condS t27
    (pur Tryz.prog (nilV v_b) fun t31 => 
   pur Tryz.prog (Instr.fieldAt 54 t31 14) fun t32 => 
   rd Tryz.prog (Instr.loadAt 45 t32) (fun t33 => 
   pur Tryz.prog (Instr.indexAt 45 t33 v_i) fun t35 => 
   rd Tryz.prog (Instr.loadAt 249 t35) (fun t36 => 
   pur Tryz.prog (Instr.indexAt 249 t23 v_k) fun t40 => 
   rd Tryz.prog (Instr.loadAt 280 t40) (fun t41 => 
   pur Tryz.prog (Instr.indexAt 249 t36 v_k) fun t42 => 
   act Tryz.prog (thenU (Instr.storeAt 280 t42 t41)) (fun _ w_4 => 
   pur Tryz.prog (binS .add 3 false true v_k (.int .i64 1)) fun t29 => 
   J_1 t29 w_4) (World.drew w_3)) (World.drew w_3)) (World.drew w_3)) (World.drew w_3))
    (pur Tryz.prog (binS .add 3 false true v_i (.int .i64 1)) fun t13 => 
  J t13 w_3)) [(.int .i64 0)] w_2) w_1) w_1) w_1)
   (Q (.tuple #[]) w_1)) w_1) [(.int .i64 0)] w
theorem eq145 (v_b : Value) (Q : Value → World → Prop) (w : World) : semF Tryz.prog 145 [v_b] Q w = S145 v_b Q w := by kernel_rfl
theorem ref145 {v_b : Value} {Q : Value → World → Prop} {w : World} (h : S145 v_b Q w) : callS Tryz.prog 145 #[v_b] Q w :=
  callS_of mix (fun a w => Tryz.call145 a w) (by kernel_rfl) (by rw [eq145]; exact h)
-- (*commons/commonsbook.Book).putFrames
def S146 (v_b : Value) (Q : Value → World → Prop) (w : World) : Prop :=
 lp 1 (fun J => fun v_i w_1 => ∀ _j : Fr, 
  pur Tryz.prog (nilV v_b) fun t7 => 
  pur Tryz.prog (Instr.fieldAt 54 t7 16) fun t8 => 
  rd Tryz.prog (Instr.loadAt 46 t8) (fun t9 => 
  pur Tryz.prog (Builtin.len_ #[46] 3 #[t9]) fun t10 => 
  pur Tryz.prog (binS .lss 3 false false v_i t10) fun t11 => 
  condS t11
   (pur Tryz.prog (nilV v_b) fun t16 => 
  pur Tryz.prog (Instr.fieldAt 54 t16 16) fun t17 => 
  rd Tryz.prog (Instr.loadAt 46 t17) (fun t18 => 
  pur Tryz.prog (Instr.indexAt 46 t18 v_i) fun t20 => 
  rd Tryz.prog (Instr.loadAt 251 t20) (fun t21 => 
  pur Tryz.prog (Builtin.len_ #[251] 3 #[t21]) fun t22 => 
  callS Tryz.prog 238 #[v_i, (.int .i64 0), t22] (fun t23 w_2 => 
  lp 1 (fun J_1 => fun v_k w_3 => ∀ _j : Fr, 
   pur Tryz.prog (Builtin.len_ #[251] 3 #[t23]) fun t26 => 
   pur Tryz.prog (binS .lss 3 false false v_k t26) fun t27 => 
   condS t27
    (pur Tryz.prog (nilV v_b) fun t31 => 
   pur Tryz.prog (Instr.fieldAt 54 t31 16) fun t32 => 
   rd Tryz.prog (Instr.loadAt 46 t32) (fun t33 => 
   pur Tryz.prog (Instr.indexAt 46 t33 v_i) fun t35 => 
   rd Tryz.prog (Instr.loadAt 251 t35) (fun t36 => 
   pur Tryz.prog (Instr.indexAt 251 t23 v_k) fun t40 => 
   rd Tryz.prog (Instr.loadAt 283 t40) (fun t41 => 
   pur Tryz.prog (Instr.indexAt 251 t36 v_k) fun t42 => 
   act Tryz.prog (thenU (Instr.storeAt 283 t42 t41)) (fun _ w_4 => 
   pur Tryz.prog (binS .add 3 false true v_k (.int .i64 1)) fun t29 => 
   J_1 t29 w_4) (World.drew w_3)) (World.drew w_3)) (World.drew w_3)) (World.drew w_3))
    (pur Tryz.prog (binS .add 3 false true v_i (.int .i64 1)) fun t13 => 
  J t13 w_3)) [(.int .i64 0)] w_2) w_1) w_1) w_1)
   (Q (.tuple #[]) w_1)) w_1) [(.int .i64 0)] w
theorem eq146 (v_b : Value) (Q : Value → World → Prop) (w : World) : semF Tryz.prog 146 [v_b] Q w = S146 v_b Q w := by kernel_rfl
theorem ref146 {v_b : Value} {Q : Value → World → Prop} {w : World} (h : S146 v_b Q w) : callS Tryz.prog 146 #[v_b] Q w :=
  callS_of mix (fun a w => Tryz.call146 a w) (by kernel_rfl) (by rw [eq146]; exact h)
-- (*commons/commonsbook.Book).putWaits
def S147 (v_b : Value) (Q : Value → World → Prop) (w : World) : Prop :=
 lp 1 (fun J => fun v_i w_1 => ∀ _j : Fr, 
  pur Tryz.prog (nilV v_b) fun t7 => 
  pur Tryz.prog (Instr.fieldAt 54 t7 18) fun t8 => 
  rd Tryz.prog (Instr.loadAt 47 t8) (fun t9 => 
  pur Tryz.prog (Builtin.len_ #[47] 3 #[t9]) fun t10 => 
  pur Tryz.prog (binS .lss 3 false false v_i t10) fun t11 => 
  condS t11
   (pur Tryz.prog (nilV v_b) fun t16 => 
  pur Tryz.prog (Instr.fieldAt 54 t16 18) fun t17 => 
  rd Tryz.prog (Instr.loadAt 47 t17) (fun t18 => 
  pur Tryz.prog (Instr.indexAt 47 t18 v_i) fun t20 => 
  rd Tryz.prog (Instr.loadAt 253 t20) (fun t21 => 
  pur Tryz.prog (Builtin.len_ #[253] 3 #[t21]) fun t22 => 
  callS Tryz.prog 239 #[v_i, (.int .i64 0), t22] (fun t23 w_2 => 
  lp 1 (fun J_1 => fun v_k w_3 => ∀ _j : Fr, 
   pur Tryz.prog (Builtin.len_ #[253] 3 #[t23]) fun t26 => 
   pur Tryz.prog (binS .lss 3 false false v_k t26) fun t27 => 
   condS t27
    (pur Tryz.prog (nilV v_b) fun t31 => 
   pur Tryz.prog (Instr.fieldAt 54 t31 18) fun t32 => 
   rd Tryz.prog (Instr.loadAt 47 t32) (fun t33 => 
   pur Tryz.prog (Instr.indexAt 47 t33 v_i) fun t35 => 
   rd Tryz.prog (Instr.loadAt 253 t35) (fun t36 => 
   pur Tryz.prog (Instr.indexAt 253 t23 v_k) fun t40 => 
   rd Tryz.prog (Instr.loadAt 286 t40) (fun t41 => 
   pur Tryz.prog (Instr.indexAt 253 t36 v_k) fun t42 => 
   act Tryz.prog (thenU (Instr.storeAt 286 t42 t41)) (fun _ w_4 => 
   pur Tryz.prog (binS .add 3 false true v_k (.int .i64 1)) fun t29 => 
   J_1 t29 w_4) (World.drew w_3)) (World.drew w_3)) (World.drew w_3)) (World.drew w_3))
    (pur Tryz.prog (binS .add 3 false true v_i (.int .i64 1)) fun t13 => 
  J t13 w_3)) [(.int .i64 0)] w_2) w_1) w_1) w_1)
   (Q (.tuple #[]) w_1)) w_1) [(.int .i64 0)] w
theorem eq147 (v_b : Value) (Q : Value → World → Prop) (w : World) : semF Tryz.prog 147 [v_b] Q w = S147 v_b Q w := by kernel_rfl
theorem ref147 {v_b : Value} {Q : Value → World → Prop} {w : World} (h : S147 v_b Q w) : callS Tryz.prog 147 #[v_b] Q w :=
  callS_of mix (fun a w => Tryz.call147 a w) (by kernel_rfl) (by rw [eq147]; exact h)
-- (*commons/commonsbook.Book).putRevokes
def S148 (v_b : Value) (Q : Value → World → Prop) (w : World) : Prop :=
 lp 1 (fun J => fun v_i w_1 => ∀ _j : Fr, 
  pur Tryz.prog (nilV v_b) fun t7 => 
  pur Tryz.prog (Instr.fieldAt 54 t7 20) fun t8 => 
  rd Tryz.prog (Instr.loadAt 48 t8) (fun t9 => 
  pur Tryz.prog (Builtin.len_ #[48] 3 #[t9]) fun t10 => 
  pur Tryz.prog (binS .lss 3 false false v_i t10) fun t11 => 
  condS t11
   (pur Tryz.prog (nilV v_b) fun t16 => 
  pur Tryz.prog (Instr.fieldAt 54 t16 20) fun t17 => 
  rd Tryz.prog (Instr.loadAt 48 t17) (fun t18 => 
  pur Tryz.prog (Instr.indexAt 48 t18 v_i) fun t20 => 
  rd Tryz.prog (Instr.loadAt 255 t20) (fun t21 => 
  pur Tryz.prog (Builtin.len_ #[255] 3 #[t21]) fun t22 => 
  callS Tryz.prog 240 #[v_i, (.int .i64 0), t22] (fun t23 w_2 => 
  lp 1 (fun J_1 => fun v_k w_3 => ∀ _j : Fr, 
   pur Tryz.prog (Builtin.len_ #[255] 3 #[t23]) fun t26 => 
   pur Tryz.prog (binS .lss 3 false false v_k t26) fun t27 => 
   condS t27
    (pur Tryz.prog (nilV v_b) fun t31 => 
   pur Tryz.prog (Instr.fieldAt 54 t31 20) fun t32 => 
   rd Tryz.prog (Instr.loadAt 48 t32) (fun t33 => 
   pur Tryz.prog (Instr.indexAt 48 t33 v_i) fun t35 => 
   rd Tryz.prog (Instr.loadAt 255 t35) (fun t36 => 
   pur Tryz.prog (Instr.indexAt 255 t23 v_k) fun t40 => 
   rd Tryz.prog (Instr.loadAt 289 t40) (fun t41 => 
   pur Tryz.prog (Instr.indexAt 255 t36 v_k) fun t42 => 
   act Tryz.prog (thenU (Instr.storeAt 289 t42 t41)) (fun _ w_4 => 
   pur Tryz.prog (binS .add 3 false true v_k (.int .i64 1)) fun t29 => 
   J_1 t29 w_4) (World.drew w_3)) (World.drew w_3)) (World.drew w_3)) (World.drew w_3))
    (pur Tryz.prog (binS .add 3 false true v_i (.int .i64 1)) fun t13 => 
  J t13 w_3)) [(.int .i64 0)] w_2) w_1) w_1) w_1)
   (Q (.tuple #[]) w_1)) w_1) [(.int .i64 0)] w
theorem eq148 (v_b : Value) (Q : Value → World → Prop) (w : World) : semF Tryz.prog 148 [v_b] Q w = S148 v_b Q w := by kernel_rfl
theorem ref148 {v_b : Value} {Q : Value → World → Prop} {w : World} (h : S148 v_b Q w) : callS Tryz.prog 148 #[v_b] Q w :=
  callS_of mix (fun a w => Tryz.call148 a w) (by kernel_rfl) (by rw [eq148]; exact h)
-- (*commons/commonsbook.Book).putEntries
def S149 (v_b : Value) (Q : Value → World → Prop) (w : World) : Prop :=
 lp 1 (fun J => fun v_i w_1 => ∀ _j : Fr, 
  pur Tryz.prog (nilV v_b) fun t7 => 
  pur Tryz.prog (Instr.fieldAt 54 t7 22) fun t8 => 
  rd Tryz.prog (Instr.loadAt 49 t8) (fun t9 => 
  pur Tryz.prog (Builtin.len_ #[49] 3 #[t9]) fun t10 => 
  pur Tryz.prog (binS .lss 3 false false v_i t10) fun t11 => 
  condS t11
   (pur Tryz.prog (nilV v_b) fun t16 => 
  pur Tryz.prog (Instr.fieldAt 54 t16 22) fun t17 => 
  rd Tryz.prog (Instr.loadAt 49 t17) (fun t18 => 
  pur Tryz.prog (Instr.indexAt 49 t18 v_i) fun t20 => 
  rd Tryz.prog (Instr.loadAt 257 t20) (fun t21 => 
  pur Tryz.prog (Builtin.len_ #[257] 3 #[t21]) fun t22 => 
  callS Tryz.prog 241 #[v_i, (.int .i64 0), t22] (fun t23 w_2 => 
  lp 1 (fun J_1 => fun v_k w_3 => ∀ _j : Fr, 
   pur Tryz.prog (Builtin.len_ #[257] 3 #[t23]) fun t26 => 
   pur Tryz.prog (binS .lss 3 false false v_k t26) fun t27 => 
   condS t27
    (pur Tryz.prog (nilV v_b) fun t31 => 
   pur Tryz.prog (Instr.fieldAt 54 t31 22) fun t32 => 
   rd Tryz.prog (Instr.loadAt 49 t32) (fun t33 => 
   pur Tryz.prog (Instr.indexAt 49 t33 v_i) fun t35 => 
   rd Tryz.prog (Instr.loadAt 257 t35) (fun t36 => 
   pur Tryz.prog (Instr.indexAt 257 t23 v_k) fun t40 => 
   rd Tryz.prog (Instr.loadAt 292 t40) (fun t41 => 
   pur Tryz.prog (Instr.indexAt 257 t36 v_k) fun t42 => 
   act Tryz.prog (thenU (Instr.storeAt 292 t42 t41)) (fun _ w_4 => 
   pur Tryz.prog (binS .add 3 false true v_k (.int .i64 1)) fun t29 => 
   J_1 t29 w_4) (World.drew w_3)) (World.drew w_3)) (World.drew w_3)) (World.drew w_3))
    (pur Tryz.prog (binS .add 3 false true v_i (.int .i64 1)) fun t13 => 
  J t13 w_3)) [(.int .i64 0)] w_2) w_1) w_1) w_1)
   (Q (.tuple #[]) w_1)) w_1) [(.int .i64 0)] w
theorem eq149 (v_b : Value) (Q : Value → World → Prop) (w : World) : semF Tryz.prog 149 [v_b] Q w = S149 v_b Q w := by kernel_rfl
theorem ref149 {v_b : Value} {Q : Value → World → Prop} {w : World} (h : S149 v_b Q w) : callS Tryz.prog 149 #[v_b] Q w :=
  callS_of mix (fun a w => Tryz.call149 a w) (by kernel_rfl) (by rw [eq149]; exact h)
-- (*commons/commonsbook.Book).putParts
def S150 (v_b : Value) (Q : Value → World → Prop) (w : World) : Prop :=
 lp 1 (fun J => fun v_i w_1 => ∀ _j : Fr, 
  pur Tryz.prog (nilV v_b) fun t7 => 
  pur Tryz.prog (Instr.fieldAt 54 t7 24) fun t8 => 
  rd Tryz.prog (Instr.loadAt 50 t8) (fun t9 => 
  pur Tryz.prog (Builtin.len_ #[50] 3 #[t9]) fun t10 => 
  pur Tryz.prog (binS .lss 3 false false v_i t10) fun t11 => 
  condS t11
   (pur Tryz.prog (nilV v_b) fun t16 => 
  pur Tryz.prog (Instr.fieldAt 54 t16 24) fun t17 => 
  rd Tryz.prog (Instr.loadAt 50 t17) (fun t18 => 
  pur Tryz.prog (Instr.indexAt 50 t18 v_i) fun t20 => 
  rd Tryz.prog (Instr.loadAt 113 t20) (fun t21 => 
  pur Tryz.prog (Builtin.len_ #[113] 3 #[t21]) fun t22 => 
  callS Tryz.prog 242 #[v_i, (.int .i64 0), t22] (fun t23 w_2 => 
  lp 1 (fun J_1 => fun v_k w_3 => ∀ _j : Fr, 
   pur Tryz.prog (Builtin.len_ #[113] 3 #[t23]) fun t26 => 
   pur Tryz.prog (binS .lss 3 false false v_k t26) fun t27 => 
   condS t27
    (pur Tryz.prog (nilV v_b) fun t31 => 
   pur Tryz.prog (Instr.fieldAt 54 t31 24) fun t32 => 
   rd Tryz.prog (Instr.loadAt 50 t32) (fun t33 => 
   pur Tryz.prog (Instr.indexAt 50 t33 v_i) fun t35 => 
   rd Tryz.prog (Instr.loadAt 113 t35) (fun t36 => 
   pur Tryz.prog (Instr.indexAt 113 t23 v_k) fun t40 => 
   rd Tryz.prog (Instr.loadAt 230 t40) (fun t41 => 
   pur Tryz.prog (Instr.indexAt 113 t36 v_k) fun t42 => 
   act Tryz.prog (thenU (Instr.storeAt 230 t42 t41)) (fun _ w_4 => 
   pur Tryz.prog (binS .add 3 false true v_k (.int .i64 1)) fun t29 => 
   J_1 t29 w_4) (World.drew w_3)) (World.drew w_3)) (World.drew w_3)) (World.drew w_3))
    (pur Tryz.prog (binS .add 3 false true v_i (.int .i64 1)) fun t13 => 
  J t13 w_3)) [(.int .i64 0)] w_2) w_1) w_1) w_1)
   (Q (.tuple #[]) w_1)) w_1) [(.int .i64 0)] w
theorem eq150 (v_b : Value) (Q : Value → World → Prop) (w : World) : semF Tryz.prog 150 [v_b] Q w = S150 v_b Q w := by kernel_rfl
theorem ref150 {v_b : Value} {Q : Value → World → Prop} {w : World} (h : S150 v_b Q w) : callS Tryz.prog 150 #[v_b] Q w :=
  callS_of mix (fun a w => Tryz.call150 a w) (by kernel_rfl) (by rw [eq150]; exact h)
-- (*commons/commonsbook.Book).growTexts
def S151 (v_b : Value) (Q : Value → World → Prop) (w : World) : Prop :=
 lp 2 (fun J => fun v_out v_i w_1 => ∀ _j : Fr, 
  pur Tryz.prog (nilV v_b) fun t9 => 
  pur Tryz.prog (Instr.fieldAt 54 t9 0) fun t10 => 
  rd Tryz.prog (Instr.loadAt 38 t10) (fun t11 => 
  pur Tryz.prog (Builtin.len_ #[38] 3 #[t11]) fun t12 => 
  pur Tryz.prog (binS .lss 3 false false v_i t12) fun t13 => 
  condS t13
   (pur Tryz.prog (nilV v_b) fun t17 => 
  pur Tryz.prog (Instr.fieldAt 54 t17 0) fun t18 => 
  rd Tryz.prog (Instr.loadAt 38 t18) (fun t19 => 
  pur Tryz.prog (Instr.indexAt 38 t19 v_i) fun t21 => 
  rd Tryz.prog (Instr.loadAt 243 t21) (fun t22 => 
  lp 2 (fun J_1 => fun v_l v_n w_2 => ∀ _j : Fr, 
   pur Tryz.prog (binS .lss 3 false true v_n (.int .i64 12)) fun t24 => 
   condS t24
    (pur Tryz.prog (Builtin.len_ #[243] 3 #[v_l]) fun t30 => 
   callS Tryz.prog 231 #[v_i, t30, (.int .i64 1)] (fun t31 w_3 => 
   act Tryz.prog (Builtin.append_ #[243, 243] 243 #[v_l, t31]) (fun t32 w_4 => 
   pur Tryz.prog (binS .add 3 false true v_n (.int .i64 1)) fun t26 => 
   J_1 t32 t26 w_4) w_3) w_2)
    (pur Tryz.prog (Builtin.len_ #[243] 3 #[v_l]) fun t37 => 
  callS Tryz.prog 231 #[v_i, t37, (.int .i64 60)] (fun t38 w_5 => 
  act Tryz.prog (Builtin.append_ #[243, 243] 243 #[v_l, t38]) (fun t39 w_6 => 
  act Tryz.prog (Instr.buildSlice 38 1 #[(0, t39)]) (fun t40 w_7 => 
  act Tryz.prog (Builtin.append_ #[38, 38] 38 #[v_out, t40]) (fun t41 w_8 => 
  pur Tryz.prog (binS .add 3 false true v_i (.int .i64 1)) fun t15 => 
  J t41 t15 w_8) w_7) w_6) w_5) w_2)) [t22, (.int .i64 0)] w_1) w_1) w_1)
   (Q v_out w_1)) w_1) [(.slice none 0 0), (.int .i64 0)] w
theorem eq151 (v_b : Value) (Q : Value → World → Prop) (w : World) : semF Tryz.prog 151 [v_b] Q w = S151 v_b Q w := by kernel_rfl
theorem ref151 {v_b : Value} {Q : Value → World → Prop} {w : World} (h : S151 v_b Q w) : callS Tryz.prog 151 #[v_b] Q w :=
  callS_of mix (fun a w => Tryz.call151 a w) (by kernel_rfl) (by rw [eq151]; exact h)
-- (*commons/commonsbook.Book).growInts
def S152 (v_b : Value) (Q : Value → World → Prop) (w : World) : Prop :=
 lp 2 (fun J => fun v_out v_i w_1 => ∀ _j : Fr, 
  pur Tryz.prog (nilV v_b) fun t9 => 
  pur Tryz.prog (Instr.fieldAt 54 t9 2) fun t10 => 
  rd Tryz.prog (Instr.loadAt 39 t10) (fun t11 => 
  pur Tryz.prog (Builtin.len_ #[39] 3 #[t11]) fun t12 => 
  pur Tryz.prog (binS .lss 3 false false v_i t12) fun t13 => 
  condS t13
   (pur Tryz.prog (nilV v_b) fun t17 => 
  pur Tryz.prog (Instr.fieldAt 54 t17 2) fun t18 => 
  rd Tryz.prog (Instr.loadAt 39 t18) (fun t19 => 
  pur Tryz.prog (Instr.indexAt 39 t19 v_i) fun t21 => 
  rd Tryz.prog (Instr.loadAt 65 t21) (fun t22 => 
  lp 2 (fun J_1 => fun v_l v_n w_2 => ∀ _j : Fr, 
   pur Tryz.prog (binS .lss 3 false true v_n (.int .i64 12)) fun t24 => 
   condS t24
    (pur Tryz.prog (Builtin.len_ #[65] 3 #[v_l]) fun t30 => 
   callS Tryz.prog 232 #[v_i, t30, (.int .i64 1)] (fun t31 w_3 => 
   act Tryz.prog (Builtin.append_ #[65, 65] 65 #[v_l, t31]) (fun t32 w_4 => 
   pur Tryz.prog (binS .add 3 false true v_n (.int .i64 1)) fun t26 => 
   J_1 t32 t26 w_4) w_3) w_2)
    (pur Tryz.prog (Builtin.len_ #[65] 3 #[v_l]) fun t37 => 
  callS Tryz.prog 232 #[v_i, t37, (.int .i64 60)] (fun t38 w_5 => 
  act Tryz.prog (Builtin.append_ #[65, 65] 65 #[v_l, t38]) (fun t39 w_6 => 
  act Tryz.prog (Instr.buildSlice 39 1 #[(0, t39)]) (fun t40 w_7 => 
  act Tryz.prog (Builtin.append_ #[39, 39] 39 #[v_out, t40]) (fun t41 w_8 => 
  pur Tryz.prog (binS .add 3 false true v_i (.int .i64 1)) fun t15 => 
  J t41 t15 w_8) w_7) w_6) w_5) w_2)) [t22, (.int .i64 0)] w_1) w_1) w_1)
   (Q v_out w_1)) w_1) [(.slice none 0 0), (.int .i64 0)] w
theorem eq152 (v_b : Value) (Q : Value → World → Prop) (w : World) : semF Tryz.prog 152 [v_b] Q w = S152 v_b Q w := by kernel_rfl
theorem ref152 {v_b : Value} {Q : Value → World → Prop} {w : World} (h : S152 v_b Q w) : callS Tryz.prog 152 #[v_b] Q w :=
  callS_of mix (fun a w => Tryz.call152 a w) (by kernel_rfl) (by rw [eq152]; exact h)
-- (*commons/commonsbook.Book).growNums
def S153 (v_b : Value) (Q : Value → World → Prop) (w : World) : Prop :=
 lp 2 (fun J => fun v_out v_i w_1 => ∀ _j : Fr, 
  pur Tryz.prog (nilV v_b) fun t9 => 
  pur Tryz.prog (Instr.fieldAt 54 t9 4) fun t10 => 
  rd Tryz.prog (Instr.loadAt 40 t10) (fun t11 => 
  pur Tryz.prog (Builtin.len_ #[40] 3 #[t11]) fun t12 => 
  pur Tryz.prog (binS .lss 3 false false v_i t12) fun t13 => 
  condS t13
   (pur Tryz.prog (nilV v_b) fun t17 => 
  pur Tryz.prog (Instr.fieldAt 54 t17 4) fun t18 => 
  rd Tryz.prog (Instr.loadAt 40 t18) (fun t19 => 
  pur Tryz.prog (Instr.indexAt 40 t19 v_i) fun t21 => 
  rd Tryz.prog (Instr.loadAt 245 t21) (fun t22 => 
  lp 2 (fun J_1 => fun v_l v_n w_2 => ∀ _j : Fr, 
   pur Tryz.prog (binS .lss 3 false true v_n (.int .i64 12)) fun t24 => 
   condS t24
    (pur Tryz.prog (Builtin.len_ #[245] 3 #[v_l]) fun t30 => 
   callS Tryz.prog 233 #[v_i, t30, (.int .i64 1)] (fun t31 w_3 => 
   act Tryz.prog (Builtin.append_ #[245, 245] 245 #[v_l, t31]) (fun t32 w_4 => 
   pur Tryz.prog (binS .add 3 false true v_n (.int .i64 1)) fun t26 => 
   J_1 t32 t26 w_4) w_3) w_2)
    (pur Tryz.prog (Builtin.len_ #[245] 3 #[v_l]) fun t37 => 
  callS Tryz.prog 233 #[v_i, t37, (.int .i64 60)] (fun t38 w_5 => 
  act Tryz.prog (Builtin.append_ #[245, 245] 245 #[v_l, t38]) (fun t39 w_6 => 
  act Tryz.prog (Instr.buildSlice 40 1 #[(0, t39)]) (fun t40 w_7 => 
  act Tryz.prog (Builtin.append_ #[40, 40] 40 #[v_out, t40]) (fun t41 w_8 => 
  pur Tryz.prog (binS .add 3 false true v_i (.int .i64 1)) fun t15 => 
  J t41 t15 w_8) w_7) w_6) w_5) w_2)) [t22, (.int .i64 0)] w_1) w_1) w_1)
   (Q v_out w_1)) w_1) [(.slice none 0 0), (.int .i64 0)] w
theorem eq153 (v_b : Value) (Q : Value → World → Prop) (w : World) : semF Tryz.prog 153 [v_b] Q w = S153 v_b Q w := by kernel_rfl
theorem ref153 {v_b : Value} {Q : Value → World → Prop} {w : World} (h : S153 v_b Q w) : callS Tryz.prog 153 #[v_b] Q w :=
  callS_of mix (fun a w => Tryz.call153 a w) (by kernel_rfl) (by rw [eq153]; exact h)
-- (*commons/commonsbook.Book).growSpans
def S154 (v_b : Value) (Q : Value → World → Prop) (w : World) : Prop :=
 lp 2 (fun J => fun v_out v_i w_1 => ∀ _j : Fr, 
  pur Tryz.prog (nilV v_b) fun t9 => 
  pur Tryz.prog (Instr.fieldAt 54 t9 6) fun t10 => 
  rd Tryz.prog (Instr.loadAt 41 t10) (fun t11 => 
  pur Tryz.prog (Builtin.len_ #[41] 3 #[t11]) fun t12 => 
  pur Tryz.prog (binS .lss 3 false false v_i t12) fun t13 => 
  condS t13
   (pur Tryz.prog (nilV v_b) fun t17 => 
  pur Tryz.prog (Instr.fieldAt 54 t17 6) fun t18 => 
  rd Tryz.prog (Instr.loadAt 41 t18) (fun t19 => 
  pur Tryz.prog (Instr.indexAt 41 t19 v_i) fun t21 => 
  rd Tryz.prog (Instr.loadAt 90 t21) (fun t22 => 
  lp 2 (fun J_1 => fun v_l v_n w_2 => ∀ _j : Fr, 
   pur Tryz.prog (binS .lss 3 false true v_n (.int .i64 12)) fun t24 => 
   condS t24
    (pur Tryz.prog (Builtin.len_ #[90] 3 #[v_l]) fun t30 => 
   callS Tryz.prog 234 #[v_i, t30, (.int .i64 1)] (fun t31 w_3 => 
   act Tryz.prog (Builtin.append_ #[90, 90] 90 #[v_l, t31]) (fun t32 w_4 => 
   pur Tryz.prog (binS .add 3 false true v_n (.int .i64 1)) fun t26 => 
   J_1 t32 t26 w_4) w_3) w_2)
    (pur Tryz.prog (Builtin.len_ #[90] 3 #[v_l]) fun t37 => 
  callS Tryz.prog 234 #[v_i, t37, (.int .i64 60)] (fun t38 w_5 => 
  act Tryz.prog (Builtin.append_ #[90, 90] 90 #[v_l, t38]) (fun t39 w_6 => 
  act Tryz.prog (Instr.buildSlice 41 1 #[(0, t39)]) (fun t40 w_7 => 
  act Tryz.prog (Builtin.append_ #[41, 41] 41 #[v_out, t40]) (fun t41 w_8 => 
  pur Tryz.prog (binS .add 3 false true v_i (.int .i64 1)) fun t15 => 
  J t41 t15 w_8) w_7) w_6) w_5) w_2)) [t22, (.int .i64 0)] w_1) w_1) w_1)
   (Q v_out w_1)) w_1) [(.slice none 0 0), (.int .i64 0)] w
theorem eq154 (v_b : Value) (Q : Value → World → Prop) (w : World) : semF Tryz.prog 154 [v_b] Q w = S154 v_b Q w := by kernel_rfl
theorem ref154 {v_b : Value} {Q : Value → World → Prop} {w : World} (h : S154 v_b Q w) : callS Tryz.prog 154 #[v_b] Q w :=
  callS_of mix (fun a w => Tryz.call154 a w) (by kernel_rfl) (by rw [eq154]; exact h)
-- (*commons/commonsbook.Book).growLocks
def S155 (v_b : Value) (Q : Value → World → Prop) (w : World) : Prop :=
 lp 2 (fun J => fun v_out v_i w_1 => ∀ _j : Fr, 
  pur Tryz.prog (nilV v_b) fun t9 => 
  pur Tryz.prog (Instr.fieldAt 54 t9 8) fun t10 => 
  rd Tryz.prog (Instr.loadAt 42 t10) (fun t11 => 
  pur Tryz.prog (Builtin.len_ #[42] 3 #[t11]) fun t12 => 
  pur Tryz.prog (binS .lss 3 false false v_i t12) fun t13 => 
  condS t13
   (pur Tryz.prog (nilV v_b) fun t17 => 
  pur Tryz.prog (Instr.fieldAt 54 t17 8) fun t18 => 
  rd Tryz.prog (Instr.loadAt 42 t18) (fun t19 => 
  pur Tryz.prog (Instr.indexAt 42 t19 v_i) fun t21 => 
  rd Tryz.prog (Instr.loadAt 129 t21) (fun t22 => 
  lp 2 (fun J_1 => fun v_l v_n w_2 => ∀ _j : Fr, 
   pur Tryz.prog (binS .lss 3 false true v_n (.int .i64 12)) fun t24 => 
   condS t24
    (pur Tryz.prog (Builtin.len_ #[129] 3 #[v_l]) fun t30 => 
   callS Tryz.prog 235 #[v_i, t30, (.int .i64 1)] (fun t31 w_3 => 
   act Tryz.prog (Builtin.append_ #[129, 129] 129 #[v_l, t31]) (fun t32 w_4 => 
   pur Tryz.prog (binS .add 3 false true v_n (.int .i64 1)) fun t26 => 
   J_1 t32 t26 w_4) w_3) w_2)
    (pur Tryz.prog (Builtin.len_ #[129] 3 #[v_l]) fun t37 => 
  callS Tryz.prog 235 #[v_i, t37, (.int .i64 60)] (fun t38 w_5 => 
  act Tryz.prog (Builtin.append_ #[129, 129] 129 #[v_l, t38]) (fun t39 w_6 => 
  act Tryz.prog (Instr.buildSlice 42 1 #[(0, t39)]) (fun t40 w_7 => 
  act Tryz.prog (Builtin.append_ #[42, 42] 42 #[v_out, t40]) (fun t41 w_8 => 
  pur Tryz.prog (binS .add 3 false true v_i (.int .i64 1)) fun t15 => 
  J t41 t15 w_8) w_7) w_6) w_5) w_2)) [t22, (.int .i64 0)] w_1) w_1) w_1)
   (Q v_out w_1)) w_1) [(.slice none 0 0), (.int .i64 0)] w
theorem eq155 (v_b : Value) (Q : Value → World → Prop) (w : World) : semF Tryz.prog 155 [v_b] Q w = S155 v_b Q w := by kernel_rfl
theorem ref155 {v_b : Value} {Q : Value → World → Prop} {w : World} (h : S155 v_b Q w) : callS Tryz.prog 155 #[v_b] Q w :=
  callS_of mix (fun a w => Tryz.call155 a w) (by kernel_rfl) (by rw [eq155]; exact h)
-- (*commons/commonsbook.Book).growImages
def S156 (v_b : Value) (Q : Value → World → Prop) (w : World) : Prop :=
 lp 2 (fun J => fun v_out v_i w_1 => ∀ _j : Fr, 
  pur Tryz.prog (nilV v_b) fun t9 => 
  pur Tryz.prog (Instr.fieldAt 54 t9 10) fun t10 => 
  rd Tryz.prog (Instr.loadAt 43 t10) (fun t11 => 
  pur Tryz.prog (Builtin.len_ #[43] 3 #[t11]) fun t12 => 
  pur Tryz.prog (binS .lss 3 false false v_i t12) fun t13 => 
  condS t13
   (pur Tryz.prog (nilV v_b) fun t17 => 
  pur Tryz.prog (Instr.fieldAt 54 t17 10) fun t18 => 
  rd Tryz.prog (Instr.loadAt 43 t18) (fun t19 => 
  pur Tryz.prog (Instr.indexAt 43 t19 v_i) fun t21 => 
  rd Tryz.prog (Instr.loadAt 150 t21) (fun t22 => 
  lp 2 (fun J_1 => fun v_l v_n w_2 => ∀ _j : Fr, 
   pur Tryz.prog (binS .lss 3 false true v_n (.int .i64 12)) fun t24 => 
   condS t24
    (pur Tryz.prog (Builtin.len_ #[150] 3 #[v_l]) fun t30 => 
   callS Tryz.prog 236 #[v_i, t30, (.int .i64 1)] (fun t31 w_3 => 
   act Tryz.prog (Builtin.append_ #[150, 150] 150 #[v_l, t31]) (fun t32 w_4 => 
   pur Tryz.prog (binS .add 3 false true v_n (.int .i64 1)) fun t26 => 
   J_1 t32 t26 w_4) w_3) w_2)
    (pur Tryz.prog (Builtin.len_ #[150] 3 #[v_l]) fun t37 => 
  callS Tryz.prog 236 #[v_i, t37, (.int .i64 60)] (fun t38 w_5 => 
  act Tryz.prog (Builtin.append_ #[150, 150] 150 #[v_l, t38]) (fun t39 w_6 => 
  act Tryz.prog (Instr.buildSlice 43 1 #[(0, t39)]) (fun t40 w_7 => 
  act Tryz.prog (Builtin.append_ #[43, 43] 43 #[v_out, t40]) (fun t41 w_8 => 
  pur Tryz.prog (binS .add 3 false true v_i (.int .i64 1)) fun t15 => 
  J t41 t15 w_8) w_7) w_6) w_5) w_2)) [t22, (.int .i64 0)] w_1) w_1) w_1)
   (Q v_out w_1)) w_1) [(.slice none 0 0), (.int .i64 0)] w
theorem eq156 (v_b : Value) (Q : Value → World → Prop) (w : World) : semF Tryz.prog 156 [v_b] Q w = S156 v_b Q w := by kernel_rfl
theorem ref156 {v_b : Value} {Q : Value → World → Prop} {w : World} (h : S156 v_b Q w) : callS Tryz.prog 156 #[v_b] Q w :=
  callS_of mix (fun a w => Tryz.call156 a w) (by kernel_rfl) (by rw [eq156]; exact h)
-- (*commons/commonsbook.Book).growRecords
def S157 (v_b : Value) (Q : Value → World → Prop) (w : World) : Prop :=
 lp 2 (fun J => fun v_out v_i w_1 => ∀ _j : Fr, 
  pur Tryz.prog (nilV v_b) fun t9 => 
  pur Tryz.prog (Instr.fieldAt 54 t9 12) fun t10 => 
  rd Tryz.prog (Instr.loadAt 44 t10) (fun t11 => 
  pur Tryz.prog (Builtin.len_ #[44] 3 #[t11]) fun t12 => 
  pur Tryz.prog (binS .lss 3 false false v_i t12) fun t13 => 
  condS t13
   (pur Tryz.prog (nilV v_b) fun t17 => 
  pur Tryz.prog (Instr.fieldAt 54 t17 12) fun t18 => 
  rd Tryz.prog (Instr.loadAt 44 t18) (fun t19 => 
  pur Tryz.prog (Instr.indexAt 44 t19 v_i) fun t21 => 
  rd Tryz.prog (Instr.loadAt 247 t21) (fun t22 => 
  lp 2 (fun J_1 => fun v_l v_n w_2 => ∀ _j : Fr, 
   pur Tryz.prog (binS .lss 3 false true v_n (.int .i64 12)) fun t24 => 
   condS t24
    (pur Tryz.prog (Builtin.len_ #[247] 3 #[v_l]) fun t30 => 
   callS Tryz.prog 228 #[v_i, t30, (.int .i64 1)] (fun t31 w_3 => 
   act Tryz.prog (Builtin.append_ #[247, 247] 247 #[v_l, t31]) (fun t32 w_4 => 
   pur Tryz.prog (binS .add 3 false true v_n (.int .i64 1)) fun t26 => 
   J_1 t32 t26 w_4) w_3) w_2)
    (pur Tryz.prog (Builtin.len_ #[247] 3 #[v_l]) fun t37 => 
  callS Tryz.prog 228 #[v_i, t37, (.int .i64 60)] (fun t38 w_5 => 
  act Tryz.prog (Builtin.append_ #[247, 247] 247 #[v_l, t38]) (fun t39 w_6 => 
  act Tryz.prog (Instr.buildSlice 44 1 #[(0, t39)]) (fun t40 w_7 => 
  act Tryz.prog (Builtin.append_ #[44, 44] 44 #[v_out, t40]) (fun t41 w_8 => 
  pur Tryz.prog (binS .add 3 false true v_i (.int .i64 1)) fun t15 => 
  J t41 t15 w_8) w_7) w_6) w_5) w_2)) [t22, (.int .i64 0)] w_1) w_1) w_1)
   (Q v_out w_1)) w_1) [(.slice none 0 0), (.int .i64 0)] w
theorem eq157 (v_b : Value) (Q : Value → World → Prop) (w : World) : semF Tryz.prog 157 [v_b] Q w = S157 v_b Q w := by kernel_rfl
theorem ref157 {v_b : Value} {Q : Value → World → Prop} {w : World} (h : S157 v_b Q w) : callS Tryz.prog 157 #[v_b] Q w :=
  callS_of mix (fun a w => Tryz.call157 a w) (by kernel_rfl) (by rw [eq157]; exact h)
-- (*commons/commonsbook.Book).growPackets
def S158 (v_b : Value) (Q : Value → World → Prop) (w : World) : Prop :=
 lp 2 (fun J => fun v_out v_i w_1 => ∀ _j : Fr, 
  pur Tryz.prog (nilV v_b) fun t9 => 
  pur Tryz.prog (Instr.fieldAt 54 t9 14) fun t10 => 
  rd Tryz.prog (Instr.loadAt 45 t10) (fun t11 => 
  pur Tryz.prog (Builtin.len_ #[45] 3 #[t11]) fun t12 => 
  pur Tryz.prog (binS .lss 3 false false v_i t12) fun t13 => 
  condS t13
   (pur Tryz.prog (nilV v_b) fun t17 => 
  pur Tryz.prog (Instr.fieldAt 54 t17 14) fun t18 => 
  rd Tryz.prog (Instr.loadAt 45 t18) (fun t19 => 
  pur Tryz.prog (Instr.indexAt 45 t19 v_i) fun t21 => 
  rd Tryz.prog (Instr.loadAt 249 t21) (fun t22 => 
  lp 2 (fun J_1 => fun v_l v_n w_2 => ∀ _j : Fr, 
   pur Tryz.prog (binS .lss 3 false true v_n (.int .i64 12)) fun t24 => 
   condS t24
    (pur Tryz.prog (Builtin.len_ #[249] 3 #[v_l]) fun t30 => 
   callS Tryz.prog 237 #[v_i, t30, (.int .i64 1)] (fun t31 w_3 => 
   act Tryz.prog (Builtin.append_ #[249, 249] 249 #[v_l, t31]) (fun t32 w_4 => 
   pur Tryz.prog (binS .add 3 false true v_n (.int .i64 1)) fun t26 => 
   J_1 t32 t26 w_4) w_3) w_2)
    (pur Tryz.prog (Builtin.len_ #[249] 3 #[v_l]) fun t37 => 
  callS Tryz.prog 237 #[v_i, t37, (.int .i64 60)] (fun t38 w_5 => 
  act Tryz.prog (Builtin.append_ #[249, 249] 249 #[v_l, t38]) (fun t39 w_6 => 
  act Tryz.prog (Instr.buildSlice 45 1 #[(0, t39)]) (fun t40 w_7 => 
  act Tryz.prog (Builtin.append_ #[45, 45] 45 #[v_out, t40]) (fun t41 w_8 => 
  pur Tryz.prog (binS .add 3 false true v_i (.int .i64 1)) fun t15 => 
  J t41 t15 w_8) w_7) w_6) w_5) w_2)) [t22, (.int .i64 0)] w_1) w_1) w_1)
   (Q v_out w_1)) w_1) [(.slice none 0 0), (.int .i64 0)] w
theorem eq158 (v_b : Value) (Q : Value → World → Prop) (w : World) : semF Tryz.prog 158 [v_b] Q w = S158 v_b Q w := by kernel_rfl
theorem ref158 {v_b : Value} {Q : Value → World → Prop} {w : World} (h : S158 v_b Q w) : callS Tryz.prog 158 #[v_b] Q w :=
  callS_of mix (fun a w => Tryz.call158 a w) (by kernel_rfl) (by rw [eq158]; exact h)
-- (*commons/commonsbook.Book).growFrames
def S159 (v_b : Value) (Q : Value → World → Prop) (w : World) : Prop :=
 lp 2 (fun J => fun v_out v_i w_1 => ∀ _j : Fr, 
  pur Tryz.prog (nilV v_b) fun t9 => 
  pur Tryz.prog (Instr.fieldAt 54 t9 16) fun t10 => 
  rd Tryz.prog (Instr.loadAt 46 t10) (fun t11 => 
  pur Tryz.prog (Builtin.len_ #[46] 3 #[t11]) fun t12 => 
  pur Tryz.prog (binS .lss 3 false false v_i t12) fun t13 => 
  condS t13
   (pur Tryz.prog (nilV v_b) fun t17 => 
  pur Tryz.prog (Instr.fieldAt 54 t17 16) fun t18 => 
  rd Tryz.prog (Instr.loadAt 46 t18) (fun t19 => 
  pur Tryz.prog (Instr.indexAt 46 t19 v_i) fun t21 => 
  rd Tryz.prog (Instr.loadAt 251 t21) (fun t22 => 
  lp 2 (fun J_1 => fun v_l v_n w_2 => ∀ _j : Fr, 
   pur Tryz.prog (binS .lss 3 false true v_n (.int .i64 12)) fun t24 => 
   condS t24
    (pur Tryz.prog (Builtin.len_ #[251] 3 #[v_l]) fun t30 => 
   callS Tryz.prog 238 #[v_i, t30, (.int .i64 1)] (fun t31 w_3 => 
   act Tryz.prog (Builtin.append_ #[251, 251] 251 #[v_l, t31]) (fun t32 w_4 => 
   pur Tryz.prog (binS .add 3 false true v_n (.int .i64 1)) fun t26 => 
   J_1 t32 t26 w_4) w_3) w_2)
    (pur Tryz.prog (Builtin.len_ #[251] 3 #[v_l]) fun t37 => 
  callS Tryz.prog 238 #[v_i, t37, (.int .i64 60)] (fun t38 w_5 => 
  act Tryz.prog (Builtin.append_ #[251, 251] 251 #[v_l, t38]) (fun t39 w_6 => 
  act Tryz.prog (Instr.buildSlice 46 1 #[(0, t39)]) (fun t40 w_7 => 
  act Tryz.prog (Builtin.append_ #[46, 46] 46 #[v_out, t40]) (fun t41 w_8 => 
  pur Tryz.prog (binS .add 3 false true v_i (.int .i64 1)) fun t15 => 
  J t41 t15 w_8) w_7) w_6) w_5) w_2)) [t22, (.int .i64 0)] w_1) w_1) w_1)
   (Q v_out w_1)) w_1) [(.slice none 0 0), (.int .i64 0)] w
theorem eq159 (v_b : Value) (Q : Value → World → Prop) (w : World) : semF Tryz.prog 159 [v_b] Q w = S159 v_b Q w := by kernel_rfl
theorem ref159 {v_b : Value} {Q : Value → World → Prop} {w : World} (h : S159 v_b Q w) : callS Tryz.prog 159 #[v_b] Q w :=
  callS_of mix (fun a w => Tryz.call159 a w) (by kernel_rfl) (by rw [eq159]; exact h)
-- (*commons/commonsbook.Book).growWaits
def S160 (v_b : Value) (Q : Value → World → Prop) (w : World) : Prop :=
 lp 2 (fun J => fun v_out v_i w_1 => ∀ _j : Fr, 
  pur Tryz.prog (nilV v_b) fun t9 => 
  pur Tryz.prog (Instr.fieldAt 54 t9 18) fun t10 => 
  rd Tryz.prog (Instr.loadAt 47 t10) (fun t11 => 
  pur Tryz.prog (Builtin.len_ #[47] 3 #[t11]) fun t12 => 
  pur Tryz.prog (binS .lss 3 false false v_i t12) fun t13 => 
  condS t13
   (pur Tryz.prog (nilV v_b) fun t17 => 
  pur Tryz.prog (Instr.fieldAt 54 t17 18) fun t18 => 
  rd Tryz.prog (Instr.loadAt 47 t18) (fun t19 => 
  pur Tryz.prog (Instr.indexAt 47 t19 v_i) fun t21 => 
  rd Tryz.prog (Instr.loadAt 253 t21) (fun t22 => 
  lp 2 (fun J_1 => fun v_l v_n w_2 => ∀ _j : Fr, 
   pur Tryz.prog (binS .lss 3 false true v_n (.int .i64 12)) fun t24 => 
   condS t24
    (pur Tryz.prog (Builtin.len_ #[253] 3 #[v_l]) fun t30 => 
   callS Tryz.prog 239 #[v_i, t30, (.int .i64 1)] (fun t31 w_3 => 
   act Tryz.prog (Builtin.append_ #[253, 253] 253 #[v_l, t31]) (fun t32 w_4 => 
   pur Tryz.prog (binS .add 3 false true v_n (.int .i64 1)) fun t26 => 
   J_1 t32 t26 w_4) w_3) w_2)
    (pur Tryz.prog (Builtin.len_ #[253] 3 #[v_l]) fun t37 => 
  callS Tryz.prog 239 #[v_i, t37, (.int .i64 60)] (fun t38 w_5 => 
  act Tryz.prog (Builtin.append_ #[253, 253] 253 #[v_l, t38]) (fun t39 w_6 => 
  act Tryz.prog (Instr.buildSlice 47 1 #[(0, t39)]) (fun t40 w_7 => 
  act Tryz.prog (Builtin.append_ #[47, 47] 47 #[v_out, t40]) (fun t41 w_8 => 
  pur Tryz.prog (binS .add 3 false true v_i (.int .i64 1)) fun t15 => 
  J t41 t15 w_8) w_7) w_6) w_5) w_2)) [t22, (.int .i64 0)] w_1) w_1) w_1)
   (Q v_out w_1)) w_1) [(.slice none 0 0), (.int .i64 0)] w
theorem eq160 (v_b : Value) (Q : Value → World → Prop) (w : World) : semF Tryz.prog 160 [v_b] Q w = S160 v_b Q w := by kernel_rfl
theorem ref160 {v_b : Value} {Q : Value → World → Prop} {w : World} (h : S160 v_b Q w) : callS Tryz.prog 160 #[v_b] Q w :=
  callS_of mix (fun a w => Tryz.call160 a w) (by kernel_rfl) (by rw [eq160]; exact h)
-- (*commons/commonsbook.Book).growRevokes
def S161 (v_b : Value) (Q : Value → World → Prop) (w : World) : Prop :=
 lp 2 (fun J => fun v_out v_i w_1 => ∀ _j : Fr, 
  pur Tryz.prog (nilV v_b) fun t9 => 
  pur Tryz.prog (Instr.fieldAt 54 t9 20) fun t10 => 
  rd Tryz.prog (Instr.loadAt 48 t10) (fun t11 => 
  pur Tryz.prog (Builtin.len_ #[48] 3 #[t11]) fun t12 => 
  pur Tryz.prog (binS .lss 3 false false v_i t12) fun t13 => 
  condS t13
   (pur Tryz.prog (nilV v_b) fun t17 => 
  pur Tryz.prog (Instr.fieldAt 54 t17 20) fun t18 => 
  rd Tryz.prog (Instr.loadAt 48 t18) (fun t19 => 
  pur Tryz.prog (Instr.indexAt 48 t19 v_i) fun t21 => 
  rd Tryz.prog (Instr.loadAt 255 t21) (fun t22 => 
  lp 2 (fun J_1 => fun v_l v_n w_2 => ∀ _j : Fr, 
   pur Tryz.prog (binS .lss 3 false true v_n (.int .i64 12)) fun t24 => 
   condS t24
    (pur Tryz.prog (Builtin.len_ #[255] 3 #[v_l]) fun t30 => 
   callS Tryz.prog 240 #[v_i, t30, (.int .i64 1)] (fun t31 w_3 => 
   act Tryz.prog (Builtin.append_ #[255, 255] 255 #[v_l, t31]) (fun t32 w_4 => 
   pur Tryz.prog (binS .add 3 false true v_n (.int .i64 1)) fun t26 => 
   J_1 t32 t26 w_4) w_3) w_2)
    (pur Tryz.prog (Builtin.len_ #[255] 3 #[v_l]) fun t37 => 
  callS Tryz.prog 240 #[v_i, t37, (.int .i64 60)] (fun t38 w_5 => 
  act Tryz.prog (Builtin.append_ #[255, 255] 255 #[v_l, t38]) (fun t39 w_6 => 
  act Tryz.prog (Instr.buildSlice 48 1 #[(0, t39)]) (fun t40 w_7 => 
  act Tryz.prog (Builtin.append_ #[48, 48] 48 #[v_out, t40]) (fun t41 w_8 => 
  pur Tryz.prog (binS .add 3 false true v_i (.int .i64 1)) fun t15 => 
  J t41 t15 w_8) w_7) w_6) w_5) w_2)) [t22, (.int .i64 0)] w_1) w_1) w_1)
   (Q v_out w_1)) w_1) [(.slice none 0 0), (.int .i64 0)] w
theorem eq161 (v_b : Value) (Q : Value → World → Prop) (w : World) : semF Tryz.prog 161 [v_b] Q w = S161 v_b Q w := by kernel_rfl
theorem ref161 {v_b : Value} {Q : Value → World → Prop} {w : World} (h : S161 v_b Q w) : callS Tryz.prog 161 #[v_b] Q w :=
  callS_of mix (fun a w => Tryz.call161 a w) (by kernel_rfl) (by rw [eq161]; exact h)
-- (*commons/commonsbook.Book).growEntries
def S162 (v_b : Value) (Q : Value → World → Prop) (w : World) : Prop :=
 lp 2 (fun J => fun v_out v_i w_1 => ∀ _j : Fr, 
  pur Tryz.prog (nilV v_b) fun t9 => 
  pur Tryz.prog (Instr.fieldAt 54 t9 22) fun t10 => 
  rd Tryz.prog (Instr.loadAt 49 t10) (fun t11 => 
  pur Tryz.prog (Builtin.len_ #[49] 3 #[t11]) fun t12 => 
  pur Tryz.prog (binS .lss 3 false false v_i t12) fun t13 => 
  condS t13
   (pur Tryz.prog (nilV v_b) fun t17 => 
  pur Tryz.prog (Instr.fieldAt 54 t17 22) fun t18 => 
  rd Tryz.prog (Instr.loadAt 49 t18) (fun t19 => 
  pur Tryz.prog (Instr.indexAt 49 t19 v_i) fun t21 => 
  rd Tryz.prog (Instr.loadAt 257 t21) (fun t22 => 
  lp 2 (fun J_1 => fun v_l v_n w_2 => ∀ _j : Fr, 
   pur Tryz.prog (binS .lss 3 false true v_n (.int .i64 12)) fun t24 => 
   condS t24
    (pur Tryz.prog (Builtin.len_ #[257] 3 #[v_l]) fun t30 => 
   callS Tryz.prog 241 #[v_i, t30, (.int .i64 1)] (fun t31 w_3 => 
   act Tryz.prog (Builtin.append_ #[257, 257] 257 #[v_l, t31]) (fun t32 w_4 => 
   pur Tryz.prog (binS .add 3 false true v_n (.int .i64 1)) fun t26 => 
   J_1 t32 t26 w_4) w_3) w_2)
    (pur Tryz.prog (Builtin.len_ #[257] 3 #[v_l]) fun t37 => 
  callS Tryz.prog 241 #[v_i, t37, (.int .i64 60)] (fun t38 w_5 => 
  act Tryz.prog (Builtin.append_ #[257, 257] 257 #[v_l, t38]) (fun t39 w_6 => 
  act Tryz.prog (Instr.buildSlice 49 1 #[(0, t39)]) (fun t40 w_7 => 
  act Tryz.prog (Builtin.append_ #[49, 49] 49 #[v_out, t40]) (fun t41 w_8 => 
  pur Tryz.prog (binS .add 3 false true v_i (.int .i64 1)) fun t15 => 
  J t41 t15 w_8) w_7) w_6) w_5) w_2)) [t22, (.int .i64 0)] w_1) w_1) w_1)
   (Q v_out w_1)) w_1) [(.slice none 0 0), (.int .i64 0)] w
theorem eq162 (v_b : Value) (Q : Value → World → Prop) (w : World) : semF Tryz.prog 162 [v_b] Q w = S162 v_b Q w := by kernel_rfl
theorem ref162 {v_b : Value} {Q : Value → World → Prop} {w : World} (h : S162 v_b Q w) : callS Tryz.prog 162 #[v_b] Q w :=
  callS_of mix (fun a w => Tryz.call162 a w) (by kernel_rfl) (by rw [eq162]; exact h)
-- (*commons/commonsbook.Book).growParts
def S163 (v_b : Value) (Q : Value → World → Prop) (w : World) : Prop :=
 lp 2 (fun J => fun v_out v_i w_1 => ∀ _j : Fr, 
  pur Tryz.prog (nilV v_b) fun t9 => 
  pur Tryz.prog (Instr.fieldAt 54 t9 24) fun t10 => 
  rd Tryz.prog (Instr.loadAt 50 t10) (fun t11 => 
  pur Tryz.prog (Builtin.len_ #[50] 3 #[t11]) fun t12 => 
  pur Tryz.prog (binS .lss 3 false false v_i t12) fun t13 => 
  condS t13
   (pur Tryz.prog (nilV v_b) fun t17 => 
  pur Tryz.prog (Instr.fieldAt 54 t17 24) fun t18 => 
  rd Tryz.prog (Instr.loadAt 50 t18) (fun t19 => 
  pur Tryz.prog (Instr.indexAt 50 t19 v_i) fun t21 => 
  rd Tryz.prog (Instr.loadAt 113 t21) (fun t22 => 
  lp 2 (fun J_1 => fun v_l v_n w_2 => ∀ _j : Fr, 
   pur Tryz.prog (binS .lss 3 false true v_n (.int .i64 12)) fun t24 => 
   condS t24
    (pur Tryz.prog (Builtin.len_ #[113] 3 #[v_l]) fun t30 => 
   callS Tryz.prog 242 #[v_i, t30, (.int .i64 1)] (fun t31 w_3 => 
   act Tryz.prog (Builtin.append_ #[113, 113] 113 #[v_l, t31]) (fun t32 w_4 => 
   pur Tryz.prog (binS .add 3 false true v_n (.int .i64 1)) fun t26 => 
   J_1 t32 t26 w_4) w_3) w_2)
    (pur Tryz.prog (Builtin.len_ #[113] 3 #[v_l]) fun t37 => 
  callS Tryz.prog 242 #[v_i, t37, (.int .i64 60)] (fun t38 w_5 => 
  act Tryz.prog (Builtin.append_ #[113, 113] 113 #[v_l, t38]) (fun t39 w_6 => 
  act Tryz.prog (Instr.buildSlice 50 1 #[(0, t39)]) (fun t40 w_7 => 
  act Tryz.prog (Builtin.append_ #[50, 50] 50 #[v_out, t40]) (fun t41 w_8 => 
  pur Tryz.prog (binS .add 3 false true v_i (.int .i64 1)) fun t15 => 
  J t41 t15 w_8) w_7) w_6) w_5) w_2)) [t22, (.int .i64 0)] w_1) w_1) w_1)
   (Q v_out w_1)) w_1) [(.slice none 0 0), (.int .i64 0)] w
theorem eq163 (v_b : Value) (Q : Value → World → Prop) (w : World) : semF Tryz.prog 163 [v_b] Q w = S163 v_b Q w := by kernel_rfl
theorem ref163 {v_b : Value} {Q : Value → World → Prop} {w : World} (h : S163 v_b Q w) : callS Tryz.prog 163 #[v_b] Q w :=
  callS_of mix (fun a w => Tryz.call163 a w) (by kernel_rfl) (by rw [eq163]; exact h)
-- (*commons/commonsbook.Book).growMsgs
def S164 (v_b : Value) (Q : Value → World → Prop) (w : World) : Prop :=
 lp 2 (fun J => fun v_out v_i w_1 => ∀ _j : Fr, 
  pur Tryz.prog (nilV v_b) fun t9 => 
  pur Tryz.prog (Instr.fieldAt 54 t9 26) fun t10 => 
  rd Tryz.prog (Instr.loadAt 51 t10) (fun t11 => 
  pur Tryz.prog (Builtin.len_ #[51] 3 #[t11]) fun t12 => 
  pur Tryz.prog (binS .lss 3 false false v_i t12) fun t13 => 
  condS t13
   (pur Tryz.prog (nilV v_b) fun t17 => 
  pur Tryz.prog (Instr.fieldAt 54 t17 26) fun t18 => 
  rd Tryz.prog (Instr.loadAt 51 t18) (fun t19 => 
  pur Tryz.prog (Instr.indexAt 51 t19 v_i) fun t21 => 
  rd Tryz.prog (Instr.loadAt 260 t21) (fun t22 => 
  lp 2 (fun J_1 => fun v_l v_n w_2 => ∀ _j : Fr, 
   pur Tryz.prog (binS .lss 3 false true v_n (.int .i64 12)) fun t24 => 
   condS t24
    (pur Tryz.prog (Builtin.len_ #[260] 3 #[v_l]) fun t30 => 
   callS Tryz.prog 229 #[v_i, t30, (.int .i64 1)] (fun t31 w_3 => 
   act Tryz.prog (Builtin.append_ #[260, 260] 260 #[v_l, t31]) (fun t32 w_4 => 
   pur Tryz.prog (binS .add 3 false true v_n (.int .i64 1)) fun t26 => 
   J_1 t32 t26 w_4) w_3) w_2)
    (pur Tryz.prog (Builtin.len_ #[260] 3 #[v_l]) fun t37 => 
  callS Tryz.prog 229 #[v_i, t37, (.int .i64 60)] (fun t38 w_5 => 
  act Tryz.prog (Builtin.append_ #[260, 260] 260 #[v_l, t38]) (fun t39 w_6 => 
  act Tryz.prog (Instr.buildSlice 51 1 #[(0, t39)]) (fun t40 w_7 => 
  act Tryz.prog (Builtin.append_ #[51, 51] 51 #[v_out, t40]) (fun t41 w_8 => 
  pur Tryz.prog (binS .add 3 false true v_i (.int .i64 1)) fun t15 => 
  J t41 t15 w_8) w_7) w_6) w_5) w_2)) [t22, (.int .i64 0)] w_1) w_1) w_1)
   (Q v_out w_1)) w_1) [(.slice none 0 0), (.int .i64 0)] w
theorem eq164 (v_b : Value) (Q : Value → World → Prop) (w : World) : semF Tryz.prog 164 [v_b] Q w = S164 v_b Q w := by kernel_rfl
theorem ref164 {v_b : Value} {Q : Value → World → Prop} {w : World} (h : S164 v_b Q w) : callS Tryz.prog 164 #[v_b] Q w :=
  callS_of mix (fun a w => Tryz.call164 a w) (by kernel_rfl) (by rw [eq164]; exact h)
-- (*commons/commonsbook.Book).growSteps
def S165 (v_b : Value) (Q : Value → World → Prop) (w : World) : Prop :=
 lp 2 (fun J => fun v_out v_i w_1 => ∀ _j : Fr, 
  pur Tryz.prog (nilV v_b) fun t9 => 
  pur Tryz.prog (Instr.fieldAt 54 t9 28) fun t10 => 
  rd Tryz.prog (Instr.loadAt 52 t10) (fun t11 => 
  pur Tryz.prog (Builtin.len_ #[52] 3 #[t11]) fun t12 => 
  pur Tryz.prog (binS .lss 3 false false v_i t12) fun t13 => 
  condS t13
   (pur Tryz.prog (nilV v_b) fun t17 => 
  pur Tryz.prog (Instr.fieldAt 54 t17 28) fun t18 => 
  rd Tryz.prog (Instr.loadAt 52 t18) (fun t19 => 
  pur Tryz.prog (Instr.indexAt 52 t19 v_i) fun t21 => 
  rd Tryz.prog (Instr.loadAt 262 t21) (fun t22 => 
  lp 2 (fun J_1 => fun v_l v_n w_2 => ∀ _j : Fr, 
   pur Tryz.prog (binS .lss 3 false true v_n (.int .i64 12)) fun t24 => 
   condS t24
    (pur Tryz.prog (Builtin.len_ #[262] 3 #[v_l]) fun t30 => 
   callS Tryz.prog 230 #[v_i, t30, (.int .i64 1)] (fun t31 w_3 => 
   act Tryz.prog (Builtin.append_ #[262, 262] 262 #[v_l, t31]) (fun t32 w_4 => 
   pur Tryz.prog (binS .add 3 false true v_n (.int .i64 1)) fun t26 => 
   J_1 t32 t26 w_4) w_3) w_2)
    (pur Tryz.prog (Builtin.len_ #[262] 3 #[v_l]) fun t37 => 
  callS Tryz.prog 230 #[v_i, t37, (.int .i64 60)] (fun t38 w_5 => 
  act Tryz.prog (Builtin.append_ #[262, 262] 262 #[v_l, t38]) (fun t39 w_6 => 
  act Tryz.prog (Instr.buildSlice 52 1 #[(0, t39)]) (fun t40 w_7 => 
  act Tryz.prog (Builtin.append_ #[52, 52] 52 #[v_out, t40]) (fun t41 w_8 => 
  pur Tryz.prog (binS .add 3 false true v_i (.int .i64 1)) fun t15 => 
  J t41 t15 w_8) w_7) w_6) w_5) w_2)) [t22, (.int .i64 0)] w_1) w_1) w_1)
   (Q v_out w_1)) w_1) [(.slice none 0 0), (.int .i64 0)] w
theorem eq165 (v_b : Value) (Q : Value → World → Prop) (w : World) : semF Tryz.prog 165 [v_b] Q w = S165 v_b Q w := by kernel_rfl
theorem ref165 {v_b : Value} {Q : Value → World → Prop} {w : World} (h : S165 v_b Q w) : callS Tryz.prog 165 #[v_b] Q w :=
  callS_of mix (fun a w => Tryz.call165 a w) (by kernel_rfl) (by rw [eq165]; exact h)
-- commons/commonsbook.markedTexts
def S166 (v_l : Value) (Q : Value → World → Prop) (w : World) : Prop :=
 lp 1 (fun J => fun v_i w_1 => ∀ _j : Fr, 
  pur Tryz.prog (Builtin.len_ #[38] 3 #[v_l]) fun t6 => 
  pur Tryz.prog (binS .lss 3 false false v_i t6) fun t7 => 
  condS t7
   (∃ S : World → Prop, S (World.drew w_1) ∧ 
  pur Tryz.prog (Instr.indexAt 38 v_l v_i) fun t12 => 
  hld Tryz.prog S (Instr.loadAt 243 t12) fun t13 => 
  pur Tryz.prog (Instr.indexAt 38 v_l v_i) fun t17 => 
  hld Tryz.prog S (Instr.loadAt 243 t17) fun t18 => 
  pur Tryz.prog (Builtin.len_ #[243] 3 #[t18]) fun t19 => 
  callS Tryz.prog 231 #[v_i, (.int .i64 0), t19] (fun t20 w_2 => S w_2 ∧ 
  callS Tryz.prog 217 #[t13, t20] (fun t21 w_3 => S w_3 ∧ 
  pur Tryz.prog (Op.unary .not t21) fun t22 => 
  condS t22
   (Q (.bool false) w_3)
   (pur Tryz.prog (binS .add 3 false true v_i (.int .i64 1)) fun t9 => 
  J t9 w_3)) w_2) (World.drew w_1))
   (Q (.bool true) w_1)) [(.int .i64 0)] w
theorem eq166 (v_l : Value) (Q : Value → World → Prop) (w : World) : semF Tryz.prog 166 [v_l] Q w = S166 v_l Q w := by kernel_rfl
theorem ref166 {v_l : Value} {Q : Value → World → Prop} {w : World} (h : S166 v_l Q w) : callS Tryz.prog 166 #[v_l] Q w :=
  callS_of mix (fun a w => Tryz.call166 a w) (by kernel_rfl) (by rw [eq166]; exact h)
-- commons/commonsbook.markedInts
def S167 (v_l : Value) (Q : Value → World → Prop) (w : World) : Prop :=
 lp 1 (fun J => fun v_i w_1 => ∀ _j : Fr, 
  pur Tryz.prog (Builtin.len_ #[39] 3 #[v_l]) fun t6 => 
  pur Tryz.prog (binS .lss 3 false false v_i t6) fun t7 => 
  condS t7
   (∃ S : World → Prop, S (World.drew w_1) ∧ 
  pur Tryz.prog (Instr.indexAt 39 v_l v_i) fun t12 => 
  hld Tryz.prog S (Instr.loadAt 65 t12) fun t13 => 
  pur Tryz.prog (Instr.indexAt 39 v_l v_i) fun t17 => 
  hld Tryz.prog S (Instr.loadAt 65 t17) fun t18 => 
  pur Tryz.prog (Builtin.len_ #[65] 3 #[t18]) fun t19 => 
  callS Tryz.prog 232 #[v_i, (.int .i64 0), t19] (fun t20 w_2 => S w_2 ∧ 
  callS Tryz.prog 27 #[t13, t20] (fun t21 w_3 => S w_3 ∧ 
  pur Tryz.prog (Op.unary .not t21) fun t22 => 
  condS t22
   (Q (.bool false) w_3)
   (pur Tryz.prog (binS .add 3 false true v_i (.int .i64 1)) fun t9 => 
  J t9 w_3)) w_2) (World.drew w_1))
   (Q (.bool true) w_1)) [(.int .i64 0)] w
theorem eq167 (v_l : Value) (Q : Value → World → Prop) (w : World) : semF Tryz.prog 167 [v_l] Q w = S167 v_l Q w := by kernel_rfl
theorem ref167 {v_l : Value} {Q : Value → World → Prop} {w : World} (h : S167 v_l Q w) : callS Tryz.prog 167 #[v_l] Q w :=
  callS_of mix (fun a w => Tryz.call167 a w) (by kernel_rfl) (by rw [eq167]; exact h)
-- commons/commonsbook.markedNums
def S168 (v_l : Value) (Q : Value → World → Prop) (w : World) : Prop :=
 lp 1 (fun J => fun v_i w_1 => ∀ _j : Fr, 
  pur Tryz.prog (Builtin.len_ #[40] 3 #[v_l]) fun t6 => 
  pur Tryz.prog (binS .lss 3 false false v_i t6) fun t7 => 
  condS t7
   (∃ S : World → Prop, S (World.drew w_1) ∧ 
  pur Tryz.prog (Instr.indexAt 40 v_l v_i) fun t12 => 
  hld Tryz.prog S (Instr.loadAt 245 t12) fun t13 => 
  pur Tryz.prog (Instr.indexAt 40 v_l v_i) fun t17 => 
  hld Tryz.prog S (Instr.loadAt 245 t17) fun t18 => 
  pur Tryz.prog (Builtin.len_ #[245] 3 #[t18]) fun t19 => 
  callS Tryz.prog 233 #[v_i, (.int .i64 0), t19] (fun t20 w_2 => S w_2 ∧ 
  callS Tryz.prog 218 #[t13, t20] (fun t21 w_3 => S w_3 ∧ 
  pur Tryz.prog (Op.unary .not t21) fun t22 => 
  condS t22
   (Q (.bool false) w_3)
   (pur Tryz.prog (binS .add 3 false true v_i (.int .i64 1)) fun t9 => 
  J t9 w_3)) w_2) (World.drew w_1))
   (Q (.bool true) w_1)) [(.int .i64 0)] w
theorem eq168 (v_l : Value) (Q : Value → World → Prop) (w : World) : semF Tryz.prog 168 [v_l] Q w = S168 v_l Q w := by kernel_rfl
theorem ref168 {v_l : Value} {Q : Value → World → Prop} {w : World} (h : S168 v_l Q w) : callS Tryz.prog 168 #[v_l] Q w :=
  callS_of mix (fun a w => Tryz.call168 a w) (by kernel_rfl) (by rw [eq168]; exact h)
-- commons/commonsbook.markedSpans
def S169 (v_l : Value) (Q : Value → World → Prop) (w : World) : Prop :=
 lp 1 (fun J => fun v_i w_1 => ∀ _j : Fr, 
  pur Tryz.prog (Builtin.len_ #[41] 3 #[v_l]) fun t6 => 
  pur Tryz.prog (binS .lss 3 false false v_i t6) fun t7 => 
  condS t7
   (∃ S : World → Prop, S (World.drew w_1) ∧ 
  pur Tryz.prog (Instr.indexAt 41 v_l v_i) fun t12 => 
  hld Tryz.prog S (Instr.loadAt 90 t12) fun t13 => 
  pur Tryz.prog (Instr.indexAt 41 v_l v_i) fun t17 => 
  hld Tryz.prog S (Instr.loadAt 90 t17) fun t18 => 
  pur Tryz.prog (Builtin.len_ #[90] 3 #[t18]) fun t19 => 
  callS Tryz.prog 234 #[v_i, (.int .i64 0), t19] (fun t20 w_2 => S w_2 ∧ 
  callS Tryz.prog 58 #[t13, t20] (fun t21 w_3 => S w_3 ∧ 
  pur Tryz.prog (Op.unary .not t21) fun t22 => 
  condS t22
   (Q (.bool false) w_3)
   (pur Tryz.prog (binS .add 3 false true v_i (.int .i64 1)) fun t9 => 
  J t9 w_3)) w_2) (World.drew w_1))
   (Q (.bool true) w_1)) [(.int .i64 0)] w
theorem eq169 (v_l : Value) (Q : Value → World → Prop) (w : World) : semF Tryz.prog 169 [v_l] Q w = S169 v_l Q w := by kernel_rfl
theorem ref169 {v_l : Value} {Q : Value → World → Prop} {w : World} (h : S169 v_l Q w) : callS Tryz.prog 169 #[v_l] Q w :=
  callS_of mix (fun a w => Tryz.call169 a w) (by kernel_rfl) (by rw [eq169]; exact h)
-- commons/commonsbook.markedLocks
def S170 (v_l : Value) (Q : Value → World → Prop) (w : World) : Prop :=
 lp 1 (fun J => fun v_i w_1 => ∀ _j : Fr, 
  pur Tryz.prog (Builtin.len_ #[42] 3 #[v_l]) fun t6 => 
  pur Tryz.prog (binS .lss 3 false false v_i t6) fun t7 => 
  condS t7
   (∃ S : World → Prop, S (World.drew w_1) ∧ 
  pur Tryz.prog (Instr.indexAt 42 v_l v_i) fun t12 => 
  hld Tryz.prog S (Instr.loadAt 129 t12) fun t13 => 
  pur Tryz.prog (Instr.indexAt 42 v_l v_i) fun t17 => 
  hld Tryz.prog S (Instr.loadAt 129 t17) fun t18 => 
  pur Tryz.prog (Builtin.len_ #[129] 3 #[t18]) fun t19 => 
  callS Tryz.prog 235 #[v_i, (.int .i64 0), t19] (fun t20 w_2 => S w_2 ∧ 
  callS Tryz.prog 89 #[t13, t20] (fun t21 w_3 => S w_3 ∧ 
  pur Tryz.prog (Op.unary .not t21) fun t22 => 
  condS t22
   (Q (.bool false) w_3)
   (pur Tryz.prog (binS .add 3 false true v_i (.int .i64 1)) fun t9 => 
  J t9 w_3)) w_2) (World.drew w_1))
   (Q (.bool true) w_1)) [(.int .i64 0)] w
theorem eq170 (v_l : Value) (Q : Value → World → Prop) (w : World) : semF Tryz.prog 170 [v_l] Q w = S170 v_l Q w := by kernel_rfl
theorem ref170 {v_l : Value} {Q : Value → World → Prop} {w : World} (h : S170 v_l Q w) : callS Tryz.prog 170 #[v_l] Q w :=
  callS_of mix (fun a w => Tryz.call170 a w) (by kernel_rfl) (by rw [eq170]; exact h)
-- commons/commonsbook.markedImages
def S171 (v_l : Value) (Q : Value → World → Prop) (w : World) : Prop :=
 lp 1 (fun J => fun v_i w_1 => ∀ _j : Fr, 
  pur Tryz.prog (Builtin.len_ #[43] 3 #[v_l]) fun t6 => 
  pur Tryz.prog (binS .lss 3 false false v_i t6) fun t7 => 
  condS t7
   (∃ S : World → Prop, S (World.drew w_1) ∧ 
  pur Tryz.prog (Instr.indexAt 43 v_l v_i) fun t12 => 
  hld Tryz.prog S (Instr.loadAt 150 t12) fun t13 => 
  pur Tryz.prog (Instr.indexAt 43 v_l v_i) fun t17 => 
  hld Tryz.prog S (Instr.loadAt 150 t17) fun t18 => 
  pur Tryz.prog (Builtin.len_ #[150] 3 #[t18]) fun t19 => 
  callS Tryz.prog 236 #[v_i, (.int .i64 0), t19] (fun t20 w_2 => S w_2 ∧ 
  callS Tryz.prog 114 #[t13, t20] (fun t21 w_3 => S w_3 ∧ 
  pur Tryz.prog (Op.unary .not t21) fun t22 => 
  condS t22
   (Q (.bool false) w_3)
   (pur Tryz.prog (binS .add 3 false true v_i (.int .i64 1)) fun t9 => 
  J t9 w_3)) w_2) (World.drew w_1))
   (Q (.bool true) w_1)) [(.int .i64 0)] w
theorem eq171 (v_l : Value) (Q : Value → World → Prop) (w : World) : semF Tryz.prog 171 [v_l] Q w = S171 v_l Q w := by kernel_rfl
theorem ref171 {v_l : Value} {Q : Value → World → Prop} {w : World} (h : S171 v_l Q w) : callS Tryz.prog 171 #[v_l] Q w :=
  callS_of mix (fun a w => Tryz.call171 a w) (by kernel_rfl) (by rw [eq171]; exact h)
-- commons/commonsbook.markedRecords
def S172 (v_l : Value) (Q : Value → World → Prop) (w : World) : Prop :=
 lp 1 (fun J => fun v_i w_1 => ∀ _j : Fr, 
  pur Tryz.prog (Builtin.len_ #[44] 3 #[v_l]) fun t6 => 
  pur Tryz.prog (binS .lss 3 false false v_i t6) fun t7 => 
  condS t7
   (∃ S : World → Prop, S (World.drew w_1) ∧ 
  pur Tryz.prog (Instr.indexAt 44 v_l v_i) fun t12 => 
  hld Tryz.prog S (Instr.loadAt 247 t12) fun t13 => 
  pur Tryz.prog (Instr.indexAt 44 v_l v_i) fun t17 => 
  hld Tryz.prog S (Instr.loadAt 247 t17) fun t18 => 
  pur Tryz.prog (Builtin.len_ #[247] 3 #[t18]) fun t19 => 
  callS Tryz.prog 228 #[v_i, (.int .i64 0), t19] (fun t20 w_2 => S w_2 ∧ 
  callS Tryz.prog 219 #[t13, t20] (fun t21 w_3 => S w_3 ∧ 
  pur Tryz.prog (Op.unary .not t21) fun t22 => 
  condS t22
   (Q (.bool false) w_3)
   (pur Tryz.prog (binS .add 3 false true v_i (.int .i64 1)) fun t9 => 
  J t9 w_3)) w_2) (World.drew w_1))
   (Q (.bool true) w_1)) [(.int .i64 0)] w
theorem eq172 (v_l : Value) (Q : Value → World → Prop) (w : World) : semF Tryz.prog 172 [v_l] Q w = S172 v_l Q w := by kernel_rfl
theorem ref172 {v_l : Value} {Q : Value → World → Prop} {w : World} (h : S172 v_l Q w) : callS Tryz.prog 172 #[v_l] Q w :=
  callS_of mix (fun a w => Tryz.call172 a w) (by kernel_rfl) (by rw [eq172]; exact h)
-- commons/commonsbook.markedPackets
def S173 (v_l : Value) (Q : Value → World → Prop) (w : World) : Prop :=
 lp 1 (fun J => fun v_i w_1 => ∀ _j : Fr, 
  pur Tryz.prog (Builtin.len_ #[45] 3 #[v_l]) fun t6 => 
  pur Tryz.prog (binS .lss 3 false false v_i t6) fun t7 => 
  condS t7
   (∃ S : World → Prop, S (World.drew w_1) ∧ 
  pur Tryz.prog (Instr.indexAt 45 v_l v_i) fun t12 => 
  hld Tryz.prog S (Instr.loadAt 249 t12) fun t13 => 
  pur Tryz.prog (Instr.indexAt 45 v_l v_i) fun t17 => 
  hld Tryz.prog S (Instr.loadAt 249 t17) fun t18 => 
  pur Tryz.prog (Builtin.len_ #[249] 3 #[t18]) fun t19 => 
  callS Tryz.prog 237 #[v_i, (.int .i64 0), t19] (fun t20 w_2 => S w_2 ∧ 
  callS Tryz.prog 220 #[t13, t20] (fun t21 w_3 => S w_3 ∧ 
  pur Tryz.prog (Op.unary .not t21) fun t22 => 
  condS t22
   (Q (.bool false) w_3)
   (pur Tryz.prog (binS .add 3 false true v_i (.int .i64 1)) fun t9 => 
  J t9 w_3)) w_2) (World.drew w_1))
   (Q (.bool true) w_1)) [(.int .i64 0)] w
theorem eq173 (v_l : Value) (Q : Value → World → Prop) (w : World) : semF Tryz.prog 173 [v_l] Q w = S173 v_l Q w := by kernel_rfl
theorem ref173 {v_l : Value} {Q : Value → World → Prop} {w : World} (h : S173 v_l Q w) : callS Tryz.prog 173 #[v_l] Q w :=
  callS_of mix (fun a w => Tryz.call173 a w) (by kernel_rfl) (by rw [eq173]; exact h)
-- commons/commonsbook.markedFrames
def S174 (v_l : Value) (Q : Value → World → Prop) (w : World) : Prop :=
 lp 1 (fun J => fun v_i w_1 => ∀ _j : Fr, 
  pur Tryz.prog (Builtin.len_ #[46] 3 #[v_l]) fun t6 => 
  pur Tryz.prog (binS .lss 3 false false v_i t6) fun t7 => 
  condS t7
   (∃ S : World → Prop, S (World.drew w_1) ∧ 
  pur Tryz.prog (Instr.indexAt 46 v_l v_i) fun t12 => 
  hld Tryz.prog S (Instr.loadAt 251 t12) fun t13 => 
  pur Tryz.prog (Instr.indexAt 46 v_l v_i) fun t17 => 
  hld Tryz.prog S (Instr.loadAt 251 t17) fun t18 => 
  pur Tryz.prog (Builtin.len_ #[251] 3 #[t18]) fun t19 => 
  callS Tryz.prog 238 #[v_i, (.int .i64 0), t19] (fun t20 w_2 => S w_2 ∧ 
  callS Tryz.prog 221 #[t13, t20] (fun t21 w_3 => S w_3 ∧ 
  pur Tryz.prog (Op.unary .not t21) fun t22 => 
  condS t22
   (Q (.bool false) w_3)
   (pur Tryz.prog (binS .add 3 false true v_i (.int .i64 1)) fun t9 => 
  J t9 w_3)) w_2) (World.drew w_1))
   (Q (.bool true) w_1)) [(.int .i64 0)] w
theorem eq174 (v_l : Value) (Q : Value → World → Prop) (w : World) : semF Tryz.prog 174 [v_l] Q w = S174 v_l Q w := by kernel_rfl
theorem ref174 {v_l : Value} {Q : Value → World → Prop} {w : World} (h : S174 v_l Q w) : callS Tryz.prog 174 #[v_l] Q w :=
  callS_of mix (fun a w => Tryz.call174 a w) (by kernel_rfl) (by rw [eq174]; exact h)
-- commons/commonsbook.markedWaits
def S175 (v_l : Value) (Q : Value → World → Prop) (w : World) : Prop :=
 lp 1 (fun J => fun v_i w_1 => ∀ _j : Fr, 
  pur Tryz.prog (Builtin.len_ #[47] 3 #[v_l]) fun t6 => 
  pur Tryz.prog (binS .lss 3 false false v_i t6) fun t7 => 
  condS t7
   (∃ S : World → Prop, S (World.drew w_1) ∧ 
  pur Tryz.prog (Instr.indexAt 47 v_l v_i) fun t12 => 
  hld Tryz.prog S (Instr.loadAt 253 t12) fun t13 => 
  pur Tryz.prog (Instr.indexAt 47 v_l v_i) fun t17 => 
  hld Tryz.prog S (Instr.loadAt 253 t17) fun t18 => 
  pur Tryz.prog (Builtin.len_ #[253] 3 #[t18]) fun t19 => 
  callS Tryz.prog 239 #[v_i, (.int .i64 0), t19] (fun t20 w_2 => S w_2 ∧ 
  callS Tryz.prog 222 #[t13, t20] (fun t21 w_3 => S w_3 ∧ 
  pur Tryz.prog (Op.unary .not t21) fun t22 => 
  condS t22
   (Q (.bool false) w_3)
   (pur Tryz.prog (binS .add 3 false true v_i (.int .i64 1)) fun t9 => 
  J t9 w_3)) w_2) (World.drew w_1))
   (Q (.bool true) w_1)) [(.int .i64 0)] w
theorem eq175 (v_l : Value) (Q : Value → World → Prop) (w : World) : semF Tryz.prog 175 [v_l] Q w = S175 v_l Q w := by kernel_rfl
theorem ref175 {v_l : Value} {Q : Value → World → Prop} {w : World} (h : S175 v_l Q w) : callS Tryz.prog 175 #[v_l] Q w :=
  callS_of mix (fun a w => Tryz.call175 a w) (by kernel_rfl) (by rw [eq175]; exact h)
-- commons/commonsbook.markedRevokes
def S176 (v_l : Value) (Q : Value → World → Prop) (w : World) : Prop :=
 lp 1 (fun J => fun v_i w_1 => ∀ _j : Fr, 
  pur Tryz.prog (Builtin.len_ #[48] 3 #[v_l]) fun t6 => 
  pur Tryz.prog (binS .lss 3 false false v_i t6) fun t7 => 
  condS t7
   (∃ S : World → Prop, S (World.drew w_1) ∧ 
  pur Tryz.prog (Instr.indexAt 48 v_l v_i) fun t12 => 
  hld Tryz.prog S (Instr.loadAt 255 t12) fun t13 => 
  pur Tryz.prog (Instr.indexAt 48 v_l v_i) fun t17 => 
  hld Tryz.prog S (Instr.loadAt 255 t17) fun t18 => 
  pur Tryz.prog (Builtin.len_ #[255] 3 #[t18]) fun t19 => 
  callS Tryz.prog 240 #[v_i, (.int .i64 0), t19] (fun t20 w_2 => S w_2 ∧ 
  callS Tryz.prog 223 #[t13, t20] (fun t21 w_3 => S w_3 ∧ 
  pur Tryz.prog (Op.unary .not t21) fun t22 => 
  condS t22
   (Q (.bool false) w_3)
   (pur Tryz.prog (binS .add 3 false true v_i (.int .i64 1)) fun t9 => 
  J t9 w_3)) w_2) (World.drew w_1))
   (Q (.bool true) w_1)) [(.int .i64 0)] w
theorem eq176 (v_l : Value) (Q : Value → World → Prop) (w : World) : semF Tryz.prog 176 [v_l] Q w = S176 v_l Q w := by kernel_rfl
theorem ref176 {v_l : Value} {Q : Value → World → Prop} {w : World} (h : S176 v_l Q w) : callS Tryz.prog 176 #[v_l] Q w :=
  callS_of mix (fun a w => Tryz.call176 a w) (by kernel_rfl) (by rw [eq176]; exact h)
-- commons/commonsbook.markedEntries
def S177 (v_l : Value) (Q : Value → World → Prop) (w : World) : Prop :=
 lp 1 (fun J => fun v_i w_1 => ∀ _j : Fr, 
  pur Tryz.prog (Builtin.len_ #[49] 3 #[v_l]) fun t6 => 
  pur Tryz.prog (binS .lss 3 false false v_i t6) fun t7 => 
  condS t7
   (∃ S : World → Prop, S (World.drew w_1) ∧ 
  pur Tryz.prog (Instr.indexAt 49 v_l v_i) fun t12 => 
  hld Tryz.prog S (Instr.loadAt 257 t12) fun t13 => 
  pur Tryz.prog (Instr.indexAt 49 v_l v_i) fun t17 => 
  hld Tryz.prog S (Instr.loadAt 257 t17) fun t18 => 
  pur Tryz.prog (Builtin.len_ #[257] 3 #[t18]) fun t19 => 
  callS Tryz.prog 241 #[v_i, (.int .i64 0), t19] (fun t20 w_2 => S w_2 ∧ 
  callS Tryz.prog 224 #[t13, t20] (fun t21 w_3 => S w_3 ∧ 
  pur Tryz.prog (Op.unary .not t21) fun t22 => 
  condS t22
   (Q (.bool false) w_3)
   (pur Tryz.prog (binS .add 3 false true v_i (.int .i64 1)) fun t9 => 
  J t9 w_3)) w_2) (World.drew w_1))
   (Q (.bool true) w_1)) [(.int .i64 0)] w
theorem eq177 (v_l : Value) (Q : Value → World → Prop) (w : World) : semF Tryz.prog 177 [v_l] Q w = S177 v_l Q w := by kernel_rfl
theorem ref177 {v_l : Value} {Q : Value → World → Prop} {w : World} (h : S177 v_l Q w) : callS Tryz.prog 177 #[v_l] Q w :=
  callS_of mix (fun a w => Tryz.call177 a w) (by kernel_rfl) (by rw [eq177]; exact h)
-- commons/commonsbook.markedParts
def S178 (v_l : Value) (Q : Value → World → Prop) (w : World) : Prop :=
 lp 1 (fun J => fun v_i w_1 => ∀ _j : Fr, 
  pur Tryz.prog (Builtin.len_ #[50] 3 #[v_l]) fun t6 => 
  pur Tryz.prog (binS .lss 3 false false v_i t6) fun t7 => 
  condS t7
   (∃ S : World → Prop, S (World.drew w_1) ∧ 
  pur Tryz.prog (Instr.indexAt 50 v_l v_i) fun t12 => 
  hld Tryz.prog S (Instr.loadAt 113 t12) fun t13 => 
  pur Tryz.prog (Instr.indexAt 50 v_l v_i) fun t17 => 
  hld Tryz.prog S (Instr.loadAt 113 t17) fun t18 => 
  pur Tryz.prog (Builtin.len_ #[113] 3 #[t18]) fun t19 => 
  callS Tryz.prog 242 #[v_i, (.int .i64 0), t19] (fun t20 w_2 => S w_2 ∧ 
  callS Tryz.prog 225 #[t13, t20] (fun t21 w_3 => S w_3 ∧ 
  pur Tryz.prog (Op.unary .not t21) fun t22 => 
  condS t22
   (Q (.bool false) w_3)
   (pur Tryz.prog (binS .add 3 false true v_i (.int .i64 1)) fun t9 => 
  J t9 w_3)) w_2) (World.drew w_1))
   (Q (.bool true) w_1)) [(.int .i64 0)] w
theorem eq178 (v_l : Value) (Q : Value → World → Prop) (w : World) : semF Tryz.prog 178 [v_l] Q w = S178 v_l Q w := by kernel_rfl
theorem ref178 {v_l : Value} {Q : Value → World → Prop} {w : World} (h : S178 v_l Q w) : callS Tryz.prog 178 #[v_l] Q w :=
  callS_of mix (fun a w => Tryz.call178 a w) (by kernel_rfl) (by rw [eq178]; exact h)
-- commons/commonsbook.markedMsgs
def S179 (v_l : Value) (Q : Value → World → Prop) (w : World) : Prop :=
 lp 1 (fun J => fun v_i w_1 => ∀ _j : Fr, 
  pur Tryz.prog (Builtin.len_ #[51] 3 #[v_l]) fun t6 => 
  pur Tryz.prog (binS .lss 3 false false v_i t6) fun t7 => 
  condS t7
   (∃ S : World → Prop, S (World.drew w_1) ∧ 
  pur Tryz.prog (Instr.indexAt 51 v_l v_i) fun t12 => 
  hld Tryz.prog S (Instr.loadAt 260 t12) fun t13 => 
  pur Tryz.prog (Instr.indexAt 51 v_l v_i) fun t17 => 
  hld Tryz.prog S (Instr.loadAt 260 t17) fun t18 => 
  pur Tryz.prog (Builtin.len_ #[260] 3 #[t18]) fun t19 => 
  callS Tryz.prog 229 #[v_i, (.int .i64 0), t19] (fun t20 w_2 => S w_2 ∧ 
  callS Tryz.prog 226 #[t13, t20] (fun t21 w_3 => S w_3 ∧ 
  pur Tryz.prog (Op.unary .not t21) fun t22 => 
  condS t22
   (Q (.bool false) w_3)
   (pur Tryz.prog (binS .add 3 false true v_i (.int .i64 1)) fun t9 => 
  J t9 w_3)) w_2) (World.drew w_1))
   (Q (.bool true) w_1)) [(.int .i64 0)] w
theorem eq179 (v_l : Value) (Q : Value → World → Prop) (w : World) : semF Tryz.prog 179 [v_l] Q w = S179 v_l Q w := by kernel_rfl
theorem ref179 {v_l : Value} {Q : Value → World → Prop} {w : World} (h : S179 v_l Q w) : callS Tryz.prog 179 #[v_l] Q w :=
  callS_of mix (fun a w => Tryz.call179 a w) (by kernel_rfl) (by rw [eq179]; exact h)
-- commons/commonsbook.markedSteps
def S180 (v_l : Value) (Q : Value → World → Prop) (w : World) : Prop :=
 lp 1 (fun J => fun v_i w_1 => ∀ _j : Fr, 
  pur Tryz.prog (Builtin.len_ #[52] 3 #[v_l]) fun t6 => 
  pur Tryz.prog (binS .lss 3 false false v_i t6) fun t7 => 
  condS t7
   (∃ S : World → Prop, S (World.drew w_1) ∧ 
  pur Tryz.prog (Instr.indexAt 52 v_l v_i) fun t12 => 
  hld Tryz.prog S (Instr.loadAt 262 t12) fun t13 => 
  pur Tryz.prog (Instr.indexAt 52 v_l v_i) fun t17 => 
  hld Tryz.prog S (Instr.loadAt 262 t17) fun t18 => 
  pur Tryz.prog (Builtin.len_ #[262] 3 #[t18]) fun t19 => 
  callS Tryz.prog 230 #[v_i, (.int .i64 0), t19] (fun t20 w_2 => S w_2 ∧ 
  callS Tryz.prog 227 #[t13, t20] (fun t21 w_3 => S w_3 ∧ 
  pur Tryz.prog (Op.unary .not t21) fun t22 => 
  condS t22
   (Q (.bool false) w_3)
   (pur Tryz.prog (binS .add 3 false true v_i (.int .i64 1)) fun t9 => 
  J t9 w_3)) w_2) (World.drew w_1))
   (Q (.bool true) w_1)) [(.int .i64 0)] w
theorem eq180 (v_l : Value) (Q : Value → World → Prop) (w : World) : semF Tryz.prog 180 [v_l] Q w = S180 v_l Q w := by kernel_rfl
theorem ref180 {v_l : Value} {Q : Value → World → Prop} {w : World} (h : S180 v_l Q w) : callS Tryz.prog 180 #[v_l] Q w :=
  callS_of mix (fun a w => Tryz.call180 a w) (by kernel_rfl) (by rw [eq180]; exact h)
-- commons/commonsbook.SameTexts
def S217 (v_a v_b : Value) (Q : Value → World → Prop) (w : World) : Prop :=
 pur Tryz.prog (Builtin.len_ #[243] 3 #[v_a]) fun t7 => 
 pur Tryz.prog (Builtin.len_ #[243] 3 #[v_b]) fun t9 => 
 pur Tryz.prog (binS .neq 3 false false t7 t9) fun t10 => 
 condS t10
  (Q (.bool false) w)
  (lp 1 (fun J => fun v_i w_1 => ∀ _j : Fr, 
  pur Tryz.prog (Builtin.len_ #[243] 3 #[v_a]) fun t13 => 
  pur Tryz.prog (binS .lss 3 false false v_i t13) fun t14 => 
  condS t14
   (pur Tryz.prog (Instr.indexAt 243 v_a v_i) fun t19 => 
  rd Tryz.prog (Instr.loadAt 9 t19) (fun t20 => 
  pur Tryz.prog (Instr.indexAt 243 v_b v_i) fun t23 => 
  rd Tryz.prog (Instr.loadAt 9 t23) (fun t24 => 
  pur Tryz.prog (binS .eql 9 false false t20 t24) fun t25 => 
  pur Tryz.prog (Op.unary .not t25) fun t26 => 
  condS t26
   (Q (.bool false) (World.drew w_1))
   (pur Tryz.prog (binS .add 3 false true v_i (.int .i64 1)) fun t16 => 
  J t16 (World.drew w_1))) (World.drew w_1)) (World.drew w_1))
   (Q (.bool true) w_1)) [(.int .i64 0)] w)
theorem eq217 (v_a v_b : Value) (Q : Value → World → Prop) (w : World) : semF Tryz.prog 217 [v_a, v_b] Q w = S217 v_a v_b Q w := by kernel_rfl
theorem ref217 {v_a v_b : Value} {Q : Value → World → Prop} {w : World} (h : S217 v_a v_b Q w) : callS Tryz.prog 217 #[v_a, v_b] Q w :=
  callS_of mix (fun a w => Tryz.call217 a w) (by kernel_rfl) (by rw [eq217]; exact h)
-- commons/commonsbook.SameNums
def S218 (v_a v_b : Value) (Q : Value → World → Prop) (w : World) : Prop :=
 pur Tryz.prog (Builtin.len_ #[245] 3 #[v_a]) fun t7 => 
 pur Tryz.prog (Builtin.len_ #[245] 3 #[v_b]) fun t9 => 
 pur Tryz.prog (binS .neq 3 false false t7 t9) fun t10 => 
 condS t10
  (Q (.bool false) w)
  (lp 1 (fun J => fun v_i w_1 => ∀ _j : Fr, 
  pur Tryz.prog (Builtin.len_ #[245] 3 #[v_a]) fun t13 => 
  pur Tryz.prog (binS .lss 3 false false v_i t13) fun t14 => 
  condS t14
   (pur Tryz.prog (Instr.indexAt 245 v_a v_i) fun t19 => 
  rd Tryz.prog (Instr.loadAt 160 t19) (fun t20 => 
  pur Tryz.prog (Instr.indexAt 245 v_b v_i) fun t23 => 
  rd Tryz.prog (Instr.loadAt 160 t23) (fun t24 => 
  pur Tryz.prog (binS .eql 160 false false t20 t24) fun t25 => 
  pur Tryz.prog (Op.unary .not t25) fun t26 => 
  condS t26
   (Q (.bool false) (World.drew w_1))
   (pur Tryz.prog (binS .add 3 false true v_i (.int .i64 1)) fun t16 => 
  J t16 (World.drew w_1))) (World.drew w_1)) (World.drew w_1))
   (Q (.bool true) w_1)) [(.int .i64 0)] w)
theorem eq218 (v_a v_b : Value) (Q : Value → World → Prop) (w : World) : semF Tryz.prog 218 [v_a, v_b] Q w = S218 v_a v_b Q w := by kernel_rfl
theorem ref218 {v_a v_b : Value} {Q : Value → World → Prop} {w : World} (h : S218 v_a v_b Q w) : callS Tryz.prog 218 #[v_a, v_b] Q w :=
  callS_of mix (fun a w => Tryz.call218 a w) (by kernel_rfl) (by rw [eq218]; exact h)
-- commons/commonsbook.SameRecords
def S219 (v_a v_b : Value) (Q : Value → World → Prop) (w : World) : Prop :=
 pur Tryz.prog (Builtin.len_ #[247] 3 #[v_a]) fun t7 => 
 pur Tryz.prog (Builtin.len_ #[247] 3 #[v_b]) fun t9 => 
 pur Tryz.prog (binS .neq 3 false false t7 t9) fun t10 => 
 condS t10
  (Q (.bool false) w)
  (lp 1 (fun J => fun v_i w_1 => ∀ _j : Fr, 
  pur Tryz.prog (Builtin.len_ #[247] 3 #[v_a]) fun t13 => 
  pur Tryz.prog (binS .lss 3 false false v_i t13) fun t14 => 
  condS t14
   (pur Tryz.prog (Instr.indexAt 247 v_a v_i) fun t19 => 
  pur Tryz.prog (Instr.fieldAt 265 t19 0) fun t20 => 
  rd Tryz.prog (Instr.loadAt 160 t20) (fun t21 => 
  pur Tryz.prog (Instr.indexAt 247 v_b v_i) fun t24 => 
  pur Tryz.prog (Instr.fieldAt 265 t24 0) fun t25 => 
  rd Tryz.prog (Instr.loadAt 160 t25) (fun t26 => 
  pur Tryz.prog (binS .eql 160 false false t21 t26) fun t27 => 
  gd t27 true (fun k w_2 => k v_a w_2) (fun t29_1 w_3 => 
  gd t27 true (fun k_1 w_4 => k_1 v_i w_4) (fun t30_1 w_5 => 
  gd t27 true (fun k_2 w_6 => pur Tryz.prog (Instr.indexAt 247 t29_1 t30_1) fun t31 => k_2 t31 w_6) (fun t31_1 w_7 => 
  gd t27 true (fun k_3 w_8 => pur Tryz.prog (Instr.fieldAt 265 t31_1 1) fun t32 => k_3 t32 w_8) (fun t32_1 w_9 => 
  gd t27 true (fun k_4 w_10 => rd Tryz.prog (Instr.loadAt 160 t32_1) (fun t33 => k_4 t33 w_10) w_10) (fun t33_1 w_11 => 
  gd t27 true (fun k_5 w_12 => k_5 v_b w_12) (fun t34_1 w_13 => 
  gd t27 true (fun k_6 w_14 => k_6 v_i w_14) (fun t35_1 w_15 => 
  gd t27 true (fun k_7 w_16 => pur Tryz.prog (Instr.indexAt 247 t34_1 t35_1) fun t36 => k_7 t36 w_16) (fun t36_1 w_17 => 
  gd t27 true (fun k_8 w_18 => pur Tryz.prog (Instr.fieldAt 265 t36_1 1) fun t37 => k_8 t37 w_18) (fun t37_1 w_19 => 
  gd t27 true (fun k_9 w_20 => rd Tryz.prog (Instr.loadAt 160 t37_1) (fun t38 => k_9 t38 w_20) w_20) (fun t38_1 w_21 => 
  gd t27 true (fun k_10 w_22 => pur Tryz.prog (binS .eql 160 false false t33_1 t38_1) fun t39 => k_10 t39 w_22) (fun t39_1 w_23 => 
  pur Tryz.prog (pickS t27 t39_1 (.bool false)) fun t40 => 
  gd t40 true (fun k_11 w_24 => k_11 v_a w_24) (fun t42_1 w_25 => 
  gd t40 true (fun k_12 w_26 => k_12 v_i w_26) (fun t43_1 w_27 => 
  gd t40 true (fun k_13 w_28 => pur Tryz.prog (Instr.indexAt 247 t42_1 t43_1) fun t44 => k_13 t44 w_28) (fun t44_1 w_29 => 
  gd t40 true (fun k_14 w_30 => pur Tryz.prog (Instr.fieldAt 265 t44_1 2) fun t45 => k_14 t45 w_30) (fun t45_1 w_31 => 
  gd t40 true (fun k_15 w_32 => rd Tryz.prog (Instr.loadAt 150 t45_1) (fun t46 => k_15 t46 w_32) w_32) (fun t46_1 w_33 => 
  gd t40 true (fun k_16 w_34 => k_16 v_b w_34) (fun t47_1 w_35 => 
  gd t40 true (fun k_17 w_36 => k_17 v_i w_36) (fun t48_1 w_37 => 
  gd t40 true (fun k_18 w_38 => pur Tryz.prog (Instr.indexAt 247 t47_1 t48_1) fun t49 => k_18 t49 w_38) (fun t49_1 w_39 => 
  gd t40 true (fun k_19 w_40 => pur Tryz.prog (Instr.fieldAt 265 t49_1 2) fun t50 => k_19 t50 w_40) (fun t50_1 w_41 => 
  gd t40 true (fun k_20 w_42 => rd Tryz.prog (Instr.loadAt 150 t50_1) (fun t51 => k_20 t51 w_42) w_42) (fun t51_1 w_43 => 
  gd t40 true (fun k_21 w_44 => callS Tryz.prog 114 #[t46_1, t51_1] (fun t52 w_45 => k_21 t52 w_45) w_44) (fun t52_1 w_46 => 
  pur Tryz.prog (pickS t40 t52_1 (.bool false)) fun t53 => 
  pur Tryz.prog (Op.unary .not t53) fun t54 => 
  condS t54
   (Q (.bool false) w_46)
   (pur Tryz.prog (binS .add 3 false true v_i (.int .i64 1)) fun t16 => 
  J t16 w_46)) w_43) w_41) w_39) w_37) w_35) w_33) w_31) w_29) w_27) w_25) w_23) w_21) w_19) w_17) w_15) w_13) w_11) w_9) w_7) w_5) w_3) (World.drew w_1)) (World.drew w_1)) (World.drew w_1))
   (Q (.bool true) w_1)) [(.int .i64 0)] w)
theorem eq219 (v_a v_b : Value) (Q : Value → World → Prop) (w : World) : semF Tryz.prog 219 [v_a, v_b] Q w = S219 v_a v_b Q w := by kernel_rfl
theorem ref219 {v_a v_b : Value} {Q : Value → World → Prop} {w : World} (h : S219 v_a v_b Q w) : callS Tryz.prog 219 #[v_a, v_b] Q w :=
  callS_of mix (fun a w => Tryz.call219 a w) (by kernel_rfl) (by rw [eq219]; exact h)
-- commons/commonsbook.SamePackets
def S220 (v_a v_b : Value) (Q : Value → World → Prop) (w : World) : Prop :=
 pur Tryz.prog (Builtin.len_ #[249] 3 #[v_a]) fun t7 => 
 pur Tryz.prog (Builtin.len_ #[249] 3 #[v_b]) fun t9 => 
 pur Tryz.prog (binS .neq 3 false false t7 t9) fun t10 => 
 condS t10
  (Q (.bool false) w)
  (lp 1 (fun J => fun v_i w_1 => ∀ _j : Fr, 
  pur Tryz.prog (Builtin.len_ #[249] 3 #[v_a]) fun t13 => 
  pur Tryz.prog (binS .lss 3 false false v_i t13) fun t14 => 
  condS t14
   (pur Tryz.prog (Instr.indexAt 249 v_a v_i) fun t19 => 
  rd Tryz.prog (Instr.loadAt 280 t19) (fun t20 => 
  pur Tryz.prog (Instr.indexAt 249 v_b v_i) fun t23 => 
  rd Tryz.prog (Instr.loadAt 280 t23) (fun t24 => 
  rd Tryz.prog (binS .eql 280 false false t20 t24) (fun t25 => 
  pur Tryz.prog (Op.unary .not t25) fun t26 => 
  condS t26
   (Q (.bool false) (World.drew w_1))
   (pur Tryz.prog (binS .add 3 false true v_i (.int .i64 1)) fun t16 => 
  J t16 (World.drew w_1))) (World.drew w_1)) (World.drew w_1)) (World.drew w_1))
   (Q (.bool true) w_1)) [(.int .i64 0)] w)
theorem eq220 (v_a v_b : Value) (Q : Value → World → Prop) (w : World) : semF Tryz.prog 220 [v_a, v_b] Q w = S220 v_a v_b Q w := by kernel_rfl
theorem ref220 {v_a v_b : Value} {Q : Value → World → Prop} {w : World} (h : S220 v_a v_b Q w) : callS Tryz.prog 220 #[v_a, v_b] Q w :=
  callS_of mix (fun a w => Tryz.call220 a w) (by kernel_rfl) (by rw [eq220]; exact h)
-- commons/commonsbook.SameFrames
def S221 (v_a v_b : Value) (Q : Value → World → Prop) (w : World) : Prop :=
 pur Tryz.prog (Builtin.len_ #[251] 3 #[v_a]) fun t7 => 
 pur Tryz.prog (Builtin.len_ #[251] 3 #[v_b]) fun t9 => 
 pur Tryz.prog (binS .neq 3 false false t7 t9) fun t10 => 
 condS t10
  (Q (.bool false) w)
  (lp 1 (fun J => fun v_i w_1 => ∀ _j : Fr, 
  pur Tryz.prog (Builtin.len_ #[251] 3 #[v_a]) fun t13 => 
  pur Tryz.prog (binS .lss 3 false false v_i t13) fun t14 => 
  condS t14
   (pur Tryz.prog (Instr.indexAt 251 v_a v_i) fun t19 => 
  rd Tryz.prog (Instr.loadAt 283 t19) (fun t20 => 
  pur Tryz.prog (Instr.indexAt 251 v_b v_i) fun t23 => 
  rd Tryz.prog (Instr.loadAt 283 t23) (fun t24 => 
  rd Tryz.prog (binS .eql 283 false false t20 t24) (fun t25 => 
  pur Tryz.prog (Op.unary .not t25) fun t26 => 
  condS t26
   (Q (.bool false) (World.drew w_1))
   (pur Tryz.prog (binS .add 3 false true v_i (.int .i64 1)) fun t16 => 
  J t16 (World.drew w_1))) (World.drew w_1)) (World.drew w_1)) (World.drew w_1))
   (Q (.bool true) w_1)) [(.int .i64 0)] w)
theorem eq221 (v_a v_b : Value) (Q : Value → World → Prop) (w : World) : semF Tryz.prog 221 [v_a, v_b] Q w = S221 v_a v_b Q w := by kernel_rfl
theorem ref221 {v_a v_b : Value} {Q : Value → World → Prop} {w : World} (h : S221 v_a v_b Q w) : callS Tryz.prog 221 #[v_a, v_b] Q w :=
  callS_of mix (fun a w => Tryz.call221 a w) (by kernel_rfl) (by rw [eq221]; exact h)
-- commons/commonsbook.SameWaits
def S222 (v_a v_b : Value) (Q : Value → World → Prop) (w : World) : Prop :=
 pur Tryz.prog (Builtin.len_ #[253] 3 #[v_a]) fun t7 => 
 pur Tryz.prog (Builtin.len_ #[253] 3 #[v_b]) fun t9 => 
 pur Tryz.prog (binS .neq 3 false false t7 t9) fun t10 => 
 condS t10
  (Q (.bool false) w)
  (lp 1 (fun J => fun v_i w_1 => ∀ _j : Fr, 
  pur Tryz.prog (Builtin.len_ #[253] 3 #[v_a]) fun t13 => 
  pur Tryz.prog (binS .lss 3 false false v_i t13) fun t14 => 
  condS t14
   (pur Tryz.prog (Instr.indexAt 253 v_a v_i) fun t19 => 
  rd Tryz.prog (Instr.loadAt 286 t19) (fun t20 => 
  pur Tryz.prog (Instr.indexAt 253 v_b v_i) fun t23 => 
  rd Tryz.prog (Instr.loadAt 286 t23) (fun t24 => 
  rd Tryz.prog (binS .eql 286 false false t20 t24) (fun t25 => 
  pur Tryz.prog (Op.unary .not t25) fun t26 => 
  condS t26
   (Q (.bool false) (World.drew w_1))
   (pur Tryz.prog (binS .add 3 false true v_i (.int .i64 1)) fun t16 => 
  J t16 (World.drew w_1))) (World.drew w_1)) (World.drew w_1)) (World.drew w_1))
   (Q (.bool true) w_1)) [(.int .i64 0)] w)
theorem eq222 (v_a v_b : Value) (Q : Value → World → Prop) (w : World) : semF Tryz.prog 222 [v_a, v_b] Q w = S222 v_a v_b Q w := by kernel_rfl
theorem ref222 {v_a v_b : Value} {Q : Value → World → Prop} {w : World} (h : S222 v_a v_b Q w) : callS Tryz.prog 222 #[v_a, v_b] Q w :=
  callS_of mix (fun a w => Tryz.call222 a w) (by kernel_rfl) (by rw [eq222]; exact h)
-- commons/commonsbook.SameRevokes
def S223 (v_a v_b : Value) (Q : Value → World → Prop) (w : World) : Prop :=
 pur Tryz.prog (Builtin.len_ #[255] 3 #[v_a]) fun t7 => 
 pur Tryz.prog (Builtin.len_ #[255] 3 #[v_b]) fun t9 => 
 pur Tryz.prog (binS .neq 3 false false t7 t9) fun t10 => 
 condS t10
  (Q (.bool false) w)
  (lp 1 (fun J => fun v_i w_1 => ∀ _j : Fr, 
  pur Tryz.prog (Builtin.len_ #[255] 3 #[v_a]) fun t13 => 
  pur Tryz.prog (binS .lss 3 false false v_i t13) fun t14 => 
  condS t14
   (pur Tryz.prog (Instr.indexAt 255 v_a v_i) fun t19 => 
  rd Tryz.prog (Instr.loadAt 289 t19) (fun t20 => 
  pur Tryz.prog (Instr.indexAt 255 v_b v_i) fun t23 => 
  rd Tryz.prog (Instr.loadAt 289 t23) (fun t24 => 
  rd Tryz.prog (binS .eql 289 false false t20 t24) (fun t25 => 
  pur Tryz.prog (Op.unary .not t25) fun t26 => 
  condS t26
   (Q (.bool false) (World.drew w_1))
   (pur Tryz.prog (binS .add 3 false true v_i (.int .i64 1)) fun t16 => 
  J t16 (World.drew w_1))) (World.drew w_1)) (World.drew w_1)) (World.drew w_1))
   (Q (.bool true) w_1)) [(.int .i64 0)] w)
theorem eq223 (v_a v_b : Value) (Q : Value → World → Prop) (w : World) : semF Tryz.prog 223 [v_a, v_b] Q w = S223 v_a v_b Q w := by kernel_rfl
theorem ref223 {v_a v_b : Value} {Q : Value → World → Prop} {w : World} (h : S223 v_a v_b Q w) : callS Tryz.prog 223 #[v_a, v_b] Q w :=
  callS_of mix (fun a w => Tryz.call223 a w) (by kernel_rfl) (by rw [eq223]; exact h)
-- commons/commonsbook.SameEntries
def S224 (v_a v_b : Value) (Q : Value → World → Prop) (w : World) : Prop :=
 pur Tryz.prog (Builtin.len_ #[257] 3 #[v_a]) fun t7 => 
 pur Tryz.prog (Builtin.len_ #[257] 3 #[v_b]) fun t9 => 
 pur Tryz.prog (binS .neq 3 false false t7 t9) fun t10 => 
 condS t10
  (Q (.bool false) w)
  (lp 1 (fun J => fun v_i w_1 => ∀ _j : Fr, 
  pur Tryz.prog (Builtin.len_ #[257] 3 #[v_a]) fun t13 => 
  pur Tryz.prog (binS .lss 3 false false v_i t13) fun t14 => 
  condS t14
   (pur Tryz.prog (Instr.indexAt 257 v_a v_i) fun t19 => 
  rd Tryz.prog (Instr.loadAt 292 t19) (fun t20 => 
  pur Tryz.prog (Instr.indexAt 257 v_b v_i) fun t23 => 
  rd Tryz.prog (Instr.loadAt 292 t23) (fun t24 => 
  rd Tryz.prog (binS .eql 292 false false t20 t24) (fun t25 => 
  pur Tryz.prog (Op.unary .not t25) fun t26 => 
  condS t26
   (Q (.bool false) (World.drew w_1))
   (pur Tryz.prog (binS .add 3 false true v_i (.int .i64 1)) fun t16 => 
  J t16 (World.drew w_1))) (World.drew w_1)) (World.drew w_1)) (World.drew w_1))
   (Q (.bool true) w_1)) [(.int .i64 0)] w)
theorem eq224 (v_a v_b : Value) (Q : Value → World → Prop) (w : World) : semF Tryz.prog 224 [v_a, v_b] Q w = S224 v_a v_b Q w := by kernel_rfl
theorem ref224 {v_a v_b : Value} {Q : Value → World → Prop} {w : World} (h : S224 v_a v_b Q w) : callS Tryz.prog 224 #[v_a, v_b] Q w :=
  callS_of mix (fun a w => Tryz.call224 a w) (by kernel_rfl) (by rw [eq224]; exact h)
-- commons/commonsbook.SameParts
def S225 (v_a v_b : Value) (Q : Value → World → Prop) (w : World) : Prop :=
 pur Tryz.prog (Builtin.len_ #[113] 3 #[v_a]) fun t7 => 
 pur Tryz.prog (Builtin.len_ #[113] 3 #[v_b]) fun t9 => 
 pur Tryz.prog (binS .neq 3 false false t7 t9) fun t10 => 
 condS t10
  (Q (.bool false) w)
  (lp 1 (fun J => fun v_i w_1 => ∀ _j : Fr, 
  pur Tryz.prog (Builtin.len_ #[113] 3 #[v_a]) fun t13 => 
  pur Tryz.prog (binS .lss 3 false false v_i t13) fun t14 => 
  condS t14
   (pur Tryz.prog (Instr.indexAt 113 v_a v_i) fun t19 => 
  rd Tryz.prog (Instr.loadAt 230 t19) (fun t20 => 
  pur Tryz.prog (Instr.indexAt 113 v_b v_i) fun t23 => 
  rd Tryz.prog (Instr.loadAt 230 t23) (fun t24 => 
  rd Tryz.prog (binS .eql 230 false false t20 t24) (fun t25 => 
  pur Tryz.prog (Op.unary .not t25) fun t26 => 
  condS t26
   (Q (.bool false) (World.drew w_1))
   (pur Tryz.prog (binS .add 3 false true v_i (.int .i64 1)) fun t16 => 
  J t16 (World.drew w_1))) (World.drew w_1)) (World.drew w_1)) (World.drew w_1))
   (Q (.bool true) w_1)) [(.int .i64 0)] w)
theorem eq225 (v_a v_b : Value) (Q : Value → World → Prop) (w : World) : semF Tryz.prog 225 [v_a, v_b] Q w = S225 v_a v_b Q w := by kernel_rfl
theorem ref225 {v_a v_b : Value} {Q : Value → World → Prop} {w : World} (h : S225 v_a v_b Q w) : callS Tryz.prog 225 #[v_a, v_b] Q w :=
  callS_of mix (fun a w => Tryz.call225 a w) (by kernel_rfl) (by rw [eq225]; exact h)
-- commons/commonsbook.SameMsgs
def S226 (v_a v_b : Value) (Q : Value → World → Prop) (w : World) : Prop :=
 pur Tryz.prog (Builtin.len_ #[260] 3 #[v_a]) fun t7 => 
 pur Tryz.prog (Builtin.len_ #[260] 3 #[v_b]) fun t9 => 
 pur Tryz.prog (binS .neq 3 false false t7 t9) fun t10 => 
 condS t10
  (Q (.bool false) w)
  (lp 1 (fun J => fun v_i w_1 => ∀ _j : Fr, 
  pur Tryz.prog (Builtin.len_ #[260] 3 #[v_a]) fun t13 => 
  pur Tryz.prog (binS .lss 3 false false v_i t13) fun t14 => 
  condS t14
   (pur Tryz.prog (Instr.indexAt 260 v_a v_i) fun t19 => 
  rd Tryz.prog (Instr.loadAt 268 t19) (fun t20 => 
  pur Tryz.prog (Instr.indexAt 260 v_b v_i) fun t23 => 
  rd Tryz.prog (Instr.loadAt 268 t23) (fun t24 => 
  callS Tryz.prog 261 #[t20, t24] (fun t25 w_2 => 
  pur Tryz.prog (Op.unary .not t25) fun t26 => 
  condS t26
   (Q (.bool false) w_2)
   (pur Tryz.prog (binS .add 3 false true v_i (.int .i64 1)) fun t16 => 
  J t16 w_2)) (World.drew w_1)) (World.drew w_1)) (World.drew w_1))
   (Q (.bool true) w_1)) [(.int .i64 0)] w)
theorem eq226 (v_a v_b : Value) (Q : Value → World → Prop) (w : World) : semF Tryz.prog 226 [v_a, v_b] Q w = S226 v_a v_b Q w := by kernel_rfl
theorem ref226 {v_a v_b : Value} {Q : Value → World → Prop} {w : World} (h : S226 v_a v_b Q w) : callS Tryz.prog 226 #[v_a, v_b] Q w :=
  callS_of mix (fun a w => Tryz.call226 a w) (by kernel_rfl) (by rw [eq226]; exact h)
-- commons/commonsbook.SameSteps
def S227 (v_a v_b : Value) (Q : Value → World → Prop) (w : World) : Prop :=
 pur Tryz.prog (Builtin.len_ #[262] 3 #[v_a]) fun t7 => 
 pur Tryz.prog (Builtin.len_ #[262] 3 #[v_b]) fun t9 => 
 pur Tryz.prog (binS .neq 3 false false t7 t9) fun t10 => 
 condS t10
  (Q (.bool false) w)
  (lp 1 (fun J => fun v_i w_1 => ∀ _j : Fr, 
  pur Tryz.prog (Builtin.len_ #[262] 3 #[v_a]) fun t13 => 
  pur Tryz.prog (binS .lss 3 false false v_i t13) fun t14 => 
  condS t14
   (pur Tryz.prog (Instr.indexAt 262 v_a v_i) fun t19 => 
  pur Tryz.prog (Instr.fieldAt 271 t19 0) fun t20 => 
  rd Tryz.prog (Instr.loadAt 9 t20) (fun t21 => 
  pur Tryz.prog (Instr.indexAt 262 v_b v_i) fun t24 => 
  pur Tryz.prog (Instr.fieldAt 271 t24 0) fun t25 => 
  rd Tryz.prog (Instr.loadAt 9 t25) (fun t26 => 
  pur Tryz.prog (binS .eql 9 false false t21 t26) fun t27 => 
  gd t27 true (fun k w_2 => k v_a w_2) (fun t29_1 w_3 => 
  gd t27 true (fun k_1 w_4 => k_1 v_i w_4) (fun t30_1 w_5 => 
  gd t27 true (fun k_2 w_6 => pur Tryz.prog (Instr.indexAt 262 t29_1 t30_1) fun t31 => k_2 t31 w_6) (fun t31_1 w_7 => 
  gd t27 true (fun k_3 w_8 => pur Tryz.prog (Instr.fieldAt 271 t31_1 1) fun t32 => k_3 t32 w_8) (fun t32_1 w_9 => 
  gd t27 true (fun k_4 w_10 => rd Tryz.prog (Instr.loadAt 65 t32_1) (fun t33 => k_4 t33 w_10) w_10) (fun t33_1 w_11 => 
  gd t27 true (fun k_5 w_12 => k_5 v_b w_12) (fun t34_1 w_13 => 
  gd t27 true (fun k_6 w_14 => k_6 v_i w_14) (fun t35_1 w_15 => 
  gd t27 true (fun k_7 w_16 => pur Tryz.prog (Instr.indexAt 262 t34_1 t35_1) fun t36 => k_7 t36 w_16) (fun t36_1 w_17 => 
  gd t27 true (fun k_8 w_18 => pur Tryz.prog (Instr.fieldAt 271 t36_1 1) fun t37 => k_8 t37 w_18) (fun t37_1 w_19 => 
  gd t27 true (fun k_9 w_20 => rd Tryz.prog (Instr.loadAt 65 t37_1) (fun t38 => k_9 t38 w_20) w_20) (fun t38_1 w_21 => 
  gd t27 true (fun k_10 w_22 => callS Tryz.prog 27 #[t33_1, t38_1] (fun t39 w_23 => k_10 t39 w_23) w_22) (fun t39_1 w_24 => 
  pur Tryz.prog (pickS t27 t39_1 (.bool false)) fun t40 => 
  gd t40 true (fun k_11 w_25 => k_11 v_a w_25) (fun t42_1 w_26 => 
  gd t40 true (fun k_12 w_27 => k_12 v_i w_27) (fun t43_1 w_28 => 
  gd t40 true (fun k_13 w_29 => pur Tryz.prog (Instr.indexAt 262 t42_1 t43_1) fun t44 => k_13 t44 w_29) (fun t44_1 w_30 => 
  gd t40 true (fun k_14 w_31 => pur Tryz.prog (Instr.fieldAt 271 t44_1 2) fun t45 => k_14 t45 w_31) (fun t45_1 w_32 => 
  gd t40 true (fun k_15 w_33 => rd Tryz.prog (Instr.loadAt 243 t45_1) (fun t46 => k_15 t46 w_33) w_33) (fun t46_1 w_34 => 
  gd t40 true (fun k_16 w_35 => k_16 v_b w_35) (fun t47_1 w_36 => 
  gd t40 true (fun k_17 w_37 => k_17 v_i w_37) (fun t48_1 w_38 => 
  gd t40 true (fun k_18 w_39 => pur Tryz.prog (Instr.indexAt 262 t47_1 t48_1) fun t49 => k_18 t49 w_39) (fun t49_1 w_40 => 
  gd t40 true (fun k_19 w_41 => pur Tryz.prog (Instr.fieldAt 271 t49_1 2) fun t50 => k_19 t50 w_41) (fun t50_1 w_42 => 
  gd t40 true (fun k_20 w_43 => rd Tryz.prog (Instr.loadAt 243 t50_1) (fun t51 => k_20 t51 w_43) w_43) (fun t51_1 w_44 => 
  gd t40 true (fun k_21 w_45 => callS Tryz.prog 217 #[t46_1, t51_1] (fun t52 w_46 => k_21 t52 w_46) w_45) (fun t52_1 w_47 => 
  pur Tryz.prog (pickS t40 t52_1 (.bool false)) fun t53 => 
  pur Tryz.prog (Op.unary .not t53) fun t54 => 
  condS t54
   (Q (.bool false) w_47)
   (pur Tryz.prog (binS .add 3 false true v_i (.int .i64 1)) fun t16 => 
  J t16 w_47)) w_44) w_42) w_40) w_38) w_36) w_34) w_32) w_30) w_28) w_26) w_24) w_21) w_19) w_17) w_15) w_13) w_11) w_9) w_7) w_5) w_3) (World.drew w_1)) (World.drew w_1)) (World.drew w_1))
   (Q (.bool true) w_1)) [(.int .i64 0)] w)
theorem eq227 (v_a v_b : Value) (Q : Value → World → Prop) (w : World) : semF Tryz.prog 227 [v_a, v_b] Q w = S227 v_a v_b Q w := by kernel_rfl
theorem ref227 {v_a v_b : Value} {Q : Value → World → Prop} {w : World} (h : S227 v_a v_b Q w) : callS Tryz.prog 227 #[v_a, v_b] Q w :=
  callS_of mix (fun a w => Tryz.call227 a w) (by kernel_rfl) (by rw [eq227]; exact h)
-- commons/commonsbook.markRecords
def S228 (v_i v_from v_n : Value) (Q : Value → World → Prop) (w : World) : Prop :=
 lp 2 (fun J => fun v_out v_k w_1 => ∀ _j : Fr, 
  pur Tryz.prog (binS .add 3 false false v_from v_n) fun t13 => 
  pur Tryz.prog (binS .lss 3 false false v_k t13) fun t14 => 
  condS t14
   (pur Tryz.prog (binS .mul 3 true false (.int .i64 1000) v_i) fun t19 => 
  pur Tryz.prog (binS .add 3 false false t19 v_k) fun t21 => 
  pur Tryz.prog (binS .add 3 false true t21 (.int .i64 9)) fun t22 => 
  pur Tryz.prog (convert 3 160 t22) fun t23 => 
  pur Tryz.prog (Instr.build 265 #[(1, t23)]) fun t24 => 
  act Tryz.prog (Instr.buildSlice 247 1 #[(0, t24)]) (fun t25 w_2 => 
  act Tryz.prog (Builtin.append_ #[247, 247] 247 #[v_out, t25]) (fun t26 w_3 => 
  pur Tryz.prog (binS .add 3 false true v_k (.int .i64 1)) fun t16 => 
  J t26 t16 w_3) w_2) w_1)
   (Q v_out w_1)) [(.slice none 0 0), v_from] w
theorem eq228 (v_i v_from v_n : Value) (Q : Value → World → Prop) (w : World) : semF Tryz.prog 228 [v_i, v_from, v_n] Q w = S228 v_i v_from v_n Q w := by kernel_rfl
theorem ref228 {v_i v_from v_n : Value} {Q : Value → World → Prop} {w : World} (h : S228 v_i v_from v_n Q w) : callS Tryz.prog 228 #[v_i, v_from, v_n] Q w :=
  callS_of mix (fun a w => Tryz.call228 a w) (by kernel_rfl) (by rw [eq228]; exact h)
-- commons/commonsbook.markMsgs
def S229 (v_i v_from v_n : Value) (Q : Value → World → Prop) (w : World) : Prop :=
 lp 2 (fun J => fun v_out v_k w_1 => ∀ _j : Fr, 
  pur Tryz.prog (binS .add 3 false false v_from v_n) fun t13 => 
  pur Tryz.prog (binS .lss 3 false false v_k t13) fun t14 => 
  condS t14
   (pur Tryz.prog (binS .sub 3 true false (.int .i64 (-1)) v_i) fun t19 => 
  pur Tryz.prog (Instr.build 268 #[(1, t19), (2, v_k)]) fun t21 => 
  act Tryz.prog (Instr.buildSlice 260 1 #[(0, t21)]) (fun t22 w_2 => 
  act Tryz.prog (Builtin.append_ #[260, 260] 260 #[v_out, t22]) (fun t23 w_3 => 
  pur Tryz.prog (binS .add 3 false true v_k (.int .i64 1)) fun t16 => 
  J t23 t16 w_3) w_2) w_1)
   (Q v_out w_1)) [(.slice none 0 0), v_from] w
theorem eq229 (v_i v_from v_n : Value) (Q : Value → World → Prop) (w : World) : semF Tryz.prog 229 [v_i, v_from, v_n] Q w = S229 v_i v_from v_n Q w := by kernel_rfl
theorem ref229 {v_i v_from v_n : Value} {Q : Value → World → Prop} {w : World} (h : S229 v_i v_from v_n Q w) : callS Tryz.prog 229 #[v_i, v_from, v_n] Q w :=
  callS_of mix (fun a w => Tryz.call229 a w) (by kernel_rfl) (by rw [eq229]; exact h)
-- commons/commonsbook.markSteps
def S230 (v_i v_from v_n : Value) (Q : Value → World → Prop) (w : World) : Prop :=
 lp 2 (fun J => fun v_out v_k w_1 => ∀ _j : Fr, 
  pur Tryz.prog (binS .add 3 false false v_from v_n) fun t13 => 
  pur Tryz.prog (binS .lss 3 false false v_k t13) fun t14 => 
  condS t14
   (callS Tryz.prog 262 #[v_i, v_k] (fun t20 w_2 => 
  pur Tryz.prog (Instr.build 271 #[(0, t20)]) fun t21 => 
  act Tryz.prog (Instr.buildSlice 262 1 #[(0, t21)]) (fun t22 w_3 => 
  act Tryz.prog (Builtin.append_ #[262, 262] 262 #[v_out, t22]) (fun t23 w_4 => 
  pur Tryz.prog (binS .add 3 false true v_k (.int .i64 1)) fun t16 => 
  J t23 t16 w_4) w_3) w_2) w_1)
   (Q v_out w_1)) [(.slice none 0 0), v_from] w
theorem eq230 (v_i v_from v_n : Value) (Q : Value → World → Prop) (w : World) : semF Tryz.prog 230 [v_i, v_from, v_n] Q w = S230 v_i v_from v_n Q w := by kernel_rfl
theorem ref230 {v_i v_from v_n : Value} {Q : Value → World → Prop} {w : World} (h : S230 v_i v_from v_n Q w) : callS Tryz.prog 230 #[v_i, v_from, v_n] Q w :=
  callS_of mix (fun a w => Tryz.call230 a w) (by kernel_rfl) (by rw [eq230]; exact h)
-- commons/commonsbook.markTexts
def S231 (v_i v_from v_n : Value) (Q : Value → World → Prop) (w : World) : Prop :=
 lp 2 (fun J => fun v_out v_k w_1 => ∀ _j : Fr, 
  pur Tryz.prog (binS .add 3 false false v_from v_n) fun t13 => 
  pur Tryz.prog (binS .lss 3 false false v_k t13) fun t14 => 
  condS t14
   (callS Tryz.prog 262 #[v_i, v_k] (fun t20 w_2 => 
  act Tryz.prog (Instr.buildSlice 243 1 #[(0, t20)]) (fun t21 w_3 => 
  act Tryz.prog (Builtin.append_ #[243, 243] 243 #[v_out, t21]) (fun t22 w_4 => 
  pur Tryz.prog (binS .add 3 false true v_k (.int .i64 1)) fun t16 => 
  J t22 t16 w_4) w_3) w_2) w_1)
   (Q v_out w_1)) [(.slice none 0 0), v_from] w
theorem eq231 (v_i v_from v_n : Value) (Q : Value → World → Prop) (w : World) : semF Tryz.prog 231 [v_i, v_from, v_n] Q w = S231 v_i v_from v_n Q w := by kernel_rfl
theorem ref231 {v_i v_from v_n : Value} {Q : Value → World → Prop} {w : World} (h : S231 v_i v_from v_n Q w) : callS Tryz.prog 231 #[v_i, v_from, v_n] Q w :=
  callS_of mix (fun a w => Tryz.call231 a w) (by kernel_rfl) (by rw [eq231]; exact h)
-- commons/commonsbook.markInts
def S232 (v_i v_from v_n : Value) (Q : Value → World → Prop) (w : World) : Prop :=
 lp 2 (fun J => fun v_out v_k w_1 => ∀ _j : Fr, 
  pur Tryz.prog (binS .add 3 false false v_from v_n) fun t13 => 
  pur Tryz.prog (binS .lss 3 false false v_k t13) fun t14 => 
  condS t14
   (pur Tryz.prog (binS .mul 3 true false (.int .i64 (-1000000)) v_i) fun t19 => 
  pur Tryz.prog (binS .sub 3 false false t19 v_k) fun t21 => 
  pur Tryz.prog (binS .sub 3 false true t21 (.int .i64 7)) fun t22 => 
  act Tryz.prog (Instr.buildSlice 65 1 #[(0, t22)]) (fun t23 w_2 => 
  act Tryz.prog (Builtin.append_ #[65, 65] 65 #[v_out, t23]) (fun t24 w_3 => 
  pur Tryz.prog (binS .add 3 false true v_k (.int .i64 1)) fun t16 => 
  J t24 t16 w_3) w_2) w_1)
   (Q v_out w_1)) [(.slice none 0 0), v_from] w
theorem eq232 (v_i v_from v_n : Value) (Q : Value → World → Prop) (w : World) : semF Tryz.prog 232 [v_i, v_from, v_n] Q w = S232 v_i v_from v_n Q w := by kernel_rfl
theorem ref232 {v_i v_from v_n : Value} {Q : Value → World → Prop} {w : World} (h : S232 v_i v_from v_n Q w) : callS Tryz.prog 232 #[v_i, v_from, v_n] Q w :=
  callS_of mix (fun a w => Tryz.call232 a w) (by kernel_rfl) (by rw [eq232]; exact h)
-- commons/commonsbook.markNums
def S233 (v_i v_from v_n : Value) (Q : Value → World → Prop) (w : World) : Prop :=
 lp 2 (fun J => fun v_out v_k w_1 => ∀ _j : Fr, 
  pur Tryz.prog (binS .add 3 false false v_from v_n) fun t13 => 
  pur Tryz.prog (binS .lss 3 false false v_k t13) fun t14 => 
  condS t14
   (pur Tryz.prog (binS .mul 3 true false (.int .i64 1000000) v_i) fun t19 => 
  pur Tryz.prog (binS .add 3 false false t19 v_k) fun t21 => 
  pur Tryz.prog (binS .add 3 false true t21 (.int .i64 7)) fun t22 => 
  pur Tryz.prog (convert 3 160 t22) fun t23 => 
  act Tryz.prog (Instr.buildSlice 245 1 #[(0, t23)]) (fun t24 w_2 => 
  act Tryz.prog (Builtin.append_ #[245, 245] 245 #[v_out, t24]) (fun t25 w_3 => 
  pur Tryz.prog (binS .add 3 false true v_k (.int .i64 1)) fun t16 => 
  J t25 t16 w_3) w_2) w_1)
   (Q v_out w_1)) [(.slice none 0 0), v_from] w
theorem eq233 (v_i v_from v_n : Value) (Q : Value → World → Prop) (w : World) : semF Tryz.prog 233 [v_i, v_from, v_n] Q w = S233 v_i v_from v_n Q w := by kernel_rfl
theorem ref233 {v_i v_from v_n : Value} {Q : Value → World → Prop} {w : World} (h : S233 v_i v_from v_n Q w) : callS Tryz.prog 233 #[v_i, v_from, v_n] Q w :=
  callS_of mix (fun a w => Tryz.call233 a w) (by kernel_rfl) (by rw [eq233]; exact h)
-- commons/commonsbook.markSpans
def S234 (v_i v_from v_n : Value) (Q : Value → World → Prop) (w : World) : Prop :=
 lp 2 (fun J => fun v_out v_k w_1 => ∀ _j : Fr, 
  pur Tryz.prog (binS .add 3 false false v_from v_n) fun t13 => 
  pur Tryz.prog (binS .lss 3 false false v_k t13) fun t14 => 
  condS t14
   (pur Tryz.prog (binS .sub 3 true false (.int .i64 (-1)) v_i) fun t19 => 
  pur Tryz.prog (Instr.build 92 #[(0, t19), (1, v_k)]) fun t21 => 
  act Tryz.prog (Instr.buildSlice 90 1 #[(0, t21)]) (fun t22 w_2 => 
  act Tryz.prog (Builtin.append_ #[90, 90] 90 #[v_out, t22]) (fun t23 w_3 => 
  pur Tryz.prog (binS .add 3 false true v_k (.int .i64 1)) fun t16 => 
  J t23 t16 w_3) w_2) w_1)
   (Q v_out w_1)) [(.slice none 0 0), v_from] w
theorem eq234 (v_i v_from v_n : Value) (Q : Value → World → Prop) (w : World) : semF Tryz.prog 234 [v_i, v_from, v_n] Q w = S234 v_i v_from v_n Q w := by kernel_rfl
theorem ref234 {v_i v_from v_n : Value} {Q : Value → World → Prop} {w : World} (h : S234 v_i v_from v_n Q w) : callS Tryz.prog 234 #[v_i, v_from, v_n] Q w :=
  callS_of mix (fun a w => Tryz.call234 a w) (by kernel_rfl) (by rw [eq234]; exact h)
-- commons/commonsbook.markLocks
def S235 (v_i v_from v_n : Value) (Q : Value → World → Prop) (w : World) : Prop :=
 lp 2 (fun J => fun v_out v_k w_1 => ∀ _j : Fr, 
  pur Tryz.prog (binS .add 3 false false v_from v_n) fun t13 => 
  pur Tryz.prog (binS .lss 3 false false v_k t13) fun t14 => 
  condS t14
   (pur Tryz.prog (binS .sub 3 true false (.int .i64 (-1)) v_i) fun t19 => 
  pur Tryz.prog (Instr.build 92 #[(0, v_k)]) fun t21 => 
  pur Tryz.prog (Instr.build 148 #[(1, t19), (0, t21)]) fun t22 => 
  act Tryz.prog (Instr.buildSlice 129 1 #[(0, t22)]) (fun t23 w_2 => 
  act Tryz.prog (Builtin.append_ #[129, 129] 129 #[v_out, t23]) (fun t24 w_3 => 
  pur Tryz.prog (binS .add 3 false true v_k (.int .i64 1)) fun t16 => 
  J t24 t16 w_3) w_2) w_1)
   (Q v_out w_1)) [(.slice none 0 0), v_from] w
theorem eq235 (v_i v_from v_n : Value) (Q : Value → World → Prop) (w : World) : semF Tryz.prog 235 [v_i, v_from, v_n] Q w = S235 v_i v_from v_n Q w := by kernel_rfl
theorem ref235 {v_i v_from v_n : Value} {Q : Value → World → Prop} {w : World} (h : S235 v_i v_from v_n Q w) : callS Tryz.prog 235 #[v_i, v_from, v_n] Q w :=
  callS_of mix (fun a w => Tryz.call235 a w) (by kernel_rfl) (by rw [eq235]; exact h)
-- commons/commonsbook.markImages
def S236 (v_i v_from v_n : Value) (Q : Value → World → Prop) (w : World) : Prop :=
 lp 2 (fun J => fun v_out v_k w_1 => ∀ _j : Fr, 
  pur Tryz.prog (binS .add 3 false false v_from v_n) fun t13 => 
  pur Tryz.prog (binS .lss 3 false false v_k t13) fun t14 => 
  condS t14
   (pur Tryz.prog (binS .sub 3 true false (.int .i64 (-1)) v_i) fun t19 => 
  pur Tryz.prog (convert 3 160 v_k) fun t21 => 
  pur Tryz.prog (Instr.build 162 #[(0, t19), (1, t21)]) fun t22 => 
  act Tryz.prog (Instr.buildSlice 150 1 #[(0, t22)]) (fun t23 w_2 => 
  act Tryz.prog (Builtin.append_ #[150, 150] 150 #[v_out, t23]) (fun t24 w_3 => 
  pur Tryz.prog (binS .add 3 false true v_k (.int .i64 1)) fun t16 => 
  J t24 t16 w_3) w_2) w_1)
   (Q v_out w_1)) [(.slice none 0 0), v_from] w
theorem eq236 (v_i v_from v_n : Value) (Q : Value → World → Prop) (w : World) : semF Tryz.prog 236 [v_i, v_from, v_n] Q w = S236 v_i v_from v_n Q w := by kernel_rfl
theorem ref236 {v_i v_from v_n : Value} {Q : Value → World → Prop} {w : World} (h : S236 v_i v_from v_n Q w) : callS Tryz.prog 236 #[v_i, v_from, v_n] Q w :=
  callS_of mix (fun a w => Tryz.call236 a w) (by kernel_rfl) (by rw [eq236]; exact h)
-- commons/commonsbook.markPackets
def S237 (v_i v_from v_n : Value) (Q : Value → World → Prop) (w : World) : Prop :=
 lp 2 (fun J => fun v_out v_k w_1 => ∀ _j : Fr, 
  pur Tryz.prog (binS .add 3 false false v_from v_n) fun t13 => 
  pur Tryz.prog (binS .lss 3 false false v_k t13) fun t14 => 
  condS t14
   (pur Tryz.prog (binS .sub 3 true false (.int .i64 (-1)) v_i) fun t19 => 
  pur Tryz.prog (Instr.build 280 #[(0, t19), (1, v_k)]) fun t21 => 
  act Tryz.prog (Instr.buildSlice 249 1 #[(0, t21)]) (fun t22 w_2 => 
  act Tryz.prog (Builtin.append_ #[249, 249] 249 #[v_out, t22]) (fun t23 w_3 => 
  pur Tryz.prog (binS .add 3 false true v_k (.int .i64 1)) fun t16 => 
  J t23 t16 w_3) w_2) w_1)
   (Q v_out w_1)) [(.slice none 0 0), v_from] w
theorem eq237 (v_i v_from v_n : Value) (Q : Value → World → Prop) (w : World) : semF Tryz.prog 237 [v_i, v_from, v_n] Q w = S237 v_i v_from v_n Q w := by kernel_rfl
theorem ref237 {v_i v_from v_n : Value} {Q : Value → World → Prop} {w : World} (h : S237 v_i v_from v_n Q w) : callS Tryz.prog 237 #[v_i, v_from, v_n] Q w :=
  callS_of mix (fun a w => Tryz.call237 a w) (by kernel_rfl) (by rw [eq237]; exact h)
-- commons/commonsbook.markFrames
def S238 (v_i v_from v_n : Value) (Q : Value → World → Prop) (w : World) : Prop :=
 lp 2 (fun J => fun v_out v_k w_1 => ∀ _j : Fr, 
  pur Tryz.prog (binS .add 3 false false v_from v_n) fun t13 => 
  pur Tryz.prog (binS .lss 3 false false v_k t13) fun t14 => 
  condS t14
   (pur Tryz.prog (binS .sub 3 true false (.int .i64 (-1)) v_i) fun t19 => 
  pur Tryz.prog (Instr.build 283 #[(0, t19), (1, v_k)]) fun t21 => 
  act Tryz.prog (Instr.buildSlice 251 1 #[(0, t21)]) (fun t22 w_2 => 
  act Tryz.prog (Builtin.append_ #[251, 251] 251 #[v_out, t22]) (fun t23 w_3 => 
  pur Tryz.prog (binS .add 3 false true v_k (.int .i64 1)) fun t16 => 
  J t23 t16 w_3) w_2) w_1)
   (Q v_out w_1)) [(.slice none 0 0), v_from] w
theorem eq238 (v_i v_from v_n : Value) (Q : Value → World → Prop) (w : World) : semF Tryz.prog 238 [v_i, v_from, v_n] Q w = S238 v_i v_from v_n Q w := by kernel_rfl
theorem ref238 {v_i v_from v_n : Value} {Q : Value → World → Prop} {w : World} (h : S238 v_i v_from v_n Q w) : callS Tryz.prog 238 #[v_i, v_from, v_n] Q w :=
  callS_of mix (fun a w => Tryz.call238 a w) (by kernel_rfl) (by rw [eq238]; exact h)
-- commons/commonsbook.markWaits
def S239 (v_i v_from v_n : Value) (Q : Value → World → Prop) (w : World) : Prop :=
 lp 2 (fun J => fun v_out v_k w_1 => ∀ _j : Fr, 
  pur Tryz.prog (binS .add 3 false false v_from v_n) fun t13 => 
  pur Tryz.prog (binS .lss 3 false false v_k t13) fun t14 => 
  condS t14
   (pur Tryz.prog (binS .sub 3 true false (.int .i64 (-1)) v_i) fun t19 => 
  pur Tryz.prog (Instr.build 286 #[(0, t19), (1, v_k)]) fun t21 => 
  act Tryz.prog (Instr.buildSlice 253 1 #[(0, t21)]) (fun t22 w_2 => 
  act Tryz.prog (Builtin.append_ #[253, 253] 253 #[v_out, t22]) (fun t23 w_3 => 
  pur Tryz.prog (binS .add 3 false true v_k (.int .i64 1)) fun t16 => 
  J t23 t16 w_3) w_2) w_1)
   (Q v_out w_1)) [(.slice none 0 0), v_from] w
theorem eq239 (v_i v_from v_n : Value) (Q : Value → World → Prop) (w : World) : semF Tryz.prog 239 [v_i, v_from, v_n] Q w = S239 v_i v_from v_n Q w := by kernel_rfl
theorem ref239 {v_i v_from v_n : Value} {Q : Value → World → Prop} {w : World} (h : S239 v_i v_from v_n Q w) : callS Tryz.prog 239 #[v_i, v_from, v_n] Q w :=
  callS_of mix (fun a w => Tryz.call239 a w) (by kernel_rfl) (by rw [eq239]; exact h)
-- commons/commonsbook.markRevokes
def S240 (v_i v_from v_n : Value) (Q : Value → World → Prop) (w : World) : Prop :=
 lp 2 (fun J => fun v_out v_k w_1 => ∀ _j : Fr, 
  pur Tryz.prog (binS .add 3 false false v_from v_n) fun t13 => 
  pur Tryz.prog (binS .lss 3 false false v_k t13) fun t14 => 
  condS t14
   (pur Tryz.prog (binS .mul 3 true false (.int .i64 (-1000)) v_i) fun t19 => 
  pur Tryz.prog (binS .sub 3 false false t19 v_k) fun t21 => 
  pur Tryz.prog (binS .sub 3 false true t21 (.int .i64 1)) fun t22 => 
  pur Tryz.prog (Instr.build 289 #[(0, t22)]) fun t23 => 
  act Tryz.prog (Instr.buildSlice 255 1 #[(0, t23)]) (fun t24 w_2 => 
  act Tryz.prog (Builtin.append_ #[255, 255] 255 #[v_out, t24]) (fun t25 w_3 => 
  pur Tryz.prog (binS .add 3 false true v_k (.int .i64 1)) fun t16 => 
  J t25 t16 w_3) w_2) w_1)
   (Q v_out w_1)) [(.slice none 0 0), v_from] w
theorem eq240 (v_i v_from v_n : Value) (Q : Value → World → Prop) (w : World) : semF Tryz.prog 240 [v_i, v_from, v_n] Q w = S240 v_i v_from v_n Q w := by kernel_rfl
theorem ref240 {v_i v_from v_n : Value} {Q : Value → World → Prop} {w : World} (h : S240 v_i v_from v_n Q w) : callS Tryz.prog 240 #[v_i, v_from, v_n] Q w :=
  callS_of mix (fun a w => Tryz.call240 a w) (by kernel_rfl) (by rw [eq240]; exact h)
-- commons/commonsbook.markEntries
def S241 (v_i v_from v_n : Value) (Q : Value → World → Prop) (w : World) : Prop :=
 lp 2 (fun J => fun v_out v_k w_1 => ∀ _j : Fr, 
  pur Tryz.prog (binS .add 3 false false v_from v_n) fun t13 => 
  pur Tryz.prog (binS .lss 3 false false v_k t13) fun t14 => 
  condS t14
   (pur Tryz.prog (binS .mul 3 true false (.int .i64 1000) v_i) fun t19 => 
  pur Tryz.prog (binS .add 3 false false t19 v_k) fun t21 => 
  pur Tryz.prog (binS .add 3 false true t21 (.int .i64 9)) fun t22 => 
  pur Tryz.prog (convert 3 160 t22) fun t23 => 
  pur Tryz.prog (Instr.build 292 #[(2, t23)]) fun t24 => 
  act Tryz.prog (Instr.buildSlice 257 1 #[(0, t24)]) (fun t25 w_2 => 
  act Tryz.prog (Builtin.append_ #[257, 257] 257 #[v_out, t25]) (fun t26 w_3 => 
  pur Tryz.prog (binS .add 3 false true v_k (.int .i64 1)) fun t16 => 
  J t26 t16 w_3) w_2) w_1)
   (Q v_out w_1)) [(.slice none 0 0), v_from] w
theorem eq241 (v_i v_from v_n : Value) (Q : Value → World → Prop) (w : World) : semF Tryz.prog 241 [v_i, v_from, v_n] Q w = S241 v_i v_from v_n Q w := by kernel_rfl
theorem ref241 {v_i v_from v_n : Value} {Q : Value → World → Prop} {w : World} (h : S241 v_i v_from v_n Q w) : callS Tryz.prog 241 #[v_i, v_from, v_n] Q w :=
  callS_of mix (fun a w => Tryz.call241 a w) (by kernel_rfl) (by rw [eq241]; exact h)
-- commons/commonsbook.markParts
def S242 (v_i v_from v_n : Value) (Q : Value → World → Prop) (w : World) : Prop :=
 lp 2 (fun J => fun v_out v_k w_1 => ∀ _j : Fr, 
  pur Tryz.prog (binS .add 3 false false v_from v_n) fun t13 => 
  pur Tryz.prog (binS .lss 3 false false v_k t13) fun t14 => 
  condS t14
   (pur Tryz.prog (binS .mul 3 true false (.int .i64 (-1000)) v_i) fun t19 => 
  pur Tryz.prog (binS .sub 3 false false t19 v_k) fun t21 => 
  pur Tryz.prog (binS .sub 3 false true t21 (.int .i64 1)) fun t22 => 
  pur Tryz.prog (Instr.build 230 #[(1, t22)]) fun t23 => 
  act Tryz.prog (Instr.buildSlice 113 1 #[(0, t23)]) (fun t24 w_2 => 
  act Tryz.prog (Builtin.append_ #[113, 113] 113 #[v_out, t24]) (fun t25 w_3 => 
  pur Tryz.prog (binS .add 3 false true v_k (.int .i64 1)) fun t16 => 
  J t25 t16 w_3) w_2) w_1)
   (Q v_out w_1)) [(.slice none 0 0), v_from] w
theorem eq242 (v_i v_from v_n : Value) (Q : Value → World → Prop) (w : World) : semF Tryz.prog 242 [v_i, v_from, v_n] Q w = S242 v_i v_from v_n Q w := by kernel_rfl
theorem ref242 {v_i v_from v_n : Value} {Q : Value → World → Prop} {w : World} (h : S242 v_i v_from v_n Q w) : callS Tryz.prog 242 #[v_i, v_from, v_n] Q w :=
  callS_of mix (fun a w => Tryz.call242 a w) (by kernel_rfl) (by rw [eq242]; exact h)
-- commons/commonsbook.sameMsg
def S261 (v_a v_b : Value) (Q : Value → World → Prop) (w : World) : Prop :=
 act Tryz.prog (Instr.box 268 v_a) (fun t2 w_1 => 
 act Tryz.prog (Instr.box 268 v_b) (fun t3 w_2 => 
 pur Tryz.prog (Instr.fieldAt 268 t2 0) fun t5 => 
 rd Tryz.prog (Instr.loadAt 3 t5) (fun t6 => 
 pur Tryz.prog (Instr.fieldAt 268 t3 0) fun t7 => 
 rd Tryz.prog (Instr.loadAt 3 t7) (fun t8 => 
 pur Tryz.prog (binS .eql 3 false false t6 t8) fun t9 => 
 gd t9 true (fun k w_3 => pur Tryz.prog (Instr.fieldAt 268 t2 1) fun t11 => k t11 w_3) (fun t11_1 w_4 => 
 gd t9 true (fun k_1 w_5 => rd Tryz.prog (Instr.loadAt 3 t11_1) (fun t12 => k_1 t12 w_5) w_5) (fun t12_1 w_6 => 
 gd t9 true (fun k_2 w_7 => pur Tryz.prog (Instr.fieldAt 268 t3 1) fun t13 => k_2 t13 w_7) (fun t13_1 w_8 => 
 gd t9 true (fun k_3 w_9 => rd Tryz.prog (Instr.loadAt 3 t13_1) (fun t14 => k_3 t14 w_9) w_9) (fun t14_1 w_10 => 
 gd t9 true (fun k_4 w_11 => pur Tryz.prog (binS .eql 3 false false t12_1 t14_1) fun t15 => k_4 t15 w_11) (fun t15_1 w_12 => 
 pur Tryz.prog (pickS t9 t15_1 (.bool false)) fun t16 => 
 gd t16 true (fun k_5 w_13 => pur Tryz.prog (Instr.fieldAt 268 t2 2) fun t18 => k_5 t18 w_13) (fun t18_1 w_14 => 
 gd t16 true (fun k_6 w_15 => rd Tryz.prog (Instr.loadAt 3 t18_1) (fun t19 => k_6 t19 w_15) w_15) (fun t19_1 w_16 => 
 gd t16 true (fun k_7 w_17 => pur Tryz.prog (Instr.fieldAt 268 t3 2) fun t20 => k_7 t20 w_17) (fun t20_1 w_18 => 
 gd t16 true (fun k_8 w_19 => rd Tryz.prog (Instr.loadAt 3 t20_1) (fun t21 => k_8 t21 w_19) w_19) (fun t21_1 w_20 => 
 gd t16 true (fun k_9 w_21 => pur Tryz.prog (binS .eql 3 false false t19_1 t21_1) fun t22 => k_9 t22 w_21) (fun t22_1 w_22 => 
 pur Tryz.prog (pickS t16 t22_1 (.bool false)) fun t23 => 
 gd t23 true (fun k_10 w_23 => pur Tryz.prog (Instr.fieldAt 268 t2 3) fun t25 => k_10 t25 w_23) (fun t25_1 w_24 => 
 gd t23 true (fun k_11 w_25 => rd Tryz.prog (Instr.loadAt 3 t25_1) (fun t26 => k_11 t26 w_25) w_25) (fun t26_1 w_26 => 
 gd t23 true (fun k_12 w_27 => pur Tryz.prog (Instr.fieldAt 268 t3 3) fun t27 => k_12 t27 w_27) (fun t27_1 w_28 => 
 gd t23 true (fun k_13 w_29 => rd Tryz.prog (Instr.loadAt 3 t27_1) (fun t28 => k_13 t28 w_29) w_29) (fun t28_1 w_30 => 
 gd t23 true (fun k_14 w_31 => pur Tryz.prog (binS .eql 3 false false t26_1 t28_1) fun t29 => k_14 t29 w_31) (fun t29_1 w_32 => 
 pur Tryz.prog (pickS t23 t29_1 (.bool false)) fun t30 => 
 gd t30 true (fun k_15 w_33 => pur Tryz.prog (Instr.fieldAt 268 t2 4) fun t32 => k_15 t32 w_33) (fun t32_1 w_34 => 
 gd t30 true (fun k_16 w_35 => rd Tryz.prog (Instr.loadAt 3 t32_1) (fun t33 => k_16 t33 w_35) w_35) (fun t33_1 w_36 => 
 gd t30 true (fun k_17 w_37 => pur Tryz.prog (Instr.fieldAt 268 t3 4) fun t34 => k_17 t34 w_37) (fun t34_1 w_38 => 
 gd t30 true (fun k_18 w_39 => rd Tryz.prog (Instr.loadAt 3 t34_1) (fun t35 => k_18 t35 w_39) w_39) (fun t35_1 w_40 => 
 gd t30 true (fun k_19 w_41 => pur Tryz.prog (binS .eql 3 false false t33_1 t35_1) fun t36 => k_19 t36 w_41) (fun t36_1 w_42 => 
 pur Tryz.prog (pickS t30 t36_1 (.bool false)) fun t37 => 
 gd t37 true (fun k_20 w_43 => pur Tryz.prog (Instr.fieldAt 268 t2 5) fun t39 => k_20 t39 w_43) (fun t39_1 w_44 => 
 gd t37 true (fun k_21 w_45 => rd Tryz.prog (Instr.loadAt 160 t39_1) (fun t40 => k_21 t40 w_45) w_45) (fun t40_1 w_46 => 
 gd t37 true (fun k_22 w_47 => pur Tryz.prog (Instr.fieldAt 268 t3 5) fun t41 => k_22 t41 w_47) (fun t41_1 w_48 => 
 gd t37 true (fun k_23 w_49 => rd Tryz.prog (Instr.loadAt 160 t41_1) (fun t42 => k_23 t42 w_49) w_49) (fun t42_1 w_50 => 
 gd t37 true (fun k_24 w_51 => pur Tryz.prog (binS .eql 160 false false t40_1 t42_1) fun t43 => k_24 t43 w_51) (fun t43_1 w_52 => 
 pur Tryz.prog (pickS t37 t43_1 (.bool false)) fun t44 => 
 gd t44 true (fun k_25 w_53 => pur Tryz.prog (Instr.fieldAt 268 t2 6) fun t46 => k_25 t46 w_53) (fun t46_1 w_54 => 
 gd t44 true (fun k_26 w_55 => rd Tryz.prog (Instr.loadAt 144 t46_1) (fun t47 => k_26 t47 w_55) w_55) (fun t47_1 w_56 => 
 gd t44 true (fun k_27 w_57 => pur Tryz.prog (Instr.fieldAt 268 t3 6) fun t48 => k_27 t48 w_57) (fun t48_1 w_58 => 
 gd t44 true (fun k_28 w_59 => rd Tryz.prog (Instr.loadAt 144 t48_1) (fun t49 => k_28 t49 w_59) w_59) (fun t49_1 w_60 => 
 gd t44 true (fun k_29 w_61 => pur Tryz.prog (binS .eql 144 false false t47_1 t49_1) fun t50 => k_29 t50 w_61) (fun t50_1 w_62 => 
 pur Tryz.prog (pickS t44 t50_1 (.bool false)) fun t51 => 
 gd t51 true (fun k_30 w_63 => pur Tryz.prog (Instr.fieldAt 268 t2 7) fun t53 => k_30 t53 w_63) (fun t53_1 w_64 => 
 gd t51 true (fun k_31 w_65 => rd Tryz.prog (Instr.loadAt 129 t53_1) (fun t54 => k_31 t54 w_65) w_65) (fun t54_1 w_66 => 
 gd t51 true (fun k_32 w_67 => pur Tryz.prog (Instr.fieldAt 268 t3 7) fun t55 => k_32 t55 w_67) (fun t55_1 w_68 => 
 gd t51 true (fun k_33 w_69 => rd Tryz.prog (Instr.loadAt 129 t55_1) (fun t56 => k_33 t56 w_69) w_69) (fun t56_1 w_70 => 
 gd t51 true (fun k_34 w_71 => callS Tryz.prog 89 #[t54_1, t56_1] (fun t57 w_72 => k_34 t57 w_72) w_71) (fun t57_1 w_73 => 
 pur Tryz.prog (pickS t51 t57_1 (.bool false)) fun t58 => 
 Q t58 w_73) w_70) w_68) w_66) w_64) w_62) w_60) w_58) w_56) w_54) w_52) w_50) w_48) w_46) w_44) w_42) w_40) w_38) w_36) w_34) w_32) w_30) w_28) w_26) w_24) w_22) w_20) w_18) w_16) w_14) w_12) w_10) w_8) w_6) w_4) w_2) w_2) w_2) w_1) w
theorem eq261 (v_a v_b : Value) (Q : Value → World → Prop) (w : World) : semF Tryz.prog 261 [v_a, v_b] Q w = S261 v_a v_b Q w := by kernel_rfl
theorem ref261 {v_a v_b : Value} {Q : Value → World → Prop} {w : World} (h : S261 v_a v_b Q w) : callS Tryz.prog 261 #[v_a, v_b] Q w :=
  callS_of mix (fun a w => Tryz.call261 a w) (by kernel_rfl) (by rw [eq261]; exact h)
-- commons/commonsbook.name
def S262 (v_i v_k : Value) (Q : Value → World → Prop) (w : World) : Prop :=
 pur Tryz.prog (binS .rem 3 false true v_i (.int .i64 26)) fun t6 => 
 pur Tryz.prog (binS .add 3 true false (.int .i64 65) t6) fun t7 => 
 pur Tryz.prog (convert 3 5 t7) fun t8 => 
 pur Tryz.prog (binS .quo 3 false true v_i (.int .i64 26)) fun t10 => 
 pur Tryz.prog (binS .rem 3 false true t10 (.int .i64 26)) fun t11 => 
 pur Tryz.prog (binS .add 3 true false (.int .i64 65) t11) fun t12 => 
 pur Tryz.prog (convert 3 5 t12) fun t13 => 
 pur Tryz.prog (binS .rem 3 false true v_k (.int .i64 10)) fun t15 => 
 pur Tryz.prog (binS .add 3 true false (.int .i64 48) t15) fun t16 => 
 pur Tryz.prog (convert 3 5 t16) fun t17 => 
 pur Tryz.prog (binS .quo 3 false true v_k (.int .i64 10)) fun t19 => 
 pur Tryz.prog (binS .rem 3 false true t19 (.int .i64 10)) fun t20 => 
 pur Tryz.prog (binS .add 3 true false (.int .i64 48) t20) fun t21 => 
 pur Tryz.prog (convert 3 5 t21) fun t22 => 
 pur Tryz.prog (binS .quo 3 false true v_k (.int .i64 100)) fun t24 => 
 pur Tryz.prog (binS .rem 3 false true t24 (.int .i64 10)) fun t25 => 
 pur Tryz.prog (binS .add 3 true false (.int .i64 48) t25) fun t26 => 
 pur Tryz.prog (convert 3 5 t26) fun t27 => 
 act Tryz.prog (Instr.buildSlice 240 6 #[(0, (.int .u8 109)), (1, t8), (2, t13), (3, t17), (4, t22), (5, t27)]) (fun t28 w_1 => 
 act Tryz.prog (convert 240 9 t28) (fun t29 w_2 => 
 Q t29 w_2) w_1) w
theorem eq262 (v_i v_k : Value) (Q : Value → World → Prop) (w : World) : semF Tryz.prog 262 [v_i, v_k] Q w = S262 v_i v_k Q w := by kernel_rfl
theorem ref262 {v_i v_k : Value} {Q : Value → World → Prop} {w : World} (h : S262 v_i v_k Q w) : callS Tryz.prog 262 #[v_i, v_k] Q w :=
  callS_of mix (fun a w => Tryz.call262 a w) (by kernel_rfl) (by rw [eq262]; exact h)
end Go.Proofs.YtdnbegjamoeahaaGreatL
