/- What ClerkQuits computes: true. Conditions: none. -/
import Derived.Test.YtknklmemadediaaRefJ
set_option linter.unusedSimpArgs false
set_option linter.unusedVariables false
namespace Go.Proofs.Ytknklmemadediaa
open Go.Sh Go.Proofs.Ytknklmemadediaa.Mi
set_option maxRecDepth 100000
def P3_2 (t3 : Value) (t30 : Value) (t4 : Value) (t43 : Value) (v_granted : Value) (v_o : Value) (w_74 : World) (Q : Value → World → Prop) : Prop :=
 pur Try.prog (Builtin.len_ #[33] 3 #[v_o]) fun t109 => 
  pur Try.prog (binS .eql 3 false true t109 (.int .i64 1)) fun t110 => 
  rd Try.prog (Instr.loadAt 25 t4) (fun t112 => 
  act Try.prog (Instr.buildSlice 27 1 #[(0, t112)]) (fun t113 w_75 => 
  callS Try.prog 16 #[t30, t113] (fun t114 w_76 => 
  pur Try.prog (binS .eql 4 false false t110 t114) fun t115 => 
  gd t115 false (fun k_29 w_77 => k_29 v_o w_77) (fun t117_1 w_78 => 
  gd t115 false (fun k_30 w_79 => pur Try.prog (Builtin.len_ #[33] 3 #[t117_1]) fun t118 => k_30 t118 w_79) (fun t118_1 w_80 => 
  gd t115 false (fun k_31 w_81 => pur Try.prog (binS .eql 3 false true t118_1 (.int .i64 1)) fun t119 => k_31 t119 w_81) (fun t119_1 w_82 => 
  gd t115 false (fun k_32 w_83 => k_32 t119_1 w_83) (fun t120_1 w_84 => 
  gd t120_1 true (fun k_33 w_85 => k_33 v_o w_85) (fun t121_1 w_86 => 
  gd t120_1 true (fun k_34 w_87 => pur Try.prog (Instr.indexAt 33 t121_1 (.int .i64 0)) fun t122 => k_34 t122 w_87) (fun t122_1 w_88 => 
  gd t120_1 true (fun k_35 w_89 => pur Try.prog (Instr.fieldAt 39 t122_1 0) fun t123 => k_35 t123 w_89) (fun t123_1 w_90 => 
  gd t120_1 true (fun k_36 w_91 => rd Try.prog (Instr.loadAt 3 t123_1) (fun t124 => k_36 t124 w_91) w_91) (fun t124_1 w_92 => 
  gd t120_1 true (fun k_37 w_93 => pur Try.prog (binS .neq 3 false true t124_1 (.int .i64 5)) fun t125 => k_37 t125 w_93) (fun t125_1 w_94 => 
  gd t120_1 true (fun k_38 w_95 => k_38 t125_1 w_95) (fun t126_1 w_96 => 
  gd t126_1 false (fun k_39 w_97 => k_39 v_o w_97) (fun t127_1 w_98 => 
  gd t126_1 false (fun k_40 w_99 => pur Try.prog (Instr.indexAt 33 t127_1 (.int .i64 0)) fun t128 => k_40 t128 w_99) (fun t128_1 w_100 => 
  gd t126_1 false (fun k_41 w_101 => pur Try.prog (Instr.fieldAt 39 t128_1 1) fun t129 => k_41 t129 w_101) (fun t129_1 w_102 => 
  gd t126_1 false (fun k_42 w_103 => rd Try.prog (Instr.loadAt 3 t129_1) (fun t130 => k_42 t130 w_103) w_103) (fun t130_1 w_104 => 
  gd t126_1 false (fun k_43 w_105 => k_43 t43 w_105) (fun t131_1 w_106 => 
  gd t126_1 false (fun k_44 w_107 => pur Try.prog (Instr.indexAt 33 t131_1 (.int .i64 0)) fun t132 => k_44 t132 w_107) (fun t132_1 w_108 => 
  gd t126_1 false (fun k_45 w_109 => pur Try.prog (Instr.fieldAt 39 t132_1 1) fun t133 => k_45 t133 w_109) (fun t133_1 w_110 => 
  gd t126_1 false (fun k_46 w_111 => rd Try.prog (Instr.loadAt 3 t133_1) (fun t134 => k_46 t134 w_111) w_111) (fun t134_1 w_112 => 
  gd t126_1 false (fun k_47 w_113 => pur Try.prog (binS .add 3 false true t134_1 (.int .i64 1)) fun t135 => k_47 t135 w_113) (fun t135_1 w_114 => 
  gd t126_1 false (fun k_48 w_115 => pur Try.prog (binS .neq 3 false false t130_1 t135_1) fun t136 => k_48 t136 w_115) (fun t136_1 w_116 => 
  gd t120_1 true (fun k_49 w_117 => pur Try.prog (pickS t126_1 (.bool true) t136_1) fun t137 => k_49 t137 w_117) (fun t137_1 w_118 => 
  gd t115 false (fun k_50 w_119 => pur Try.prog (pickS t120_1 t137_1 (.bool false)) fun t138 => k_50 t138 w_119) (fun t138_1 w_120 => 
  pur Try.prog (pickS t115 (.bool true) t138_1) fun t139 => 
  condS t139
   (Q (.bool false) w_120)
   (callS Try.prog 10 #[] (fun t140 w_121 => 
  gd t140 true (fun k_51 w_122 => k_51 t30 w_122) (fun t142_1 w_123 => 
  gd t140 true (fun k_52 w_124 => callS Try.prog 17 #[t142_1] (fun t143 w_125 => k_52 t143 w_125) w_124) (fun t143_1 w_126 => 
  gd t140 true (fun k_53 w_127 => pur Try.prog (binS .eql 37 false true t143_1 (.int .i64 0)) fun t144 => k_53 t144 w_127) (fun t144_1 w_128 => 
  pur Try.prog (pickS t140 t144_1 (.bool false)) fun t145 => 
  gd t145 true (fun k_54 w_129 => k_54 t30 w_129) (fun t147_1 w_130 => 
  gd t145 true (fun k_55 w_131 => rd Try.prog (Instr.loadAt 25 t3) (fun t148 => k_55 t148 w_131) w_131) (fun t148_1 w_132 => 
  gd t145 true (fun k_56 w_133 => act Try.prog (Instr.buildSlice 27 1 #[(0, t148_1)]) (fun t149 w_134 => k_56 t149 w_134) w_133) (fun t149_1 w_135 => 
  gd t145 true (fun k_57 w_136 => callS Try.prog 16 #[t147_1, t149_1] (fun t150 w_137 => k_57 t150 w_137) w_136) (fun t150_1 w_138 => 
  gd t145 true (fun k_58 w_139 => k_58 v_granted w_139) (fun t151_1 w_140 => 
  gd t145 true (fun k_59 w_141 => k_59 t151_1 w_141) (fun t152_1 w_142 => 
  gd t152_1 false (fun k_60 w_143 => rd Try.prog (Instr.loadAt 25 t3) (fun t153 => k_60 t153 w_143) w_143) (fun t153_1 w_144 => 
  gd t152_1 false (fun k_61 w_145 => act Try.prog (Instr.buildSlice 27 1 #[(0, t153_1)]) (fun t154 w_146 => k_61 t154 w_146) w_145) (fun t154_1 w_147 => 
  gd t152_1 false (fun k_62 w_148 => callS Try.prog 18 #[t154_1] (fun t155 w_149 => k_62 t155 w_149) w_148) (fun t155_1 w_150 => 
  gd t152_1 false (fun k_63 w_151 => rd Try.prog (binS .eql 44 false true t155_1 (.slice none 0 0)) (fun t156 => k_63 t156 w_151) w_151) (fun t156_1 w_152 => 
  gd t145 true (fun k_64 w_153 => pur Try.prog (pickS t152_1 (.bool true) t156_1) fun t157 => k_64 t157 w_153) (fun t157_1 w_154 => 
  gd t145 true (fun k_65 w_155 => pur Try.prog (binS .eql 4 false false t150_1 t157_1) fun t158 => k_65 t158 w_155) (fun t158_1 w_156 => 
  pur Try.prog (pickS t145 t158_1 (.bool false)) fun t159 => 
  Q t159 w_156) w_154) w_152) w_150) w_147) w_144) w_142) w_140) w_138) w_135) w_132) w_130) w_128) w_126) w_123) w_121) w_120)) w_118) w_116) w_114) w_112) w_110) w_108) w_106) w_104) w_102) w_100) w_98) w_96) w_94) w_92) w_90) w_88) w_86) w_84) w_82) w_80) w_78) w_76) w_75) (World.drew w_74)) (World.drew w_74)
def P3_1 (t3 : Value) (t4 : Value) (v_granted : Value) (w_16 : World) (Q : Value → World → Prop) : Prop :=
 callS Try.prog 11 #[(.int .i64 1)] (fun t30 w_18 => 
 rd Try.prog (binS .eql 29 false true t30 (.pointer none)) (fun t32 => 
 gd t32 false (fun k_6 w_19 => k_6 t30 w_19) (fun t34_1 w_20 => 
 gd t32 false (fun k_7 w_21 => callS Try.prog 12 #[t34_1, (.int .u64 3), (.int .i64 1)] (fun t35 w_22 => k_7 t35 w_22) w_21) (fun t35_1 w_23 => 
 gd t32 false (fun k_8 w_24 => pur Try.prog (Op.unary .not t35_1) fun t36 => k_8 t36 w_24) (fun t36_1 w_25 => 
 pur Try.prog (pickS t32 (.bool true) t36_1) fun t37 => 
 condS t37
  (Q (.bool false) w_25)
  (rd Try.prog (Instr.loadAt 25 t3) (fun t40 => 
 act Try.prog (Instr.buildSlice 27 1 #[(0, t40)]) (fun t41 w_26 => 
 callS Try.prog 13 #[t30, t41] (fun t42 w_27 => 
 pur Try.prog (Instr.extract t42 0) fun t43 => 
 pur Try.prog (Instr.extract t42 1) fun _ => 
 callS Try.prog 14 #[t30] (fun t46 w_28 => 
 rd Try.prog (Instr.loadAt 25 t4) (fun t49 => 
 act Try.prog (Instr.buildSlice 27 1 #[(0, t49)]) (fun t50 w_29 => 
 callS Try.prog 13 #[t30, t50] (fun t51 w_30 => 
 pur Try.prog (Instr.extract t51 0) fun t52 => 
 pur Try.prog (Instr.extract t51 1) fun _ => 
 pur Try.prog (Builtin.len_ #[33] 3 #[t43]) fun t55 => 
 pur Try.prog (binS .neq 3 false true t55 (.int .i64 1)) fun t56 => 
 gd t56 false (fun k_9 w_31 => k_9 t46 w_31) (fun t58_1 w_32 => 
 gd t56 false (fun k_10 w_33 => pur Try.prog (Builtin.len_ #[33] 3 #[t58_1]) fun t59 => k_10 t59 w_33) (fun t59_1 w_34 => 
 gd t56 false (fun k_11 w_35 => pur Try.prog (binS .neq 3 false true t59_1 (.int .i64 1)) fun t60 => k_11 t60 w_35) (fun t60_1 w_36 => 
 pur Try.prog (pickS t56 (.bool true) t60_1) fun t61 => 
 gd t61 false (fun k_12 w_37 => k_12 t46 w_37) (fun t63_1 w_38 => 
 gd t61 false (fun k_13 w_39 => pur Try.prog (Instr.indexAt 33 t63_1 (.int .i64 0)) fun t64 => k_13 t64 w_39) (fun t64_1 w_40 => 
 gd t61 false (fun k_14 w_41 => pur Try.prog (Instr.fieldAt 39 t64_1 0) fun t65 => k_14 t65 w_41) (fun t65_1 w_42 => 
 gd t61 false (fun k_15 w_43 => rd Try.prog (Instr.loadAt 3 t65_1) (fun t66 => k_15 t66 w_43) w_43) (fun t66_1 w_44 => 
 gd t61 false (fun k_16 w_45 => pur Try.prog (binS .neq 3 false true t66_1 (.int .i64 15)) fun t67 => k_16 t67 w_45) (fun t67_1 w_46 => 
 pur Try.prog (pickS t61 (.bool true) t67_1) fun t68 => 
 gd t68 false (fun k_17 w_47 => k_17 t46 w_47) (fun t70_1 w_48 => 
 gd t68 false (fun k_18 w_49 => pur Try.prog (Instr.indexAt 33 t70_1 (.int .i64 0)) fun t71 => k_18 t71 w_49) (fun t71_1 w_50 => 
 gd t68 false (fun k_19 w_51 => pur Try.prog (Instr.fieldAt 39 t71_1 1) fun t72 => k_19 t72 w_51) (fun t72_1 w_52 => 
 gd t68 false (fun k_20 w_53 => rd Try.prog (Instr.loadAt 3 t72_1) (fun t73 => k_20 t73 w_53) w_53) (fun t73_1 w_54 => 
 gd t68 false (fun k_21 w_55 => k_21 t43 w_55) (fun t74_1 w_56 => 
 gd t68 false (fun k_22 w_57 => pur Try.prog (Instr.indexAt 33 t74_1 (.int .i64 0)) fun t75 => k_22 t75 w_57) (fun t75_1 w_58 => 
 gd t68 false (fun k_23 w_59 => pur Try.prog (Instr.fieldAt 39 t75_1 1) fun t76 => k_23 t76 w_59) (fun t76_1 w_60 => 
 gd t68 false (fun k_24 w_61 => rd Try.prog (Instr.loadAt 3 t76_1) (fun t77 => k_24 t77 w_61) w_61) (fun t77_1 w_62 => 
 gd t68 false (fun k_25 w_63 => pur Try.prog (binS .neq 3 false false t73_1 t77_1) fun t78 => k_25 t78 w_63) (fun t78_1 w_64 => 
 pur Try.prog (pickS t68 (.bool true) t78_1) fun t79 => 
 gd t79 false (fun k_26 w_65 => k_26 t52 w_65) (fun t81_1 w_66 => 
 gd t79 false (fun k_27 w_67 => pur Try.prog (Builtin.len_ #[33] 3 #[t81_1]) fun t82 => k_27 t82 w_67) (fun t82_1 w_68 => 
 gd t79 false (fun k_28 w_69 => pur Try.prog (binS .neq 3 false true t82_1 (.int .i64 0)) fun t83 => k_28 t83 w_69) (fun t83_1 w_70 => 
 pur Try.prog (pickS t79 (.bool true) t83_1) fun t84 => 
 condS t84
  (Q (.bool false) w_70)
  (jn 1 (fun J => 
  condS v_granted
   (∃ S : World → Prop, S (World.drew w_70) ∧ 
   pur Try.prog (Instr.indexAt 33 t43 (.int .i64 0)) fun t89 => 
   pur Try.prog (Instr.fieldAt 39 t89 1) fun t90 => 
   hld Try.prog S (Instr.loadAt 3 t90) fun t91 => 
   hld Try.prog S (Instr.loadAt 25 t3) fun t92 => 
   act Try.prog (Instr.buildSlice 27 1 #[(0, t92)]) (fun t93 w_71 => S w_71 ∧ 
   pur Try.prog (Instr.build 39 #[(0, (.int .i64 6)), (1, t91), (5, (.int .u64 3)), (3, (.int .i64 1)), (7, t93)]) fun t94 => 
   callS Try.prog 15 #[t30, t94] (fun t95 w_72 => S w_72 ∧ 
   pur Try.prog (Instr.extract t95 0) fun t96 => 
   pur Try.prog (Instr.extract t95 1) fun _ => 
   J t96 w_72) w_71) (World.drew w_70))
   (pur Try.prog (Instr.indexAt 33 t43 (.int .i64 0)) fun t101 => 
   pur Try.prog (Instr.fieldAt 39 t101 1) fun t102 => 
   rd Try.prog (Instr.loadAt 3 t102) (fun t103 => 
   pur Try.prog (Instr.build 39 #[(0, (.int .i64 7)), (1, t103), (5, (.int .u64 3)), (3, (.int .i64 1)), (6, (.int .i64 35))]) fun t104 => 
   callS Try.prog 15 #[t30, t104] (fun t105 w_73 => 
   pur Try.prog (Instr.extract t105 0) fun t106 => 
   pur Try.prog (Instr.extract t105 1) fun _ => 
   J t106 w_73) w_70) w_70))
 (fun v_o w_74 => ∀ _j : Fr, 
  P3_2 t3 t30 t4 t43 v_granted v_o w_74 Q))) w_68) w_66) w_64) w_62) w_60) w_58) w_56) w_54) w_52) w_50) w_48) w_46) w_44) w_42) w_40) w_38) w_36) w_34) w_32) (World.drew w_30)) w_29) w_28) w_28) w_27) w_26) w_25) w_25)) w_23) w_20) w_18) w_18) w_16
def P3_0 (v_a v_b v_granted : Value) (Q : Value → World → Prop) (w : World) : Prop :=
 act Try.prog (Instr.box 25 v_a) (fun t3 w_1 => 
 act Try.prog (Instr.box 25 v_b) (fun t4 w_2 => 
 rd Try.prog (Instr.loadAt 25 t3) (fun t14 => 
 rd Try.prog (Instr.loadAt 25 t4) (fun t15 => 
 act Try.prog (Instr.buildSlice 27 2 #[(0, t14), (1, t15)]) (fun t16 w_3 => 
 callS Try.prog 9 #[t16] (fun t17 w_4 => 
 pur Try.prog (Op.unary .not t17) fun t18 => 
 gd t18 false (fun k w_5 => pur Try.prog (Instr.fieldAt 25 t3 1) fun t20 => k t20 w_5) (fun t20_1 w_6 => 
 gd t18 false (fun k_1 w_7 => rd Try.prog (Instr.loadAt 3 t20_1) (fun t21 => k_1 t21 w_7) w_7) (fun t21_1 w_8 => 
 gd t18 false (fun k_2 w_9 => pur Try.prog (binS .eql 3 false true t21_1 (.int .i64 0)) fun t22 => k_2 t22 w_9) (fun t22_1 w_10 => 
 pur Try.prog (pickS t18 (.bool true) t22_1) fun t23 => 
 gd t23 false (fun k_3 w_11 => pur Try.prog (Instr.fieldAt 25 t4 1) fun t25 => k_3 t25 w_11) (fun t25_1 w_12 => 
 gd t23 false (fun k_4 w_13 => rd Try.prog (Instr.loadAt 3 t25_1) (fun t26 => k_4 t26 w_13) w_13) (fun t26_1 w_14 => 
 gd t23 false (fun k_5 w_15 => pur Try.prog (binS .eql 3 false true t26_1 (.int .i64 0)) fun t27 => k_5 t27 w_15) (fun t27_1 w_16 => 
 pur Try.prog (pickS t23 (.bool true) t27_1) fun t28 => 
 condS t28
  (callS Try.prog 10 #[] (fun t29 w_17 => 
  Q t29 w_17) w_16)
  (P3_1 t3 t4 v_granted w_16 Q)) w_14) w_12) w_10) w_8) w_6) w_4) w_3) w_2) w_2) w_2) w_1) w
theorem cut3 (v_a v_b v_granted : Value) (Q : Value → World → Prop) (w : World) : S3 v_a v_b v_granted Q w = P3_0 v_a v_b v_granted Q w := rfl
-- P3_1 t3 t4 v_granted w_16 Q
-- P3_2 t3 t30 t4 t43 v_granted v_o w_74 Q
section
variable {w w' : World} {Q : Value → World → Prop} {B c : Nat} {s : CS}
theorem quits2 {a b md a' b' md' : Int} (hmd : md = 1 ∨ md = 2) (hok : ok (a, b)) {c g3 g4 gm : Nat} {s : CS} {gr : Bool} {o lv : Value} {w7 : World} (h : CL w7 B c s) (hB : B ≤ siz w7) (b3 : blk w7 g3 = some (.cells #[.int .i64 a, .int .i64 b, .int .i64 md] 25)) (b4 : blk w7 g4 = some (.cells #[.int .i64 a', .int .i64 b', .int .i64 md'] 25))
    (bm : blk w7 gm = some (.cells #[.int .i64 5, .int .i64 1, .int .i64 0, .int .i64 1, .int .i64 0, .int .u64 3, .int .i64 0, lv] 39))
    (ed : s.denied = 0) (hA : (∀ x, needF (askF [(a, b, md)] x) (valB s.lh x) = none) ↔ gr = true)
    (ho : (o = .slice none 0 0 ∧ ∀ x, needF (askF [(a', b', md')] x) (valB s.lh x) = none) ∨ ((¬ ∀ x, needF (askF [(a', b', md')] x) (valB s.lh x) = none) ∧ ∃ g k4 k6 k7 lv', o = .slice (some ⟨g, 0, none⟩) 1 1 ∧ blk w7 g = some (.cells #[.int .i64 5, .int .i64 2, .int .i64 0, .int .i64 k4, .int .i64 0, .int .u64 k6, .int .i64 k7, lv'] 39)))
    (hq : ∀ w', KO B cp w7 w' → Q (.bool true) w') :
    P3_2 (.pointer (some ⟨g3, 0, none⟩)) (.pointer (some ⟨c, 0, none⟩)) (.pointer (some ⟨g4, 0, none⟩)) (.slice (some ⟨gm, 0, none⟩) 1 1) (.bool gr) o w7 Q := by
  unfold P3_2
  have hfin : ∀ {o' : Value} {wx : World}, K0 w7 wx → (∀ w'', KO B cp w7 w'' → Q (.bool true) w'') → True := fun _ _ => trivial
  obtain ⟨on, oc, oa, hof⟩ : ∃ n c a, o = .slice a n c := by
    rcases ho with ⟨e, _⟩ | ⟨_, g, _, _, _, _, e, _⟩
    · exact ⟨0, 0, none, e⟩
    · exact ⟨1, 1, _, e⟩
  have kd : K0 w7 w7.drew := (K0.refl w7).drew
  obtain ⟨y0, y1, y2⟩ := lock_cells (blk_drew' b4)
  have k1 : K0 w7 (w7.drew.alloc (.cells #[.int .i64 a', .int .i64 b', .int .i64 md'] 25)) := kd.alloc _
  have hb1 : blk (w7.drew.alloc (.cells #[.int .i64 a', .int .i64 b', .int .i64 md'] 25)) (siz w7) = some (.cells #[.int .i64 a', .int .i64 b', .int .i64 md'] 25) := blk_alloc_new (w := w7.drew)
  have sd : siz w7.drew = siz w7 := rfl
  -- the end: behind the checks of what was told
  have last : ∀ w8, K0 w7 w8 → callS Try.prog 10 #[] (fun t140 w_121 =>
  gd t140 true (fun k_51 w_122 => k_51 (.pointer (some ⟨c, 0, none⟩)) w_122) (fun t142_1 w_123 => 
  gd t140 true (fun k_52 w_124 => callS Try.prog 17 #[t142_1] (fun t143 w_125 => k_52 t143 w_125) w_124) (fun t143_1 w_126 => 
  gd t140 true (fun k_53 w_127 => pur Try.prog (binS .eql 37 false true t143_1 (.int .i64 0)) fun t144 => k_53 t144 w_127) (fun t144_1 w_128 => 
  pur Try.prog (pickS t140 t144_1 (.bool false)) fun t145 => 
  gd t145 true (fun k_54 w_129 => k_54 (.pointer (some ⟨c, 0, none⟩)) w_129) (fun t147_1 w_130 => 
  gd t145 true (fun k_55 w_131 => rd Try.prog (Instr.loadAt 25 (.pointer (some ⟨g3, 0, none⟩))) (fun t148 => k_55 t148 w_131) w_131) (fun t148_1 w_132 => 
  gd t145 true (fun k_56 w_133 => act Try.prog (Instr.buildSlice 27 1 #[(0, t148_1)]) (fun t149 w_134 => k_56 t149 w_134) w_133) (fun t149_1 w_135 => 
  gd t145 true (fun k_57 w_136 => callS Try.prog 16 #[t147_1, t149_1] (fun t150 w_137 => k_57 t150 w_137) w_136) (fun t150_1 w_138 => 
  gd t145 true (fun k_58 w_139 => k_58 (.bool gr) w_139) (fun t151_1 w_140 => 
  gd t145 true (fun k_59 w_141 => k_59 t151_1 w_141) (fun t152_1 w_142 => 
  gd t152_1 false (fun k_60 w_143 => rd Try.prog (Instr.loadAt 25 (.pointer (some ⟨g3, 0, none⟩))) (fun t153 => k_60 t153 w_143) w_143) (fun t153_1 w_144 => 
  gd t152_1 false (fun k_61 w_145 => act Try.prog (Instr.buildSlice 27 1 #[(0, t153_1)]) (fun t154 w_146 => k_61 t154 w_146) w_145) (fun t154_1 w_147 => 
  gd t152_1 false (fun k_62 w_148 => callS Try.prog 18 #[t154_1] (fun t155 w_149 => k_62 t155 w_149) w_148) (fun t155_1 w_150 => 
  gd t152_1 false (fun k_63 w_151 => rd Try.prog (binS .eql 44 false true t155_1 (.slice none 0 0)) (fun t156 => k_63 t156 w_151) w_151) (fun t156_1 w_152 => 
  gd t145 true (fun k_64 w_153 => pur Try.prog (pickS t152_1 (.bool true) t156_1) fun t157 => k_64 t157 w_153) (fun t157_1 w_154 => 
  gd t145 true (fun k_65 w_155 => pur Try.prog (binS .eql 4 false false t150_1 t157_1) fun t158 => k_65 t158 w_155) (fun t158_1 w_156 => 
  pur Try.prog (pickS t145 t158_1 (.bool false)) fun t159 => 
  Q t159 w_156) w_154) w_152) w_150) w_147) w_144) w_142) w_140) w_138) w_135) w_132) w_130) w_128) w_126) w_123) w_121) w8 := fun w8 k8 => by
    refine alive_c fun w9 k9' => ?_
    have k9 := k8.trans k9'.old'
    have h9 := h.keep0 k9
    have b9 := k9.blk b3 id
    simp only [stp, Nat.reduceAdd, Int.reduceLT, Int.reduceLE, Int.reduceEq, Int.reduceNe, ne_eq, bne_self_eq_false, beq_self_eq_true]
    refine cdenied_c h9 fun w10 h10 k10 => ?_
    have b10 := k10.blk b9 rfl
    obtain ⟨x0, x1, x2⟩ := lock_cells b10
    simp only [stp, Nat.reduceAdd, Int.reduceLT, Int.reduceLE, Int.reduceEq, Int.reduceNe, ne_eq, bne_self_eq_false, beq_self_eq_true, stm, ed, x0, x1, x2]
    have k11 : K0 w10 (w10.alloc (.cells #[.int .i64 a, .int .i64 b, .int .i64 md] 25)) := (K0.refl w10).alloc _
    have r11 := rd_lock1 (w := w10) (x := a) (y := b) (z := md)
    generalize w10.alloc (.cells #[.int .i64 a, .int .i64 b, .int .i64 md] 25) = w11 at k11 r11
    refine chas_c (h10.keep0 k11) r11 (by simp) fun w12 r hr k12 => ?_
    have kk12 : KO B cp w7 w12 := (KO.of0 k9).trans (k10.trans (KO.of0 (k11.trans k12)))
    have b12 := k12.blk (k11.blk b10 id) id
    obtain ⟨x0, x1, x2⟩ := lock_cells b12
    have hrg : r = gr := by
      have h1 : r = true ↔ gr = true := hr.trans hA
      cases r <;> cases gr <;> simp_all
    subst hrg
    cases r with
    | true =>
      simp only [stp, Nat.reduceAdd, Int.reduceLT, Int.reduceLE, Int.reduceEq, Int.reduceNe, ne_eq, bne_self_eq_false, beq_self_eq_true, stm]
      exact hq _ kk12
    | false =>
      simp only [stp, Nat.reduceAdd, Int.reduceLT, Int.reduceLE, Int.reduceEq, Int.reduceNe, ne_eq, bne_self_eq_false, beq_self_eq_true, stm, x0, x1, x2]
      have k13 : K0 w12 (w12.alloc (.cells #[.int .i64 a, .int .i64 b, .int .i64 md] 25)) := (K0.refl w12).alloc _
      have r13 := rd_lock1 (w := w12) (x := a) (y := b) (z := md)
      generalize w12.alloc (.cells #[.int .i64 a, .int .i64 b, .int .i64 md] 25) = w13 at k13 r13
      refine rnorm_c r13 (by simp) fun w14 v14 l14 o14 hc14 hv14 hl14 k14 => ?_
      have hne : 0 < l14.length := by
        rcases Nat.eq_zero_or_pos l14.length with h0 | h0
        · have := hv14 a
          rw [List.length_eq_zero_iff.1 h0, ask_one hmd, val1, if_pos ⟨hok, Int.le_refl _, hok.2⟩] at this
          cases this
        · exact h0
      obtain ⟨g14, c14, rfl, _⟩ := Own.at o14 hne
      simp only [stp, Nat.reduceAdd, Int.reduceLT, Int.reduceLE, Int.reduceEq, Int.reduceNe, ne_eq, bne_self_eq_false, beq_self_eq_true, stm]
      exact hq _ (kk12.trans (KO.of0 (k13.trans k14)))
  subst hof
  simp only [stp, Nat.reduceAdd, Int.reduceLT, Int.reduceLE, Int.reduceEq, Int.reduceNe, ne_eq, bne_self_eq_false, beq_self_eq_true, stm, y0, y1, y2]
  try rw [sd]
  generalize w7.drew.alloc (.cells #[.int .i64 a', .int .i64 b', .int .i64 md'] 25) = w8 at k1 hb1
  refine chas_c (h.keep0 k1) (rd_lock1' hb1) (by simp) fun w9 r9 hr9 k9 => ?_
  have k19 := k1.trans k9
  rcases ho with ⟨e, hall⟩ | ⟨hno, g, k4, k6, k7, lv', e, bg⟩
  · injection e with e1 e2 e3
    subst e1 e2 e3
    have : r9 = true := hr9.2 hall
    subst this
    simp only [stp, Nat.reduceAdd, Int.reduceLT, Int.reduceLE, Int.reduceEq, Int.reduceNe, ne_eq, bne_self_eq_false, beq_self_eq_true, stm, cst0]
    exact last _ k19
  · injection e with e1 e2 e3
    subst e1 e2 e3
    have : r9 = false := by cases r9 with | false => rfl | true => exact absurd (hr9.1 rfl) hno
    subst this
    obtain ⟨z0, z1, _⟩ := msg_cells (k19.blk bg id)
    obtain ⟨m0, m1, _⟩ := msg_cells (k19.blk bm id)
    simp only [stp, Nat.reduceAdd, Int.reduceLT, Int.reduceLE, Int.reduceEq, Int.reduceNe, ne_eq, bne_self_eq_false, beq_self_eq_true, stm, cst1]
    rw [ixm]
    simp only [stp, Nat.reduceAdd, Int.reduceLT, Int.reduceLE, Int.reduceEq, Int.reduceNe, ne_eq, bne_self_eq_false, beq_self_eq_true, stm, z0]
    rw [ixm]
    simp only [stp, Nat.reduceAdd, Int.reduceLT, Int.reduceLE, Int.reduceEq, Int.reduceNe, ne_eq, bne_self_eq_false, beq_self_eq_true, stm, z1]
    rw [ixm]
    have w2 : IntKind.i64.wrap ((1 : Int) + 1) = 2 := by decide
    simp only [stp, Nat.reduceAdd, Int.reduceLT, Int.reduceLE, Int.reduceEq, Int.reduceNe, ne_eq, bne_self_eq_false, beq_self_eq_true, stm, m1, w2]
    exact last _ k19
theorem quits1 {a b md a' b' md' : Int} {gr : Bool} (hmd : md = 1 ∨ md = 2) (hok : ok (a, b)) (hb4 : b ≤ 4096) (hmd' : md' = 1 ∨ md' = 2) (hok' : ok (a', b')) (hb4' : b' ≤ 4096) {g3 g4 : Nat} {w2 : World} (b3 : blk w2 g3 = some (.cells #[.int .i64 a, .int .i64 b, .int .i64 md] 25)) (b4 : blk w2 g4 = some (.cells #[.int .i64 a', .int .i64 b', .int .i64 md'] 25))
    (hq : ∀ w', KO (siz w2) cp w2 w' → Q (.bool true) w') :
    P3_1 (.pointer (some ⟨g3, 0, none⟩)) (.pointer (some ⟨g4, 0, none⟩)) (.bool gr) w2 Q := by
  unfold P3_1
  have hdl : ∀ {x y v : Int}, y ≤ 4096 → ∀ k ∈ ([(x, y, v)] : List I3), k.2.1 ≤ 4096 := by intro x y v hy k hk; simp at hk; subst hk; exact hy
  have hcan := canon_one (md := md) hok
  have hcan' := canon_one (md := md') hok'
  have ha := fun x => ask_one (a := a) (b := b) (md := md) hmd x
  have ha' := fun x => ask_one (a := a') (b := b') (md := md') hmd' x
  have hI : hasB (a, b) a := ⟨hok, Int.le_refl _, hok.2⟩
  have hI' : hasB (a', b') a' := ⟨hok', Int.le_refl _, hok'.2⟩
  have hmI : isMd md := by unfold isMd; omega
  have hmI' : isMd md' := by unfold isMd; omega
  refine cnew_c (B := siz w2) (Nat.le_refl _) fun w3 h3 k3 => ?_
  simp only [stp, Nat.reduceAdd, Int.reduceLT, Int.reduceLE, Int.reduceEq, Int.reduceNe, ne_eq, bne_self_eq_false, beq_self_eq_true]
  refine start_c (Nat.le_refl _) (by decide) (fun w4 s h4 k4 e5 e1 eh eu eo ew eid eout eq_ egr ed => ?_) h3 k3
  have p3 := k4.blk b3 rfl
  have p4 := k4.blk b4 rfl
  obtain ⟨x0, x1, x2⟩ := lock_cells p3
  simp only [stp, Nat.reduceAdd, Int.reduceLT, Int.reduceLE, Int.reduceEq, Int.reduceNe, ne_eq, bne_self_eq_false, beq_self_eq_true, stm, x0, x1, x2]
  have k5 : K0 w4 (w4.alloc (.cells #[.int .i64 a, .int .i64 b, .int .i64 md] 25)) := (K0.refl w4).alloc _
  have r5 := rd_lock1 (w := w4) (x := a) (y := b) (z := md)
  generalize w4.alloc (.cells #[.int .i64 a, .int .i64 b, .int .i64 md] 25) = w5 at k5 r5
  have kk5 : KO (siz w2) cp w2 w5 := k4.trans (KO.of0 k5)
  have q3 := k5.blk p3 id
  have q4 := k5.blk p4 id
  have hneed : ¬ ∀ x, needF (askF [(a, b, md)] x) (valB s.lh x) = none := fun h => by
    have := h a
    rw [ha, val1, if_pos hI, eh] at this
    cases this
  refine cwant_c (h4.keep0 k5) kk5.size (by omega) (by rw [e5]; decide) r5 (by simp) (hdl hb4) (fun w6 N hcN hmN hvN hall h6 k6 => absurd hall hneed) (fun w6 N hcN hmN hvN hall ho h6 k6 => by rw [eout] at ho; cases ho) (fun w6 N v lv l' hcN hmN hvN ho hc' hv' hm' hl m6 t6 h6 k6 => ?_)
  generalize hs2 : ({ s with lw := N, id := s.id + 1, out := true, quit := false } : CS) = s2 at h6
  have f5 : s2.epoch = 3 := by rw [← hs2]; exact e5
  have f1 : s2.gen = 1 := by rw [← hs2]; exact e1
  have fh : s2.lh = [] := by rw [← hs2]; exact eh
  have fid : s2.id = 1 := by rw [← hs2]; show s.id + 1 = 1; omega
  have fout : s2.out = true := by rw [← hs2]
  have fqt : s2.quit = false := by rw [← hs2]
  have fgr : s2.grants = 0 := by rw [← hs2]; exact egr
  have fd : s2.denied = 0 := by rw [← hs2]; exact ed
  clear hs2
  obtain ⟨gm, rfl, bm⟩ := m6
  unfold msgC at bm
  rw [eid, e1, e5, show ((0 + 1 : Nat) : Int) = 1 from rfl] at bm
  have kk6 := kk5.trans k6
  simp only [stp, Nat.reduceAdd, Int.reduceLT, Int.reduceLE, Int.reduceEq, Int.reduceNe, ne_eq, bne_self_eq_false, beq_self_eq_true]
  refine cquit_c h6 (fun hor w7 h7 k7 => ?_) (fun ho hqt w7 v7 m7 h7 k7 => ?_)
  · exfalso
    rcases hor with h' | h'
    · rw [fout] at h'; cases h'
    · rw [fqt] at h'; cases h'
  generalize hs3 : ({ s2 with lw := [], quit := true } : CS) = s3 at h7
  have g5 : s3.epoch = 3 := by rw [← hs3]; exact f5
  have g1 : s3.gen = 1 := by rw [← hs3]; exact f1
  have gh : s3.lh = [] := by rw [← hs3]; exact fh
  have gid : s3.id = 1 := by rw [← hs3]; exact fid
  have gout : s3.out = true := by rw [← hs3]; exact fout
  have gqt : s3.quit = true := by rw [← hs3]
  have ggr : s3.grants = 0 := by rw [← hs3]; exact fgr
  have gd_ : s3.denied = 0 := by rw [← hs3]; exact fd
  clear hs3
  obtain ⟨gq, rfl, bq⟩ := m7
  unfold msgC at bq
  rw [fid, show ((1 : Nat) : Int) = 1 from rfl] at bq
  have kk7 := kk6.trans k7
  have bm7 := k7.blk bm rfl
  have q3 := k7.blk (k6.blk q3 rfl) rfl
  have q4 := k7.blk (k6.blk q4 rfl) rfl
  obtain ⟨y0, y1, y2⟩ := lock_cells q4
  simp only [stp, Nat.reduceAdd, Int.reduceLT, Int.reduceLE, Int.reduceEq, Int.reduceNe, ne_eq, bne_self_eq_false, beq_self_eq_true, stm, y0, y1, y2]
  have k8 : K0 w7 (w7.alloc (.cells #[.int .i64 a', .int .i64 b', .int .i64 md'] 25)) := (K0.refl w7).alloc _
  have r8 := rd_lock1 (w := w7) (x := a') (y := b') (z := md')
  generalize w7.alloc (.cells #[.int .i64 a', .int .i64 b', .int .i64 md'] 25) = w8 at k8 r8
  have kk8 := kk7.trans (KO.of0 k8)
  have hneed' : ¬ ∀ x, needF (askF [(a', b', md')] x) (valB s3.lh x) = none := fun h => by
    have := h a'
    rw [ha', val1, if_pos hI', gh] at this
    cases this
  refine cwant_c (h7.keep0 k8) kk8.size (by omega) (by rw [g5]; decide) r8 (by simp) (hdl hb4') (fun w9 N' hcN' hmN' hvN' hall h9 k9 => absurd hall hneed') (fun w9 N' hcN' hmN' hvN' hall ho h9 k9 => ?_) (fun w9 N' v' lv' l'' hcN' hmN' hvN' ho => by rw [gout] at ho; cases ho)
  have hN' : N' = [(((a', b'), md') : Pt Int)] := canon_unique _ _ hcN' hcan' fun x => by rw [hvN', ha']
  subst hN'
  generalize hs4 : ({ s3 with lw := [(((a', b'), md') : Pt Int)] } : CS) = s4 at h9
  have j5 : s4.epoch = 3 := by rw [← hs4]; exact g5
  have j1 : s4.gen = 1 := by rw [← hs4]; exact g1
  have jh : s4.lh = [] := by rw [← hs4]; exact gh
  have jw : s4.lw = [(((a', b'), md') : Pt Int)] := by rw [← hs4]
  have jid : s4.id = 1 := by rw [← hs4]; exact gid
  have jout : s4.out = true := by rw [← hs4]; exact gout
  have jqt : s4.quit = true := by rw [← hs4]; exact gqt
  have jgr : s4.grants = 0 := by rw [← hs4]; exact ggr
  have jd : s4.denied = 0 := by rw [← hs4]; exact gd_
  clear hs4
  have kk9 := kk8.trans k9
  have bm9 := k9.blk (k8.blk bm7 id) rfl
  have bq9 := k9.blk (k8.blk bq id) rfl
  have q3 := k9.blk (k8.blk q3 id) rfl
  have q4 := k9.blk (k8.blk q4 id) rfl
  obtain ⟨z0, z1, _⟩ := msg_cells bq9
  obtain ⟨m0, m1, _⟩ := msg_cells bm9
  simp only [stp, Nat.reduceAdd, Int.reduceLT, Int.reduceLE, Int.reduceEq, Int.reduceNe, ne_eq, bne_self_eq_false, beq_self_eq_true, stm, cst1]
  rw [ixm]
  simp only [stp, Nat.reduceAdd, Int.reduceLT, Int.reduceLE, Int.reduceEq, Int.reduceNe, ne_eq, bne_self_eq_false, beq_self_eq_true, stm, z0]
  rw [ixm]
  simp only [stp, Nat.reduceAdd, Int.reduceLT, Int.reduceLE, Int.reduceEq, Int.reduceNe, ne_eq, bne_self_eq_false, beq_self_eq_true, stm, z1]
  rw [ixm]
  simp only [stp, Nat.reduceAdd, Int.reduceLT, Int.reduceLE, Int.reduceEq, Int.reduceNe, ne_eq, bne_self_eq_false, beq_self_eq_true, stm, m1, cst0]
  have kd9 : K0 w9 w9.drew := (K0.refl w9).drew
  have h9 := h9.keep0 kd9
  have bm9 := kd9.blk bm9 id
  have q3 := kd9.blk q3 id
  have q4 := kd9.blk q4 id
  have kk9 := kk9.trans (KO.of0 kd9)
  have m1 : cel w9.drew gm 1 = some (.int .i64 1) := m1
  clear kd9
  clear bq9 z0 z1
  generalize w9.drew = wd at *
  refine jn1 (fun (o : Value) (w' : World) => ∃ s, CL w' (siz w2) (siz w2) s ∧ s.denied = 0 ∧ ((∀ x, needF (askF [(a, b, md)] x) (valB s.lh x) = none) ↔ gr = true) ∧
    ((o = .slice none 0 0 ∧ ∀ x, needF (askF [(a', b', md')] x) (valB s.lh x) = none) ∨ ((¬ ∀ x, needF (askF [(a', b', md')] x) (valB s.lh x) = none) ∧ ∃ g k4 k6 k7 lv', o = .slice (some ⟨g, 0, none⟩) 1 1 ∧ blk w' g = some (.cells #[.int .i64 5, .int .i64 2, .int .i64 0, .int .i64 k4, .int .i64 0, .int .u64 k6, .int .i64 k7, lv'] 39))) ∧
    blk w' gm = some (.cells #[.int .i64 5, .int .i64 1, .int .i64 0, .int .i64 1, .int .i64 0, .int .u64 3, .int .i64 0, lv] 39) ∧ blk w' g3 = some (.cells #[.int .i64 a, .int .i64 b, .int .i64 md] 25) ∧ blk w' g4 = some (.cells #[.int .i64 a', .int .i64 b', .int .i64 md'] 25) ∧ KO (siz w2) cp w2 w') (fun J hJ => ?_) ?_
  · cases gr with
    | true =>
      simp only [stp, Nat.reduceAdd, Int.reduceLT, Int.reduceLE, Int.reduceEq, Int.reduceNe, ne_eq, bne_self_eq_false, beq_self_eq_true]
      refine ⟨fun w' => blk w' gm = some (.cells #[.int .i64 5, .int .i64 1, .int .i64 0, .int .i64 1, .int .i64 0, .int .u64 3, .int .i64 0, lv] 39) ∧ blk w' g3 = some (.cells #[.int .i64 a, .int .i64 b, .int .i64 md] 25), ⟨bm9, q3⟩, ?_⟩
      rw [ixm]
      simp only [stp, Nat.reduceAdd, Int.reduceLT, Int.reduceLE, Int.reduceEq, Int.reduceNe, ne_eq, bne_self_eq_false, beq_self_eq_true]
      refine hld_int (v := .int .i64 1) (fun w' hS => hS.1) rfl ?_
      refine hld_lock (fun w' hS => hS.2) ?_
      simp only [stp, Nat.reduceAdd, Int.reduceLT, Int.reduceLE, Int.reduceEq, Int.reduceNe, ne_eq, bne_self_eq_false, beq_self_eq_true, stm]
      have k10 : K0 wd (wd.drew.alloc (.cells #[.int .i64 a, .int .i64 b, .int .i64 md] 25)) := (K0.refl wd).drew.alloc _
      have hb10 : blk (wd.drew.alloc (.cells #[.int .i64 a, .int .i64 b, .int .i64 md] 25)) (siz wd) = some (.cells #[.int .i64 a, .int .i64 b, .int .i64 md] 25) := blk_alloc_new (w := wd.drew)
      generalize wd.drew.alloc (.cells #[.int .i64 a, .int .i64 b, .int .i64 md] 25) = w10 at k10 hb10
      have r10 := rd_lock1' hb10
      have h10 := h9.keep0 k10
      have kk10 := kk9.trans (KO.of0 k10)
      refine ⟨⟨k10.blk bm9 id, k10.blk q3 id⟩, ?_⟩
      refine ctake_e h10 j5.symm kk10.size (by rw [j5]; decide) (by rw [j1]; decide) one_slice (.inl ⟨rfl, rfl⟩) fun w11 k11 => ?_
      have h11 := h10.keep0 k11
      have kk11 := kk10.trans (KO.of0 k11)
      have hneA : ∀ lh : List (Pt Int), (∀ x, valB lh x = raiseB (valB s4.lh) (askF [(a, b, md)]) x) → ∀ x, needF (askF [(a, b, md)] x) (valB lh x) = none := fun lh hlh x => by
        rw [hlh, jh]
        unfold raiseB
        rw [ha, val1]
        by_cases hx : hasB (a, b) x
        · simp only [if_pos hx, valB]
          rw [needF_some, if_pos ⟨hmI, hmI, Int.le_refl _⟩]
        · simp only [if_neg hx]; rfl
      refine cgrant_c h11 kk11.size (by omega) (by omega) one_slice (r10.keep0 k11) (fun g hg e => by
        injection hg with hg
        have hg : siz wd = g := hg
        exact lock_ne h11 (k11.blk hb10 id) (hg.trans e)) (by simp) (hdl hb4) (fun hor w12 lh lo hlh hlo h12 k12 => ?_) (fun hout hi w12 lh hlh hnd h12 k12 => ?_) (fun hout hi w12 lh v12 lv12 l12 hlh hc12 hv12 hm12 hl12 m12 t12 h12 k12 => ?_)
      · exfalso
        rcases hor with h' | h'
        · rw [jout] at h'; cases h'
        · exact h' (by rw [jid]; rfl)
      · have kt := (k10.trans k11)
        refine ⟨⟨k12.blk (kt.blk bm9 id) rfl, k12.blk (kt.blk q3 id) rfl⟩, ?_⟩
        simp only [stp, Nat.reduceAdd, Int.reduceLT, Int.reduceLE, Int.reduceEq, Int.reduceNe, ne_eq, bne_self_eq_false, beq_self_eq_true]
        refine hJ _ _ ⟨_, h12, jd, ⟨fun _ => rfl, fun _ => hneA lh hlh⟩, .inl ⟨rfl, fun x => ?_⟩, k12.blk (kt.blk bm9 id) rfl, k12.blk (kt.blk q3 id) rfl, k12.blk (kt.blk q4 id) rfl, kk11.trans k12⟩
        have := hnd x
        rw [jw, ← ha'] at this
        exact this
      · have kt := (k10.trans k11)
        refine ⟨⟨k12.blk (kt.blk bm9 id) rfl, k12.blk (kt.blk q3 id) rfl⟩, ?_⟩
        simp only [stp, Nat.reduceAdd, Int.reduceLT, Int.reduceLE, Int.reduceEq, Int.reduceNe, ne_eq, bne_self_eq_false, beq_self_eq_true]
        obtain ⟨g12, rfl, bg12⟩ := m12
        unfold msgC at bg12
        rw [jid, show ((1 + 1 : Nat) : Int) = 2 from rfl] at bg12
        refine hJ _ _ ⟨_, h12, jd, ⟨fun _ => rfl, fun _ => hneA lh hlh⟩, .inr ⟨fun hall => ?_, g12, _, _, _, _, rfl, bg12⟩, k12.blk (kt.blk bm9 id) rfl, k12.blk (kt.blk q3 id) rfl, k12.blk (kt.blk q4 id) rfl, kk11.trans k12⟩
        have : l12 = [] := canon_unique _ _ hc12 Canon.nil fun x => by
          rw [hv12, jw, ← ha']
          exact hall x
        rw [this] at hl12
        cases hl12
    | false =>
      simp only [stp, Nat.reduceAdd, Int.reduceLT, Int.reduceLE, Int.reduceEq, Int.reduceNe, ne_eq, bne_self_eq_false, beq_self_eq_true]
      rw [ixm]
      simp only [stp, Nat.reduceAdd, Int.reduceLT, Int.reduceLE, Int.reduceEq, Int.reduceNe, ne_eq, bne_self_eq_false, beq_self_eq_true, stm, m1]
      refine ctake_e h9 j5.symm kk9.size (by rw [j5]; decide) (by rw [j1]; decide) one_slice (.inr (.inl ⟨rfl, rfl, jout, by rw [jid]; rfl⟩)) fun w11 k11 => ?_
      have h11 := h9.keep0 k11
      have kk11 := kk9.trans (KO.of0 k11)
      have hnA : ¬ ∀ x, needF (askF [(a, b, md)] x) (valB s4.lh x) = none := fun h => by
        have := h a
        rw [ha, val1, if_pos hI, jh] at this
        cases this
      have hnB : ¬ ∀ x, needF (askF [(a', b', md')] x) (valB s4.lh x) = none := fun h => by
        have := h a'
        rw [ha', val1, if_pos hI', jh] at this
        cases this
      refine cdeny_c h11 kk11.size (by omega) one_slice (fun hqt hall w12 h12 k12 => ?_) (fun hqt w12 v12 lv12 l12 hc12 hv12 hm12 hl12 m12 t12 h12 k12 => ?_) (fun hqt => by rw [jqt] at hqt; cases hqt)
      · exfalso
        exact hnB fun x => by rw [ha', ← jw]; exact hall x
      · simp only [stp, Nat.reduceAdd, Int.reduceLT, Int.reduceLE, Int.reduceEq, Int.reduceNe, ne_eq, bne_self_eq_false, beq_self_eq_true]
        obtain ⟨g12, rfl, bg12⟩ := m12
        unfold msgC at bg12
        rw [jid, show ((1 + 1 : Nat) : Int) = 2 from rfl] at bg12
        exact hJ _ _ ⟨_, h12, jd, ⟨fun h => absurd h hnA, fun h => by cases h⟩, .inr ⟨hnB, g12, _, _, _, _, rfl, bg12⟩, k12.blk (k11.blk bm9 id) rfl, k12.blk (k11.blk q3 id) rfl, k12.blk (k11.blk q4 id) rfl, kk11.trans k12⟩
  · rintro o w10 ⟨s10, h10, hd10, hA10, ho10, bm10, q3', q4', kk10⟩ _j
    exact quits2 hmd hok h10 kk10.size q3' q4' bm10 hd10 hA10 ho10 fun w' k => hq w' (kk10.trans k)
theorem rd_lock2 {x y z x' y' z' : Int} : Rd 3 (w.alloc (.cells #[.int .i64 x, .int .i64 y, .int .i64 z, .int .i64 x', .int .i64 y', .int .i64 z'] 25)) (.slice (some ⟨siz w, 0, none⟩) 2 2) ([(x, y, z), (x', y', z')] : List I3).length (flat enc3 ([(x, y, z), (x', y', z')] : List I3)) :=
  ⟨rfl, .inr ⟨siz w, 0, 2, rfl, Nat.le_refl _, fun j hj => by rw [Nat.zero_add, cel_alloc_new, List.getElem?_toArray]; rfl⟩⟩
theorem quits_law {l l' : I3} {gr : Bool} (_ : good3 l) (_ : good3 l') (hq : ∀ w', Keep (fun b => siz w ≤ b) w w' → Q (.bool true) w') :
    callS Try.prog 3 #[.agg (enc3 l).toArray, .agg (enc3 l').toArray, .bool gr] Q w := by
  refine ref3 ?_
  rw [cut3]
  unfold P3_0
  obtain ⟨a, b, md⟩ := l
  obtain ⟨a', b', md'⟩ := l'
  simp only [enc3]
  simp only [stp, Nat.reduceAdd, Int.reduceLT, Int.reduceLE, Int.reduceEq, Int.reduceNe, ne_eq, bne_self_eq_false, beq_self_eq_true]
  have ka : K0 w (w.alloc (.cells #[.int .i64 a, .int .i64 b, .int .i64 md] 25)) := (K0.refl w).alloc _
  have ba : blk (w.alloc (.cells #[.int .i64 a, .int .i64 b, .int .i64 md] 25)) (siz w) = some (.cells #[.int .i64 a, .int .i64 b, .int .i64 md] 25) := blk_alloc_new
  generalize w.alloc (.cells #[.int .i64 a, .int .i64 b, .int .i64 md] 25) = w0 at ka ba
  have kb : K0 w0 (w0.alloc (.cells #[.int .i64 a', .int .i64 b', .int .i64 md'] 25)) := (K0.refl w0).alloc _
  have bb : blk (w0.alloc (.cells #[.int .i64 a', .int .i64 b', .int .i64 md'] 25)) (siz w0) = some (.cells #[.int .i64 a', .int .i64 b', .int .i64 md'] 25) := blk_alloc_new
  generalize w0.alloc (.cells #[.int .i64 a', .int .i64 b', .int .i64 md'] 25) = w1 at kb bb
  have ba := kb.blk ba id
  obtain ⟨x0, x1, x2⟩ := lock_cells ba
  obtain ⟨y0, y1, y2⟩ := lock_cells bb
  simp only [stp, Nat.reduceAdd, Int.reduceLT, Int.reduceLE, Int.reduceEq, Int.reduceNe, ne_eq, bne_self_eq_false, beq_self_eq_true, stm, x0, x1, x2, y0, y1, y2]
  have k2 : K0 w1 (w1.alloc (.cells #[.int .i64 a, .int .i64 b, .int .i64 md, .int .i64 a', .int .i64 b', .int .i64 md'] 25)) := (K0.refl w1).alloc _
  have r2 := rd_lock2 (w := w1) (x := a) (y := b) (z := md) (x' := a') (y' := b') (z' := md')
  generalize w1.alloc (.cells #[.int .i64 a, .int .i64 b, .int .i64 md, .int .i64 a', .int .i64 b', .int .i64 md'] 25) = w2 at k2 r2
  refine may_c r2 (by simp) fun w3 k3 => ?_
  have k03 := (ka.trans kb).trans (k2.trans k3)
  have ba := (k2.trans k3).blk ba id
  have bb := (k2.trans k3).blk bb id
  obtain ⟨x0, x1, x2⟩ := lock_cells ba
  obtain ⟨y0, y1, y2⟩ := lock_cells bb
  have off : callS Try.prog 10 #[] (fun t w' => Q t w') w3 := alive_c fun w' k => hq _ (k03.new.trans' k fun b hb e => Nat.le_trans k03.size e)
  by_cases hm : ∀ k ∈ ([(a, b, md), (a', b', md')] : List I3), mayL k
  case neg =>
    simp only [stp, Nat.reduceAdd, Int.reduceLT, Int.reduceLE, Int.reduceEq, Int.reduceNe, ne_eq, bne_self_eq_false, beq_self_eq_true, hm]
    exact off
  obtain ⟨hok, hb4, hmd⟩ := hm (a, b, md) (by simp)
  obtain ⟨hok', hb4', hmd'⟩ := hm (a', b', md') (by simp)
  simp only at hok hb4 hmd hok' hb4' hmd'
  have hmt : decide (∀ k ∈ ([(a, b, md), (a', b', md')] : List I3), mayL k) = true := decide_eq_true hm
  simp only [stp, Nat.reduceAdd, Int.reduceLT, Int.reduceLE, Int.reduceEq, Int.reduceNe, ne_eq, bne_self_eq_false, beq_self_eq_true, stm, hmt, x2]
  by_cases h0 : md = 0
  · simp only [stp, Nat.reduceAdd, Int.reduceLT, Int.reduceLE, Int.reduceEq, Int.reduceNe, ne_eq, bne_self_eq_false, beq_self_eq_true, stm, h0]
    exact off
  by_cases h1 : md' = 0
  · simp only [stp, Nat.reduceAdd, Int.reduceLT, Int.reduceLE, Int.reduceEq, Int.reduceNe, ne_eq, bne_self_eq_false, beq_self_eq_true, stm, h0, y2, h1]
    exact off
  simp only [stp, Nat.reduceAdd, Int.reduceLT, Int.reduceLE, Int.reduceEq, Int.reduceNe, ne_eq, bne_self_eq_false, beq_self_eq_true, stm, h0, y2, h1]
  exact quits1 (by unfold isMd at hmd; omega) hok hb4 (by unfold isMd at hmd'; omega) hok' hb4' ba bb fun w' k => hq _ (k03.new.trans' (k.below (Nat.le_refl _)) fun b hb e => Nat.le_trans k03.size e)
end
end Go.Proofs.Ytknklmemadediaa
