/- CacheOrder: what is dirty is told by its numbers; a block that is changed again keeps its least one. Conditions: as it says. -/
import Derived.Test.YtjfookddoaemfaaCacRoom
set_option linter.unusedSimpArgs false
set_option linter.unusedVariables false
namespace Go.Proofs.Ytjfookddoaemfaa
open Go.Sh Go.Sh.Lrv Go.Proofs.Ytjfookddoaemfaa.Lv
set_option maxRecDepth 100000
def P5_2 (t14 : Value) (t52 : Value) (w_9 : World) (Q : Value → World → Prop) : Prop :=
 callS Try.prog 7 #[] (fun t146 w_102 => 
 gd t146 true (fun k_44 w_103 => k_44 t14 w_103) (fun t148_1 w_104 => 
 gd t146 true (fun k_45 w_105 => callS Try.prog 17 #[t148_1] (fun t149 w_106 => k_45 t149 w_106) w_105) (fun t149_1 w_107 => 
 gd t146 true (fun k_46 w_108 => pur Try.prog (binS .eql 28 false true t149_1 (.int .u64 0)) fun t150 => k_46 t150 w_108) (fun t150_1 w_109 => 
 pur Try.prog (pickS t146 t150_1 (.bool false)) fun t151 => 
 gd t151 true (fun k_47 w_110 => k_47 t14 w_110) (fun t153_1 w_111 => 
 gd t151 true (fun k_48 w_112 => callS Try.prog 15 #[t153_1, (.slice none 0 0)] (fun t154 w_113 => k_48 t154 w_113) w_112) (fun t154_1 w_114 => 
 gd t151 true (fun k_49 w_115 => pur Try.prog (Builtin.len_ #[35] 3 #[t154_1]) fun t155 => k_49 t155 w_115) (fun t155_1 w_116 => 
 gd t151 true (fun k_50 w_117 => pur Try.prog (binS .eql 3 false true t155_1 (.int .i64 0)) fun t156 => k_50 t156 w_117) (fun t156_1 w_118 => 
 pur Try.prog (pickS t151 t156_1 (.bool false)) fun t157 => 
 gd t157 true (fun k_51 w_119 => k_51 t14 w_119) (fun t159_1 w_120 => 
 gd t157 true (fun k_52 w_121 => callS Try.prog 14 #[t159_1] (fun t160 w_122 => k_52 t160 w_122) w_121) (fun t160_1 w_123 => 
 gd t157 true (fun k_53 w_124 => k_53 t52 w_124) (fun t161_1 w_125 => 
 gd t157 true (fun k_54 w_126 => pur Try.prog (Builtin.len_ #[35] 3 #[t161_1]) fun t162 => k_54 t162 w_126) (fun t162_1 w_127 => 
 gd t157 true (fun k_55 w_128 => pur Try.prog (binS .eql 3 false false t160_1 t162_1) fun t163 => k_55 t163 w_128) (fun t163_1 w_129 => 
 pur Try.prog (pickS t157 t163_1 (.bool false)) fun t164 => 
 gd t164 true (fun k_56 w_130 => k_56 t14 w_130) (fun t166_1 w_131 => 
 gd t164 true (fun k_57 w_132 => pur Try.prog (Instr.build 41 #[(1, (.int .i64 16))]) fun t167 => k_57 t167 w_132) (fun t167_1 w_133 => 
 gd t164 true (fun k_58 w_134 => callS Try.prog 16 #[t166_1, t167_1] (fun t168 w_135 => k_58 t168 w_135) w_134) (fun t168_1 w_136 => 
 gd t164 true (fun k_59 w_137 => k_59 t52 w_137) (fun t169_1 w_138 => 
 gd t164 true (fun k_60 w_139 => pur Try.prog (Builtin.len_ #[35] 3 #[t169_1]) fun t170 => k_60 t170 w_139) (fun t170_1 w_140 => 
 gd t164 true (fun k_61 w_141 => pur Try.prog (binS .eql 3 false false t168_1 t170_1) fun t171 => k_61 t171 w_141) (fun t171_1 w_142 => 
 pur Try.prog (pickS t164 t171_1 (.bool false)) fun t172 => 
 Q t172 w_142) w_140) w_138) w_136) w_133) w_131) w_129) w_127) w_125) w_123) w_120) w_118) w_116) w_114) w_111) w_109) w_107) w_104) w_102) w_9
def P5_1 (t14 : Value) (t17 : Value) (w_4 : World) (Q : Value → World → Prop) : Prop :=
 callS Try.prog 15 #[t14, (.slice none 0 0)] (fun t52 w_8 => 
 lp 2 (fun J_2 => fun v_last v_i_1 w_9 => ∀ _j : Fr, 
  pur Try.prog (Builtin.len_ #[35] 3 #[t52]) fun t55 => 
  pur Try.prog (binS .lss 3 false false v_i_1 t55) fun t56 => 
  condS t56
   (∃ S : World → Prop, S (World.drew w_9) ∧ 
  pur Try.prog (Instr.indexAt 35 t52 v_i_1) fun t61 => 
  pur Try.prog (Instr.fieldAt 49 t61 2) fun t62 => 
  hld Try.prog S (Instr.loadAt 28 t62) fun t63 => 
  pur Try.prog (Instr.indexAt 35 t52 v_i_1) fun t67 => 
  pur Try.prog (Instr.fieldAt 49 t67 0) fun t68 => 
  pur Try.prog (Instr.fieldAt 30 t68 0) fun t69 => 
  hld Try.prog S (Instr.loadAt 3 t69) fun t70 => 
  pur Try.prog (Instr.indexAt 47 t17 t70) fun t71 => 
  hld Try.prog S (Instr.loadAt 28 t71) fun t72 => 
  pur Try.prog (binS .neq 28 false false t63 t72) fun t73 => 
  gd t73 false (fun k w_10 => k t52 w_10) (fun t75_1 w_11 => 
  gd t73 false (fun k_1 w_12 => k_1 v_i_1 w_12) (fun t76_1 w_13 => 
  gd t73 false (fun k_2 w_14 => pur Try.prog (Instr.indexAt 35 t75_1 t76_1) fun t77 => k_2 t77 w_14) (fun t77_1 w_15 => 
  gd t73 false (fun k_3 w_16 => pur Try.prog (Instr.fieldAt 49 t77_1 2) fun t78 => k_3 t78 w_16) (fun t78_1 w_17 => 
  gd t73 false (fun k_4 w_18 => hld Try.prog S (Instr.loadAt 28 t78_1) fun t79 => k_4 t79 w_18) (fun t79_1 w_19 => 
  gd t73 false (fun k_5 w_20 => k_5 v_last w_20) (fun t80_1 w_21 => 
  gd t73 false (fun k_6 w_22 => pur Try.prog (binS .leq 28 false false t79_1 t80_1) fun t81 => k_6 t81 w_22) (fun t81_1 w_23 => 
  pur Try.prog (pickS t73 (.bool true) t81_1) fun t82 => 
  gd t82 false (fun k_7 w_24 => k_7 t14 w_24) (fun t84_1 w_25 => 
  gd t82 false (fun k_8 w_26 => callS Try.prog 17 #[t84_1] (fun t85 w_27 => S w_27 ∧ k_8 t85 w_27) w_26) (fun t85_1 w_28 => 
  gd t82 false (fun k_9 w_29 => k_9 t52 w_29) (fun t86_1 w_30 => 
  gd t82 false (fun k_10 w_31 => k_10 v_i_1 w_31) (fun t87_1 w_32 => 
  gd t82 false (fun k_11 w_33 => pur Try.prog (Instr.indexAt 35 t86_1 t87_1) fun t88 => k_11 t88 w_33) (fun t88_1 w_34 => 
  gd t82 false (fun k_12 w_35 => pur Try.prog (Instr.fieldAt 49 t88_1 2) fun t89 => k_12 t89 w_35) (fun t89_1 w_36 => 
  gd t82 false (fun k_13 w_37 => hld Try.prog S (Instr.loadAt 28 t89_1) fun t90 => k_13 t90 w_37) (fun t90_1 w_38 => 
  gd t82 false (fun k_14 w_39 => pur Try.prog (binS .neq 28 false false t85_1 t90_1) fun t91 => k_14 t91 w_39) (fun t91_1 w_40 => 
  pur Try.prog (pickS t82 (.bool true) t91_1) fun t92 => 
  condS t92
   (Q (.bool false) w_40)
   (pur Try.prog (Instr.indexAt 35 t52 v_i_1) fun t95 => 
  pur Try.prog (Instr.fieldAt 49 t95 2) fun t96 => 
  rd Try.prog (Instr.loadAt 28 t96) (fun t97 => 
  pur Try.prog (Instr.indexAt 35 t52 v_i_1) fun t101 => 
  pur Try.prog (Instr.fieldAt 49 t101 0) fun t102 => 
  pur Try.prog (Instr.fieldAt 30 t102 0) fun t103 => 
  rd Try.prog (Instr.loadAt 3 t103) (fun t104 => 
  pur Try.prog (Instr.indexAt 35 t52 v_i_1) fun t107 => 
  pur Try.prog (Instr.fieldAt 49 t107 0) fun t108 => 
  pur Try.prog (Instr.fieldAt 30 t108 1) fun t109 => 
  rd Try.prog (Instr.loadAt 28 t109) (fun t110 => 
  pur Try.prog (binS .add 28 false true t110 (.int .u64 1)) fun t111 => 
  callS Try.prog 12 #[t14, t104, t111] (fun t112 w_41 => 
  gd t112 false (fun k_15 w_42 => k_15 t14 w_42) (fun t114_1 w_43 => 
  gd t112 false (fun k_16 w_44 => k_16 t52 w_44) (fun t115_1 w_45 => 
  gd t112 false (fun k_17 w_46 => k_17 v_i_1 w_46) (fun t116_1 w_47 => 
  gd t112 false (fun k_18 w_48 => pur Try.prog (Instr.indexAt 35 t115_1 t116_1) fun t117 => k_18 t117 w_48) (fun t117_1 w_49 => 
  gd t112 false (fun k_19 w_50 => pur Try.prog (Instr.fieldAt 49 t117_1 0) fun t118 => k_19 t118 w_50) (fun t118_1 w_51 => 
  gd t112 false (fun k_20 w_52 => pur Try.prog (Instr.fieldAt 30 t118_1 0) fun t119 => k_20 t119 w_52) (fun t119_1 w_53 => 
  gd t112 false (fun k_21 w_54 => rd Try.prog (Instr.loadAt 3 t119_1) (fun t120 => k_21 t120 w_54) w_54) (fun t120_1 w_55 => 
  gd t112 false (fun k_22 w_56 => k_22 t52 w_56) (fun t121_1 w_57 => 
  gd t112 false (fun k_23 w_58 => k_23 v_i_1 w_58) (fun t122_1 w_59 => 
  gd t112 false (fun k_24 w_60 => pur Try.prog (Instr.indexAt 35 t121_1 t122_1) fun t123 => k_24 t123 w_60) (fun t123_1 w_61 => 
  gd t112 false (fun k_25 w_62 => pur Try.prog (Instr.fieldAt 49 t123_1 0) fun t124 => k_25 t124 w_62) (fun t124_1 w_63 => 
  gd t112 false (fun k_26 w_64 => pur Try.prog (Instr.fieldAt 30 t124_1 1) fun t125 => k_26 t125 w_64) (fun t125_1 w_65 => 
  gd t112 false (fun k_27 w_66 => rd Try.prog (Instr.loadAt 28 t125_1) (fun t126 => k_27 t126 w_66) w_66) (fun t126_1 w_67 => 
  gd t112 false (fun k_28 w_68 => callS Try.prog 12 #[t114_1, t120_1, t126_1] (fun t127 w_69 => k_28 t127 w_69) w_68) (fun t127_1 w_70 => 
  gd t112 false (fun k_29 w_71 => pur Try.prog (Op.unary .not t127_1) fun t128 => k_29 t128 w_71) (fun t128_1 w_72 => 
  pur Try.prog (pickS t112 (.bool true) t128_1) fun t129 => 
  gd t129 false (fun k_30 w_73 => k_30 t14 w_73) (fun t131_1 w_74 => 
  gd t129 false (fun k_31 w_75 => k_31 t52 w_75) (fun t132_1 w_76 => 
  gd t129 false (fun k_32 w_77 => k_32 v_i_1 w_77) (fun t133_1 w_78 => 
  gd t129 false (fun k_33 w_79 => pur Try.prog (Instr.indexAt 35 t132_1 t133_1) fun t134 => k_33 t134 w_79) (fun t134_1 w_80 => 
  gd t129 false (fun k_34 w_81 => pur Try.prog (Instr.fieldAt 49 t134_1 0) fun t135 => k_34 t135 w_81) (fun t135_1 w_82 => 
  gd t129 false (fun k_35 w_83 => pur Try.prog (Instr.fieldAt 30 t135_1 0) fun t136 => k_35 t136 w_83) (fun t136_1 w_84 => 
  gd t129 false (fun k_36 w_85 => rd Try.prog (Instr.loadAt 3 t136_1) (fun t137 => k_36 t137 w_85) w_85) (fun t137_1 w_86 => 
  gd t129 false (fun k_37 w_87 => k_37 t52 w_87) (fun t138_1 w_88 => 
  gd t129 false (fun k_38 w_89 => k_38 v_i_1 w_89) (fun t139_1 w_90 => 
  gd t129 false (fun k_39 w_91 => pur Try.prog (Instr.indexAt 35 t138_1 t139_1) fun t140 => k_39 t140 w_91) (fun t140_1 w_92 => 
  gd t129 false (fun k_40 w_93 => pur Try.prog (Instr.fieldAt 49 t140_1 0) fun t141 => k_40 t141 w_93) (fun t141_1 w_94 => 
  gd t129 false (fun k_41 w_95 => pur Try.prog (Instr.fieldAt 30 t141_1 1) fun t142 => k_41 t142 w_95) (fun t142_1 w_96 => 
  gd t129 false (fun k_42 w_97 => rd Try.prog (Instr.loadAt 28 t142_1) (fun t143 => k_42 t143 w_97) w_97) (fun t143_1 w_98 => 
  gd t129 false (fun k_43 w_99 => callS Try.prog 12 #[t131_1, t137_1, t143_1] (fun t144 w_100 => k_43 t144 w_100) w_99) (fun t144_1 w_101 => 
  pur Try.prog (pickS t129 (.bool true) t144_1) fun t145 => 
  condS t145
   (Q (.bool false) w_101)
   (pur Try.prog (binS .add 3 false true v_i_1 (.int .i64 1)) fun t58 => 
  J_2 t97 t58 w_101)) w_98) w_96) w_94) w_92) w_90) w_88) w_86) w_84) w_82) w_80) w_78) w_76) w_74) w_72) w_70) w_67) w_65) w_63) w_61) w_59) w_57) w_55) w_53) w_51) w_49) w_47) w_45) w_43) w_41) (World.drew w_40)) (World.drew w_40)) (World.drew w_40)) w_40)) w_38) w_36) w_34) w_32) w_30) w_28) w_25) w_23) w_21) w_19) w_17) w_15) w_13) w_11) (World.drew w_9))
   (P5_2 t14 t52 w_9 Q)) [(.int .u64 0), (.int .i64 0)] w_8) w_4
def P5_0 (v_l : Value) (Q : Value → World → Prop) (w : World) : Prop :=
 pur Try.prog (Builtin.len_ #[46] 3 #[v_l]) fun t11 => 
 pur Try.prog (binS .gtr 3 false true t11 (.int .i64 60)) fun t12 => 
 condS t12
  (callS Try.prog 7 #[] (fun t13 w_1 => 
  Q t13 w_1) w)
  (callS Try.prog 8 #[(.int .i64 100)] (fun t14 w_2 => 
 rd Try.prog (binS .eql 23 false true t14 (.pointer none)) (fun t16 => 
 condS t16
  (Q (.bool false) w_2)
  (act Try.prog (Instr.makeSlice 47 (.int .i64 16) (.int .i64 16)) (fun t17 w_3 => 
 lp 1 (fun J => fun v_i w_4 => ∀ _j : Fr, 
  pur Try.prog (Builtin.len_ #[46] 3 #[v_l]) fun t20 => 
  pur Try.prog (binS .lss 3 false false v_i t20) fun t21 => 
  condS t21
   (jn 0 (fun J_1 => 
   pur Try.prog (Instr.indexAt 46 v_l v_i) fun t26 => 
   rd Try.prog (Instr.loadAt 3 t26) (fun t27 => 
   pur Try.prog (binS .and 3 false true t27 (.int .i64 15)) fun t28 => 
   pur Try.prog (binS .add 3 false true v_i (.int .i64 1)) fun t32 => 
   pur Try.prog (convert 3 28 t32) fun t33 => 
   pur Try.prog (Instr.build 30 #[(0, t28), (1, t33)]) fun t34 => 
   pur Try.prog (binS .add 3 false true v_i (.int .i64 1)) fun t36 => 
   pur Try.prog (convert 3 28 t36) fun t37 => 
   callS Try.prog 10 #[t14, t34, t37] (fun t38 w_5 => 
   pur Try.prog (binS .neq 26 false true t38 (.int .i64 0)) fun t39 => 
   condS t39
    (Q (.bool false) w_5)
    (pur Try.prog (Instr.indexAt 47 t17 t28) fun t42 => 
   rd Try.prog (Instr.loadAt 28 t42) (fun t43 => 
   pur Try.prog (binS .eql 28 false true t43 (.int .u64 0)) fun t44 => 
   condS t44
    (pur Try.prog (binS .add 3 false true v_i (.int .i64 1)) fun t48 => 
    pur Try.prog (convert 3 28 t48) fun t49 => 
    pur Try.prog (Instr.indexAt 47 t17 t28) fun t50 => 
    act Try.prog (thenU (Instr.storeAt 28 t50 t49)) (fun _ w_6 => 
    J_1  w_6) w_5)
    (J_1  w_5)) w_5)) w_4) w_4)
  (fun  w_7 => ∀ _j : Fr, 
   pur Try.prog (binS .add 3 false true v_i (.int .i64 1)) fun t23 => 
   J t23 w_7))
   (P5_1 t14 t17 w_4 Q)) [(.int .i64 0)] w_3) w_2)) w_2) w)
theorem cut5 (v_l : Value) (Q : Value → World → Prop) (w : World) : S5 v_l Q w = P5_0 v_l Q w := rfl
-- P5_1 t14 t17 w_4 Q
-- P5_2 t14 t52 w_9 Q
def andI (a b : Int) : Int := IntKind.i64.wrap (BitVec.ofInt 64 a &&& BitVec.ofInt 64 b).toNat
theorem pur_andI {P : Program} {tt : TypeId} {x y : Bool} {a b : Int} {k : Value → Prop} : pur P (binS .and tt x y (.int .i64 a) (.int .i64 b)) k = k (.int .i64 (andI a b)) := pur_eq fun w => by
  simp [binS, eqG_int, binOp, Op.intBits]
  rfl
theorem andI_le (a : Int) (n : Nat) (hn : n < 4611686018427387904) : 0 ≤ andI a n ∧ andI a n ≤ n := by
  unfold andI
  have h1 : (BitVec.ofInt 64 a &&& BitVec.ofInt 64 n).toNat ≤ n := by
    rw [BitVec.toNat_and]
    refine Nat.le_trans Nat.and_le_right ?_
    rw [BitVec.toNat_ofInt]
    omega
  generalize (BitVec.ofInt 64 a &&& BitVec.ofInt 64 n).toNat = r at *
  rw [wrap_id (by omega) (by omega)]
  omega
theorem nd_len : ∀ (n : Nat) (l : List Int), l.Nodup → (∀ x ∈ l, 0 ≤ x ∧ x < (n : Int)) → l.length ≤ n
  | 0, l, _, h => by
    cases l with
    | nil => exact Nat.le_refl _
    | cons x l => have := h x (List.mem_cons_self ..); omega
  | n + 1, l, hn, h => by
    by_cases hm : (n : Int) ∈ l
    · have h1 := nd_len n (l.erase (n : Int)) (hn.erase _) fun x hx => by
        have h2 := (hn.mem_erase_iff).1 hx
        have h3 := h x h2.2
        have h4 : x ≠ (n : Int) := h2.1
        omega
      rw [List.length_erase_of_mem hm] at h1
      omega
    · have h1 := nd_len n l hn fun x hx => by
        have h3 := h x hx
        have h4 : x ≠ (n : Int) := fun e => hm (e ▸ hx)
        omega
      omega
abbrev fO (fs : List Int) (j : Nat) : Int := fs.getD j 0
/-- What holds behind i changes: the entries, and the numbers under which the blocks were first changed. -/
structure OI (i : Nat) (es : List En) (fs : List Int) : Prop where
  len : fs.length = 16
  bd : ∀ e ∈ es, ∃ j : Nat, j < 16 ∧ e.1 = (j : Int) ∧ fO fs j = e.2.2.2.2 ∧ e.2.2.2.1 = true ∧ 1 ≤ e.2.2.2.2 ∧ 0 ≤ e.2.1 ∧ e.2.1 ≤ i
  ex : ∀ j, j < 16 → fO fs j ≠ 0 → ∃ e ∈ es, e.1 = (j : Int)
  inj : ∀ j k, j < 16 → k < 16 → fO fs j = fO fs k → fO fs j ≠ 0 → j = k
  le : ∀ j, j < 16 → 0 ≤ fO fs j ∧ fO fs j ≤ i
  cnt : es.length ≤ i
theorem fO_set {fs : List Int} {j k : Nat} {a : Int} (hl : fs.length = 16) (hj : j < 16) : fO (fs.set j a) k = if k = j then a else fO fs k := by
  unfold fO
  simp only [List.getD_eq_getElem?_getD, List.getElem?_set]
  by_cases h : j = k
  · subst h; simp [hl, hj]
  · rw [if_neg h, if_neg (Ne.symm h)]
theorem OI.old {i j : Nat} {es r es' : List En} {fs : List Int} {x : En} (h : OI i es fs) (hj : j < 16) (hp : es.Perm (x :: r)) (hx : x.1 = (j : Int)) (hp' : es'.Perm (((j : Int), ((i + 1 : Nat) : Int), nostr, true, x.2.2.2.2) :: r)) : OI (i + 1) es' fs where
  len := h.len
  bd := fun e he => by
    rcases List.mem_cons.1 (hp'.mem_iff.1 he) with rfl | he
    · obtain ⟨j', hj', h1, h2, _, h4, _⟩ := h.bd x (hp.mem_iff.2 (List.mem_cons_self ..))
      have : j' = j := by omega
      subst this
      exact ⟨j', hj', rfl, h2, rfl, h4, by show (0 : Int) ≤ ((i + 1 : Nat) : Int); omega, by show ((i + 1 : Nat) : Int) ≤ _; omega⟩
    · obtain ⟨j', hj', h1, h2, h3, h4, h5, h6⟩ := h.bd e (hp.mem_iff.2 (List.mem_cons_of_mem _ he))
      exact ⟨j', hj', h1, h2, h3, h4, h5, by omega⟩
  ex := fun k hk hne => by
    obtain ⟨e, he, h1⟩ := h.ex k hk hne
    rcases List.mem_cons.1 (hp.mem_iff.1 he) with rfl | he
    · exact ⟨_, hp'.mem_iff.2 (List.mem_cons_self ..), by show (j : Int) = _; omega⟩
    · exact ⟨e, hp'.mem_iff.2 (List.mem_cons_of_mem _ he), h1⟩
  inj := h.inj
  le := fun k hk => by have := h.le k hk; omega
  cnt := by
    have h1 := hp.length_eq
    have h2 := hp'.length_eq
    rw [List.length_cons] at h1 h2
    have := h.cnt
    omega
theorem OI.new {i j : Nat} {es : List En} {fs : List Int} (h : OI i es fs) (hj : j < 16) (hm : ∀ x ∈ es, x.1 ≠ (j : Int)) : fO fs j = 0 ∧ OI (i + 1) (((j : Int), ((i + 1 : Nat) : Int), nostr, true, ((i + 1 : Nat) : Int)) :: es) (fs.set j ((i + 1 : Nat) : Int)) := by
  have h0 : fO fs j = 0 := Classical.byContradiction fun hne => by
    obtain ⟨e, he, h1⟩ := h.ex j hj hne
    exact hm e he h1
  refine ⟨h0, ⟨by rw [List.length_set]; exact h.len, fun e he => ?_, fun k hk hne => ?_, fun k l hk hl he hne => ?_, fun k hk => ?_, ?_⟩⟩
  · rcases List.mem_cons.1 he with rfl | he
    · exact ⟨j, hj, rfl, by rw [fO_set h.len hj, if_pos rfl], rfl, by show (1 : Int) ≤ ((i + 1 : Nat) : Int); omega, by show (0 : Int) ≤ ((i + 1 : Nat) : Int); omega, by show ((i + 1 : Nat) : Int) ≤ _; omega⟩
    · obtain ⟨j', hj', h1, h2, h3, h4, h5, h6⟩ := h.bd e he
      have hne : j' ≠ j := fun e' => hm e he (by rw [h1, e'])
      exact ⟨j', hj', h1, by rw [fO_set h.len hj, if_neg hne]; exact h2, h3, h4, h5, by omega⟩
  · rw [fO_set h.len hj] at hne
    by_cases hkj : k = j
    · subst hkj
      exact ⟨_, List.mem_cons_self .., rfl⟩
    · rw [if_neg hkj] at hne
      obtain ⟨e, he, h1⟩ := h.ex k hk hne
      exact ⟨e, List.mem_cons_of_mem _ he, h1⟩
  · rw [fO_set h.len hj, fO_set h.len hj] at he
    rw [fO_set h.len hj] at hne
    have lk := h.le k hk
    have ll := h.le l hl
    by_cases hkj : k = j <;> by_cases hlj : l = j
    · omega
    · rw [if_pos hkj, if_neg hlj] at he; omega
    · rw [if_neg hkj, if_pos hlj] at he; omega
    · rw [if_neg hkj, if_neg hlj] at he
      rw [if_neg hkj] at hne
      exact h.inj k l hk hl he hne
  · rw [fO_set h.len hj]
    have := h.le k hk
    split <;> omega
  · rw [List.length_cons]; have := h.cnt; omega
theorem OI.zero : OI 0 [] (List.replicate 16 0) where
  len := by simp
  bd := fun e he => by cases he
  ex := fun j hj hne => absurd (by unfold fO; rw [List.getD_eq_getElem?_getD, List.getElem?_replicate]; simp [hj]) hne
  inj := fun j k hj hk _ hne => absurd (by unfold fO; rw [List.getD_eq_getElem?_getD, List.getElem?_replicate]; simp [hj]) hne
  le := fun j hj => by
    have : fO (List.replicate 16 0) j = 0 := by unfold fO; rw [List.getD_eq_getElem?_getD, List.getElem?_replicate]; simp [hj]
    rw [this]; omega
  cnt := Nat.le_refl _
theorem OI.dirty {i : Nat} {es : List En} {fs : List Int} (h : OI i es fs) : dirtyL es = es := List.filter_eq_self.2 fun x hx => by
  obtain ⟨_, _, _, _, h3, _⟩ := h.bd x hx; exact h3
theorem OI.few {i : Nat} {es : List En} {fs : List Int} (h : OI i es fs) (hn : (es.map (·.1)).Nodup) : es.length ≤ 16 := by
  have := nd_len 16 (es.map (·.1)) hn fun x hx => by
    obtain ⟨e, he, rfl⟩ := List.mem_map.1 hx
    obtain ⟨j, hj, h1, _⟩ := h.bd e he
    omega
  rwa [List.length_map] at this
theorem OI.perm {i : Nat} {es es' : List En} {fs : List Int} (h : OI i es fs) (p : es'.Perm es) : OI i es' fs where
  len := h.len
  bd := fun e he => h.bd e (p.mem_iff.1 he)
  ex := fun j hj hne => by obtain ⟨e, he, h1⟩ := h.ex j hj hne; exact ⟨e, p.mem_iff.2 he, h1⟩
  inj := h.inj
  le := h.le
  cnt := by rw [p.length_eq]; exact h.cnt
/-- The numbers rise. -/
theorem OI.rise {i : Nat} {d : List En} {fs : List Int} (h : OI i d fs) (hn : (d.map (·.1)).Nodup) (hs : SrtD d 0 d.length) {p q : Nat} (hp : p < q) (hq : q < d.length) : d[p].2.2.2.2 < d[q].2.2.2.2 := by
  have h1 := hs p q (Nat.zero_le _) hp hq
  rw [ky_get (by omega), ky_get hq] at h1
  have h2 : d[p].2.2.2.2 ≠ d[q].2.2.2.2 := fun e => by
    obtain ⟨j, hj, b1, f1, _, g1, _⟩ := h.bd d[p] (List.getElem_mem _)
    obtain ⟨j', hj', b2, f2, _, _, _⟩ := h.bd d[q] (List.getElem_mem _)
    have := h.inj j j' hj hj' (by omega) (by omega)
    subst this
    have h3 := List.pairwise_iff_getElem.1 hn p q (by rw [List.length_map]; omega) (by rw [List.length_map]; omega) hp
    rw [List.getElem_map, List.getElem_map] at h3
    exact h3 (by rw [b1, b2])
  omega
def clE (e : En) : En := (e.1, e.2.1, e.2.2.1, false, 0)
theorem dirty_half {d : List En} {k : Nat} (h : ∀ e ∈ d, e.2.2.2.1 = true) : dirtyL ((d.take k).map clE ++ d.drop k) = d.drop k := by
  unfold dirtyL
  rw [List.filter_append, List.filter_eq_nil_iff.2 (fun x hx => by obtain ⟨e, _, rfl⟩ := List.mem_map.1 hx; simp [clE]), List.nil_append]
  exact List.filter_eq_self.2 fun x hx => h x (List.mem_of_mem_drop hx)
section
variable {w w' : World} {Q : Value → World → Prop}
theorem hldu {S : World → Prop} {t o : Nat} {v : Value} {k : Value → Prop} (h : ∀ w', S w' → cel w' t o = some v) (hk : k v) : hld Try.prog S (Instr.loadAt 28 (.pointer (some ⟨t, o, none⟩))) k :=
  hld_of _ (fun w' hw => rl_28 (h w' hw)) hk
end
end Go.Proofs.Ytjfookddoaemfaa
