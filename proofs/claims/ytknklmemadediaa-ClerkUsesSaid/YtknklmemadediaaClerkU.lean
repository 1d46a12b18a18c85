/- What ClerkUses computes: true. Conditions: none. -/
import Derived.Test.YtknklmemadediaaClerkL
set_option linter.unusedSimpArgs false
set_option linter.unusedVariables false
namespace Go.Proofs.Ytknklmemadediaa
open Go.Sh Go.Proofs.Ytknklmemadediaa.Mi
set_option maxRecDepth 100000
def P7_4 (t2 : Value) (t36 : Value) (t66 : Value) (t76 : Value) (t86 : Value) (t90 : Value) (v_keep : Value) (w_45 : World) (Q : Value → World → Prop) : Prop :=
 callS Try.prog 21 #[t36] (fun _ w_46 => 
 callS Try.prog 19 #[t36] (fun t94 w_47 => 
 callS Try.prog 22 #[t36, t94] (fun t98 w_48 => 
 pur Try.prog (Instr.extract t98 0) fun t99 => 
 pur Try.prog (Instr.extract t98 1) fun t100 => 
 act Try.prog (Instr.alloc 39 true (.tuple #[])) (fun t14 w_49 => 
 act Try.prog (thenU (Instr.storeAt 39 t14 t99)) (fun _ w_50 => 
 callS Try.prog 10 #[] (fun t101 w_51 => 
 gd t101 true (fun k_12 w_52 => k_12 t66 w_52) (fun t103_1 w_53 => 
 pur Try.prog (pickS t101 t103_1 (.bool false)) fun t104 => 
 gd t104 true (fun k_13 w_54 => k_13 t76 w_54) (fun t106_1 w_55 => 
 gd t104 true (fun k_14 w_56 => pur Try.prog (Builtin.len_ #[27] 3 #[t106_1]) fun t107 => k_14 t107 w_56) (fun t107_1 w_57 => 
 gd t104 true (fun k_15 w_58 => pur Try.prog (binS .eql 3 false true t107_1 (.int .i64 0)) fun t108 => k_15 t108 w_58) (fun t108_1 w_59 => 
 pur Try.prog (pickS t104 t108_1 (.bool false)) fun t109 => 
 gd t109 true (fun k_16 w_60 => k_16 t86 w_60) (fun t111_1 w_61 => 
 gd t109 true (fun k_17 w_62 => pur Try.prog (Op.unary .not t111_1) fun t112 => k_17 t112 w_62) (fun t112_1 w_63 => 
 pur Try.prog (pickS t109 t112_1 (.bool false)) fun t113 => 
 gd t113 true (fun k_18 w_64 => k_18 t90 w_64) (fun t115_1 w_65 => 
 pur Try.prog (pickS t113 t115_1 (.bool false)) fun t116 => 
 gd t116 true (fun k_19 w_66 => k_19 t94 w_66) (fun t118_1 w_67 => 
 gd t116 true (fun k_20 w_68 => pur Try.prog (Builtin.len_ #[27] 3 #[t118_1]) fun t119 => k_20 t119 w_68) (fun t119_1 w_69 => 
 gd t116 true (fun k_21 w_70 => pur Try.prog (binS .eql 3 false true t119_1 (.int .i64 1)) fun t120 => k_21 t120 w_70) (fun t120_1 w_71 => 
 pur Try.prog (pickS t116 t120_1 (.bool false)) fun t121 => 
 gd t121 true (fun k_22 w_72 => k_22 t94 w_72) (fun t123_1 w_73 => 
 gd t121 true (fun k_23 w_74 => pur Try.prog (Instr.indexAt 27 t123_1 (.int .i64 0)) fun t124 => k_23 t124 w_74) (fun t124_1 w_75 => 
 gd t121 true (fun k_24 w_76 => rd Try.prog (Instr.loadAt 25 t124_1) (fun t125 => k_24 t125 w_76) w_76) (fun t125_1 w_77 => 
 gd t121 true (fun k_25 w_78 => pur Try.prog (Instr.fieldAt 25 t2 0) fun t126 => k_25 t126 w_78) (fun t126_1 w_79 => 
 gd t121 true (fun k_26 w_80 => rd Try.prog (Instr.loadAt 23 t126_1) (fun t127 => k_26 t127 w_80) w_80) (fun t127_1 w_81 => 
 gd t121 true (fun k_27 w_82 => k_27 v_keep w_82) (fun t128_1 w_83 => 
 gd t121 true (fun k_28 w_84 => pur Try.prog (Instr.build 25 #[(0, t127_1), (1, t128_1)]) fun t129 => k_28 t129 w_84) (fun t129_1 w_85 => 
 gd t121 true (fun k_29 w_86 => rd Try.prog (binS .eql 25 false false t125_1 t129_1) (fun t130 => k_29 t130 w_86) w_86) (fun t130_1 w_87 => 
 pur Try.prog (pickS t121 t130_1 (.bool false)) fun t131 => 
 gd t131 true (fun k_30 w_88 => k_30 t100 w_88) (fun t133_1 w_89 => 
 pur Try.prog (pickS t131 t133_1 (.bool false)) fun t134 => 
 gd t134 true (fun k_31 w_90 => pur Try.prog (Instr.fieldAt 39 t14 4) fun t136 => k_31 t136 w_90) (fun t136_1 w_91 => 
 gd t134 true (fun k_32 w_92 => rd Try.prog (Instr.loadAt 3 t136_1) (fun t137 => k_32 t137 w_92) w_92) (fun t137_1 w_93 => 
 gd t134 true (fun k_33 w_94 => pur Try.prog (binS .eql 3 false true t137_1 (.int .i64 1)) fun t138 => k_33 t138 w_94) (fun t138_1 w_95 => 
 pur Try.prog (pickS t134 t138_1 (.bool false)) fun t139 => 
 gd t139 true (fun k_34 w_96 => pur Try.prog (Instr.fieldAt 39 t14 7) fun t141 => k_34 t141 w_96) (fun t141_1 w_97 => 
 gd t139 true (fun k_35 w_98 => rd Try.prog (Instr.loadAt 27 t141_1) (fun t142 => k_35 t142 w_98) w_98) (fun t142_1 w_99 => 
 gd t139 true (fun k_36 w_100 => pur Try.prog (Builtin.len_ #[27] 3 #[t142_1]) fun t143 => k_36 t143 w_100) (fun t143_1 w_101 => 
 gd t139 true (fun k_37 w_102 => pur Try.prog (binS .eql 3 false true t143_1 (.int .i64 1)) fun t144 => k_37 t144 w_102) (fun t144_1 w_103 => 
 pur Try.prog (pickS t139 t144_1 (.bool false)) fun t145 => 
 gd t145 true (fun k_38 w_104 => k_38 t36 w_104) (fun t147_1 w_105 => 
 gd t145 true (fun k_39 w_106 => rd Try.prog (Instr.loadAt 25 t2) (fun t148 => k_39 t148 w_106) w_106) (fun t148_1 w_107 => 
 gd t145 true (fun k_40 w_108 => act Try.prog (Instr.buildSlice 27 1 #[(0, t148_1)]) (fun t149 w_109 => k_40 t149 w_109) w_108) (fun t149_1 w_110 => 
 gd t145 true (fun k_41 w_111 => callS Try.prog 16 #[t147_1, t149_1] (fun t150 w_112 => k_41 t150 w_112) w_111) (fun t150_1 w_113 => 
 gd t145 true (fun k_42 w_114 => pur Try.prog (Op.unary .not t150_1) fun t151 => k_42 t151 w_114) (fun t151_1 w_115 => 
 pur Try.prog (pickS t145 t151_1 (.bool false)) fun t152 => 
 Q t152 w_115) w_113) w_110) w_107) w_105) w_103) w_101) w_99) w_97) w_95) w_93) w_91) w_89) w_87) w_85) w_83) w_81) w_79) w_77) w_75) w_73) w_71) w_69) w_67) w_65) w_63) w_61) w_59) w_57) w_55) w_53) w_51) (World.drew w_50)) w_49) w_48) w_47) w_46) w_45
def P7_3 (t2 : Value) (t36 : Value) (t66 : Value) (t76 : Value) (v_keep : Value) (w_39 : World) (Q : Value → World → Prop) : Prop :=
 pur Try.prog (Instr.fieldAt 25 t2 0) fun t79 => 
 rd Try.prog (Instr.loadAt 23 t79) (fun t80 => 
 pur Try.prog (Instr.build 25 #[(0, t80), (1, v_keep)]) fun t82 => 
 act Try.prog (Instr.buildSlice 27 1 #[(0, t82)]) (fun t83 w_40 => 
 callS Try.prog 22 #[t36, t83] (fun t84 w_41 => 
 pur Try.prog (Instr.extract t84 0) fun t85 => 
 pur Try.prog (Instr.extract t84 1) fun t86 => 
 act Try.prog (Instr.alloc 39 true (.tuple #[])) (fun t10 w_42 => 
 act Try.prog (thenU (Instr.storeAt 39 t10 t85)) (fun _ w_43 => 
 rd Try.prog (Instr.loadAt 25 t2) (fun t88 => 
 act Try.prog (Instr.buildSlice 27 1 #[(0, t88)]) (fun t89 w_44 => 
 callS Try.prog 16 #[t36, t89] (fun t90 w_45 => 
 P7_4 t2 t36 t66 t76 t86 t90 v_keep w_45 Q) w_44) w_43) w_43) w_42) w_41) w_40) w_39) w_39
def P7_2 (t2 : Value) (t36 : Value) (v_keep : Value) (w_34 : World) (Q : Value → World → Prop) : Prop :=
 rd Try.prog (Instr.loadAt 25 t2) (fun t64 => 
 act Try.prog (Instr.buildSlice 27 1 #[(0, t64)]) (fun t65 w_35 => 
 callS Try.prog 25 #[t36, t65] (fun t66 w_36 => 
 pur Try.prog (Instr.fieldAt 25 t2 0) fun t68 => 
 rd Try.prog (Instr.loadAt 23 t68) (fun t69 => 
 pur Try.prog (Instr.build 25 #[(0, t69), (1, v_keep)]) fun t71 => 
 act Try.prog (Instr.buildSlice 27 1 #[(0, t71)]) (fun t72 w_37 => 
 pur Try.prog (Instr.build 39 #[(0, (.int .i64 8)), (5, (.int .u64 3)), (3, (.int .i64 1)), (7, t72)]) fun t73 => 
 callS Try.prog 15 #[t36, t73] (fun _ w_38 => 
 callS Try.prog 19 #[t36] (fun t76 w_39 => 
 P7_3 t2 t36 t66 t76 v_keep w_39 Q) w_38) w_37) w_36) w_36) w_35) w_34) w_34
def P7_1 (t2 : Value) (v_keep : Value) (w_21 : World) (Q : Value → World → Prop) : Prop :=
 callS Try.prog 11 #[(.int .i64 1)] (fun t36 w_23 => 
 rd Try.prog (binS .eql 29 false true t36 (.pointer none)) (fun t38 => 
 gd t38 false (fun k_9 w_24 => k_9 t36 w_24) (fun t40_1 w_25 => 
 gd t38 false (fun k_10 w_26 => callS Try.prog 12 #[t40_1, (.int .u64 3), (.int .i64 1)] (fun t41 w_27 => k_10 t41 w_27) w_26) (fun t41_1 w_28 => 
 gd t38 false (fun k_11 w_29 => pur Try.prog (Op.unary .not t41_1) fun t42 => k_11 t42 w_29) (fun t42_1 w_30 => 
 pur Try.prog (pickS t38 (.bool true) t42_1) fun t43 => 
 condS t43
  (Q (.bool false) w_30)
  (rd Try.prog (Instr.loadAt 25 t2) (fun t46 => 
 act Try.prog (Instr.buildSlice 27 1 #[(0, t46)]) (fun t47 w_31 => 
 callS Try.prog 13 #[t36, t47] (fun t48 w_32 => 
 pur Try.prog (Instr.extract t48 0) fun t49 => 
 pur Try.prog (Instr.extract t48 1) fun _ => 
 pur Try.prog (Builtin.len_ #[33] 3 #[t49]) fun t52 => 
 pur Try.prog (binS .neq 3 false true t52 (.int .i64 1)) fun t53 => 
 condS t53
  (Q (.bool false) w_32)
  (∃ S : World → Prop, S (World.drew w_32) ∧ 
 pur Try.prog (Instr.indexAt 33 t49 (.int .i64 0)) fun t56 => 
 pur Try.prog (Instr.fieldAt 39 t56 1) fun t57 => 
 hld Try.prog S (Instr.loadAt 3 t57) fun t58 => 
 hld Try.prog S (Instr.loadAt 25 t2) fun t59 => 
 act Try.prog (Instr.buildSlice 27 1 #[(0, t59)]) (fun t60 w_33 => S w_33 ∧ 
 pur Try.prog (Instr.build 39 #[(0, (.int .i64 6)), (1, t58), (5, (.int .u64 3)), (3, (.int .i64 1)), (7, t60)]) fun t61 => 
 callS Try.prog 15 #[t36, t61] (fun _ w_34 => S w_34 ∧ 
 P7_2 t2 t36 v_keep w_34 Q) w_33) (World.drew w_32))) w_31) w_30) w_30)) w_28) w_25) w_23) w_23) w_21
def P7_0 (v_l v_keep : Value) (Q : Value → World → Prop) (w : World) : Prop :=
 act Try.prog (Instr.box 25 v_l) (fun t2 w_1 => 
 rd Try.prog (Instr.loadAt 25 t2) (fun t16 => 
 act Try.prog (Instr.buildSlice 27 1 #[(0, t16)]) (fun t17 w_2 => 
 callS Try.prog 9 #[t17] (fun t18 w_3 => 
 pur Try.prog (Op.unary .not t18) fun t19 => 
 gd t19 false (fun k w_4 => pur Try.prog (Instr.fieldAt 25 t2 1) fun t21 => k t21 w_4) (fun t21_1 w_5 => 
 gd t19 false (fun k_1 w_6 => rd Try.prog (Instr.loadAt 3 t21_1) (fun t22 => k_1 t22 w_6) w_6) (fun t22_1 w_7 => 
 gd t19 false (fun k_2 w_8 => pur Try.prog (binS .eql 3 false true t22_1 (.int .i64 0)) fun t23 => k_2 t23 w_8) (fun t23_1 w_9 => 
 pur Try.prog (pickS t19 (.bool true) t23_1) fun t24 => 
 gd t24 false (fun k_3 w_10 => k_3 v_keep w_10) (fun t26_1 w_11 => 
 gd t24 false (fun k_4 w_12 => pur Try.prog (binS .lss 3 false true t26_1 (.int .i64 0)) fun t27 => k_4 t27 w_12) (fun t27_1 w_13 => 
 pur Try.prog (pickS t24 (.bool true) t27_1) fun t28 => 
 gd t28 false (fun k_5 w_14 => k_5 v_keep w_14) (fun t30_1 w_15 => 
 gd t28 false (fun k_6 w_16 => pur Try.prog (Instr.fieldAt 25 t2 1) fun t31 => k_6 t31 w_16) (fun t31_1 w_17 => 
 gd t28 false (fun k_7 w_18 => rd Try.prog (Instr.loadAt 3 t31_1) (fun t32 => k_7 t32 w_18) w_18) (fun t32_1 w_19 => 
 gd t28 false (fun k_8 w_20 => pur Try.prog (binS .geq 3 false false t30_1 t32_1) fun t33 => k_8 t33 w_20) (fun t33_1 w_21 => 
 pur Try.prog (pickS t28 (.bool true) t33_1) fun t34 => 
 condS t34
  (callS Try.prog 10 #[] (fun t35 w_22 => 
  Q t35 w_22) w_21)
  (P7_1 t2 v_keep w_21 Q)) w_19) w_17) w_15) w_13) w_11) w_9) w_7) w_5) w_3) w_2) w_1) w_1) w
theorem cut7 (v_l v_keep : Value) (Q : Value → World → Prop) (w : World) : S7 v_l v_keep Q w = P7_0 v_l v_keep Q w := rfl
-- P7_1 t2 v_keep w_21 Q
-- P7_2 t2 t36 v_keep w_34 Q
-- P7_3 t2 t36 t66 t76 v_keep w_39 Q
-- P7_4 t2 t36 t66 t76 t86 t90 v_keep w_45 Q
section
variable {w w' : World} {Q : Value → World → Prop} {B c : Nat} {s : CS}
theorem val1 {a b v x : Int} : valB [(((a, b), v) : Pt Int)] x = if hasB (a, b) x then some v else none := by
  by_cases h : hasB (a, b) x <;> simp [valB, h]
theorem CL.canonH (h : CL w B c s) : Canon s.lh := by obtain ⟨_, _, _, _, h⟩ := h; exact h.h.canon
theorem CL.canonU (h : CL w B c s) : Canon s.lu := by obtain ⟨_, _, _, _, h⟩ := h; exact h.u.canon
theorem CL.canonO (h : CL w B c s) : Canon s.lo := by obtain ⟨_, _, _, _, h⟩ := h; exact h.o.canon
theorem CL.bdH (h : CL w B c s) : Bd 4096 s.lh := by obtain ⟨_, _, _, _, h⟩ := h; exact h.dh
theorem CL.ty (h : CL w B c s) : ∃ cs, blk w c = some (.cells cs 65) := by obtain ⟨_, _, _, _, h⟩ := h; exact ⟨_, h.b⟩
theorem lock_ne {g : Nat} {x y z : Value} (h : CL w B c s) (hb : blk w g = some (.cells #[x, y, z] 25)) : ¬ g = c := by
  obtain ⟨cs, hc⟩ := h.ty
  exact ne_of_ty hb hc (by decide)
/-- A new clerk of an epoch. -/
theorem start_c {e : Int} {k : Value → World → Prop} (hB : B ≤ siz w) (he : 0 < e)
    (hk : ∀ w' s, CL w' B (siz w) s → KO B cp w w' → s.epoch = e → s.gen = 1 → s.lh = [] → s.lu = [] → s.lo = [] → s.lw = [] → s.id = 0 → s.out = false → s.quit = false → s.grants = 0 → s.denied = 0 → k (.bool true) w') {w1 : World} (h1 : CL w1 B (siz w) (CS.fresh 1)) (k1 : K0 w w1) :
    callS Try.prog 12 #[.pointer (some ⟨siz w, 0, none⟩), .int .u64 e, .int .i64 1] k w1 :=
  cjoin_c h1 (Nat.le_trans hB k1.size) he (by decide) fun w2 h2 k2 => hk w2 _ h2 ((KO.of0 k1).trans k2) rfl rfl rfl rfl rfl rfl rfl rfl rfl rfl rfl
theorem chg1 {a b md keep : Int} {lh : List (Pt Int)} (hok : ok (a, b)) (hb4 : b ≤ 4096) (hmd : isMd md) (hmd12 : md = 1 ∨ md = 2) (hkeep : keep < md) (hk2 : isMd keep) (mh' : lh = [(((a, b), md) : Pt Int)]) (V : BF) (x : Int) : (chgF V (valB lh) [(a, b, keep)]).2 x = if hasB (a, b) x ∧ usesOver V keep x = false then some keep else none := by
  show (if gives V (valB lh) (a, b, keep) x = true then some keep else none) = _
  unfold gives
  rw [mh', val1, decide_eq_true (show 0 ≤ keep ∧ keep ≤ 2 from hk2)]
  by_cases hx : hasB (a, b) x
  · rw [if_pos hx, decide_eq_true hx]
    cases hu : usesOver V keep x <;> simp [hkeep, hx]
  · rw [if_neg hx, decide_eq_false hx]
    simp [hx]
theorem uses4 {a b md keep : Int} (hok : ok (a, b)) (hb4 : b ≤ 4096) (hmd : isMd md) (hmd12 : md = 1 ∨ md = 2) (hkeep : keep < md) (hk2 : isMd keep) {c g0 : Nat} {s5 : CS} {p15 : Option Addr} {c15 : Nat} {w20 : World} (h20 : CL w20 B c s5) (hB : B ≤ siz w20) (b20 : blk w20 g0 = some (.cells #[.int .i64 a, .int .i64 b, .int .i64 md] 25)) (mh' : s5.lh = [(((a, b), md) : Pt Int)]) (mo' : s5.lo = [(((a, b), keep) : Pt Int)]) (mgr : s5.grants = 1)
    (hq : ∀ w', KO B cp w20 w' → Q (.bool true) w') :
    P7_4 (.pointer (some ⟨g0, 0, none⟩)) (.pointer (some ⟨c, 0, none⟩)) (.bool true) (.slice p15 0 c15) (.bool false) (.bool true) (.int .i64 keep) w20 Q := by
  unfold P7_4
  have hcan : ∀ v : Int, Canon [(((a, b), v) : Pt Int)] := fun v => canon_one hok
  have ha := fun x => ask_one (a := a) (b := b) (md := md) hmd12 x
  have hinA : hasB (a, b) a := ⟨hok, Int.le_refl _, hok.2⟩
  have hdl : ∀ {v : Int}, ∀ k ∈ ([(a, b, v)] : List I3), k.2.1 ≤ 4096 := by intro v k hk; simp at hk; subst hk; exact hb4
  have hchg := fun V x => chg1 hok hb4 hmd hmd12 hkeep hk2 mh' V x
  try simp only [stp, Nat.reduceAdd, Int.reduceLT, Int.reduceLE, Int.reduceEq, Int.reduceNe, ne_eq, bne_self_eq_false, beq_self_eq_true]
  refine cunuse_c h20 hB fun w21 h21 k21 => ?_
  generalize hs6 : ({ s5 with lu := [], lw := [] } : CS) = s6 at h21
  have nh' : s6.lh = [(((a, b), md) : Pt Int)] := by rw [← hs6]; exact mh'
  have nu' : s6.lu = [] := by rw [← hs6]
  have no' : s6.lo = [(((a, b), keep) : Pt Int)] := by rw [← hs6]; exact mo'
  have nw' : s6.lw = [] := by rw [← hs6]
  have ngr : s6.grants = 1 := by rw [← hs6]; exact mgr
  clear hs6
  have kk21 := k21
  have b21 := k21.blk b20 rfl
  have hV6 : ∀ e x, raiseB (valB s6.lu) (cutB e (valB s6.lw)) x = none := fun e x => by
    rw [nu', nw']
    unfold raiseB cutB
    by_cases he : x < e
    · simp only [if_pos he]; rfl
    · simp only [if_neg he]; rfl
  try simp only [stp, Nat.reduceAdd, Int.reduceLT, Int.reduceLE, Int.reduceEq, Int.reduceNe, ne_eq, bne_self_eq_false, beq_self_eq_true]
  refine cowed_c h21 fun w22 v22 e22 l22 hc22 hd22 hv22 o22 k22 => ?_
  have hl22 : l22 = [(((a, b), keep) : Pt Int)] := canon_unique _ _ hc22 (hcan keep) fun x => by
    rw [hv22]
    unfold owedB
    rw [no', nh', val1, val1, hV6]
    by_cases hx : hasB (a, b) x
    · simp only [if_pos hx, if_pos hkeep]
    · simp only [if_neg hx]
  subst hl22
  have h22 := h21.keep0 k22
  have b22 := k22.blk b21 id
  have kk22 := kk21.trans (KO.of0 (B := B) (p := cp) k22)
  have o22 : Own w22 (siz w21) 25 3 v22 1 (flat enc3 [(a, b, keep)]) := o22
  try simp only [stp, Nat.reduceAdd, Int.reduceLT, Int.reduceLE, Int.reduceEq, Int.reduceNe, ne_eq, bne_self_eq_false, beq_self_eq_true]
  refine cgive_c (L := [(a, b, keep)]) h22 (Nat.le_trans hB kk22.size) o22.rd (by simp) hdl (fun w23 e23 hn23 h23 k23 => ?_) (fun w23 e23 l23 lv23 lh23 lo23 hc23 hd23 hv23 hl23 hlh23 hlo23 t23 h23 k23 => ?_)
  · exfalso
    have := hn23 a
    have hg : (chgF (raiseB (valB s6.lu) (cutB e23 (valB s6.lw))) (valB s6.lh) [(a, b, keep)]).2 a = some keep := by
      rw [nh', ← mh', hchg, if_pos ⟨hinA, by unfold usesOver; rw [hV6]⟩]
    rw [hg] at this
    cases this
  have hl23' : l23 = [(((a, b), keep) : Pt Int)] := canon_unique _ _ hc23 (hcan keep) fun x => by
    rw [hv23, nh', ← mh', hchg, val1]
    by_cases hx : hasB (a, b) x
    · rw [if_pos ⟨hx, by unfold usesOver; rw [hV6]⟩, if_pos hx]
    · rw [if_neg fun hh => hx hh.1, if_neg hx]
  subst hl23'
  rw [ngr]
  unfold msgC
  obtain ⟨p22, c22, rfl⟩ := o22.form
  have h23' : (Value.slice p22 1 c22) = .slice p22 1 c22 := rfl
  obtain ⟨p23, c23, rfl⟩ := t23.1.form
  simp only [stp, Nat.reduceAdd, Int.reduceLT, Int.reduceLE, Int.reduceEq, Int.reduceNe, ne_eq, bne_self_eq_false, beq_self_eq_true, stm]
  have k24 := (K0.refl w23).alloc (.cells #[.int .i64 9, .int .i64 0, .int .i64 0, .int .i64 s6.gen, .int .i64 ((1 : Nat) : Int), .int .u64 s6.epoch, .int .i64 0, .slice p23 (List.take 200 [(((a, b), keep) : Pt Int)]).length c23] 39)
  have e24 : blk (w23.alloc (.cells #[.int .i64 9, .int .i64 0, .int .i64 0, .int .i64 s6.gen, .int .i64 ((1 : Nat) : Int), .int .u64 s6.epoch, .int .i64 0, .slice p23 (List.take 200 [(((a, b), keep) : Pt Int)]).length c23] 39)) (siz w23) = some (.cells #[.int .i64 9, .int .i64 0, .int .i64 0, .int .i64 s6.gen, .int .i64 ((1 : Nat) : Int), .int .u64 s6.epoch, .int .i64 0, .slice p23 (List.take 200 [(((a, b), keep) : Pt Int)]).length c23] 39) := blk_alloc_new
  generalize w23.alloc (.cells #[.int .i64 9, .int .i64 0, .int .i64 0, .int .i64 s6.gen, .int .i64 ((1 : Nat) : Int), .int .u64 s6.epoch, .int .i64 0, .slice p23 (List.take 200 [(((a, b), keep) : Pt Int)]).length c23] 39) = w24 at k24 e24
  have h24 := h23.keep0 k24
  have b24 := k24.blk (k23.blk b22 rfl) id
  have kk24 := kk22.trans (k23.trans (KO.of0 k24))
  have o24 := (k23.own o22 fun cs => rfl).keep k24 fun _ _ => id
  refine alive_c fun w25 k25' => ?_
  have k25 : K0 w24 w25 := (K0.refl w24).drew.trans k25'.old'
  have h25 := h24.keep0 k25
  have b25 := k25.blk b24 id
  have e25 := k25.blk e24 id
  have o25 := o24.keep k25 fun _ _ => id
  obtain ⟨x0, x1, x2⟩ := lock_cells b25
  obtain ⟨z0, z1, z2, z3, z4, z5, z6, z7⟩ := msg_cells e25
  obtain ⟨g25, c25, eg, _, _, _, _, _, hcel⟩ := o25.at (by decide)
  injection eg with eg1 _ eg2
  subst eg1 eg2
  have q0 : cel w25 g25 0 = some (.int .i64 a) := hcel 0 (by decide)
  have q1 : cel w25 g25 1 = some (.int .i64 b) := hcel 1 (by decide)
  have q2 : cel w25 g25 2 = some (.int .i64 keep) := hcel 2 (by decide)
  have hlen1 : (((List.take 200 [(((a, b), keep) : Pt Int)]).length : Nat) : Int) = 1 := rfl
  simp only [stp, Nat.reduceAdd, Int.reduceLT, Int.reduceLE, Int.reduceEq, Int.reduceNe, ne_eq, bne_self_eq_false, beq_self_eq_true, cst0, cst1]
  rw [ixl (by decide)]
  simp only [stp, Nat.reduceAdd, Int.reduceLT, Int.reduceLE, Int.reduceEq, Int.reduceNe, ne_eq, bne_self_eq_false, beq_self_eq_true, stm, q0, q1, q2, x0, x1, x2, z4, z7, hlen1, cst1, Bool.and_self]
  have k26 : K0 w25 (w25.alloc (.cells #[.int .i64 a, .int .i64 b, .int .i64 md] 25)) := (K0.refl w25).alloc _
  have hb26 : blk (w25.alloc (.cells #[.int .i64 a, .int .i64 b, .int .i64 md] 25)) (siz w25) = some (.cells #[.int .i64 a, .int .i64 b, .int .i64 md] 25) := blk_alloc_new
  generalize w25.alloc (.cells #[.int .i64 a, .int .i64 b, .int .i64 md] 25) = w26 at k26 hb26
  refine chas_c (h25.keep0 k26) (rd_lock1' hb26) (by simp) fun w27 r27 hr27 k27 => ?_
  have hrf : r27 = false := by
    cases r27 with
    | false => rfl
    | true =>
      have h' : needF (askF [(a, b, md)] a) (valB lh23 a) = none := hr27.1 rfl a
      rw [ha, val1, if_pos hinA, hlh23, nh'] at h'
      unfold overB at h'
      rw [show List.take 200 [(((a, b), keep) : Pt Int)] = [(((a, b), keep) : Pt Int)] from rfl, val1, if_pos hinA] at h'
      simp only at h'
      unfold keepF at h'
      by_cases hk0 : keep = 0
      · rw [if_pos hk0] at h'; cases h'
      · rw [if_neg hk0, needF_some, if_neg (fun hh => by have := hh.2.2; omega)] at h'; cases h'
  subst hrf
  simp only [stp, Nat.reduceAdd, Int.reduceLT, Int.reduceLE, Int.reduceEq, Int.reduceNe, ne_eq, bne_self_eq_false, beq_self_eq_true]
  have kend := kk24.trans (KO.of0 (k25.trans (k26.trans k27)))
  exact hq _ kend
theorem uses3 {a b md keep : Int} (hok : ok (a, b)) (hb4 : b ≤ 4096) (hmd : isMd md) (hmd12 : md = 1 ∨ md = 2) (hkeep : keep < md) (hk2 : isMd keep) {c g0 : Nat} {s5 : CS} {p15 : Option Addr} {c15 : Nat} {w15 : World} (h15 : CL w15 B c s5) (hB : B ≤ siz w15) (b15 : blk w15 g0 = some (.cells #[.int .i64 a, .int .i64 b, .int .i64 md] 25)) (mh' : s5.lh = [(((a, b), md) : Pt Int)]) (mu' : s5.lu = [(((a, b), md) : Pt Int)]) (mo' : s5.lo = [(((a, b), keep) : Pt Int)]) (mw' : s5.lw = [(((a, b), md) : Pt Int)]) (mgr : s5.grants = 1)
    (hV : ∀ e x, raiseB (valB s5.lu) (cutB e (valB s5.lw)) x = if hasB (a, b) x then some md else none) (hq : ∀ w', KO B cp w15 w' → Q (.bool true) w') :
    P7_3 (.pointer (some ⟨g0, 0, none⟩)) (.pointer (some ⟨c, 0, none⟩)) (.bool true) (.slice p15 0 c15) (.int .i64 keep) w15 Q := by
  unfold P7_3
  have hcan : ∀ v : Int, Canon [(((a, b), v) : Pt Int)] := fun v => canon_one hok
  have ha := fun x => ask_one (a := a) (b := b) (md := md) hmd12 x
  have hinA : hasB (a, b) a := ⟨hok, Int.le_refl _, hok.2⟩
  have hdl : ∀ {v : Int}, ∀ k ∈ ([(a, b, v)] : List I3), k.2.1 ≤ 4096 := by intro v k hk; simp at hk; subst hk; exact hb4
  have hchg := fun V x => chg1 hok hb4 hmd hmd12 hkeep hk2 mh' V x
  obtain ⟨x0, x1, x2⟩ := lock_cells b15
  simp only [stp, Nat.reduceAdd, Int.reduceLT, Int.reduceLE, Int.reduceEq, Int.reduceNe, ne_eq, bne_self_eq_false, beq_self_eq_true, stm, x0, x1]
  -- not given
  have k16 : K0 w15 (w15.alloc (.cells #[.int .i64 a, .int .i64 b, .int .i64 keep] 25)) := (K0.refl w15).alloc _
  have r16 := rd_lock1 (w := w15) (x := a) (y := b) (z := keep)
  generalize w15.alloc (.cells #[.int .i64 a, .int .i64 b, .int .i64 keep] 25) = w16 at k16 r16
  have h16 := h15.keep0 k16
  have kk16 := KO.of0 (B := B) (p := cp) k16
  refine cgive_c h16 (Nat.le_trans hB kk16.size) r16 (by simp) hdl (fun w17 e17 hn17 h17 k17 => ?_) (fun w17 e17 l17 lv17 lh17 lo17 hc17 hd17 hv17 hl17 hlh17 hlo17 t17 h17 k17 => ?_)
  rotate_left
  · exfalso
    have : l17 = [] := canon_unique _ _ hc17 Canon.nil fun x => by
      rw [hv17, hchg]
      have hu : hasB (a, b) x → usesOver (raiseB (valB s5.lu) (cutB e17 (valB s5.lw))) keep x = true := fun hx => by
        unfold usesOver
        rw [hV, if_pos hx]
        exact decide_eq_true hkeep
      rw [if_neg fun hh => by rw [hu hh.1] at hh; cases hh.2]; rfl
    rw [this] at hl17
    cases hl17
  unfold msgC
  simp only [stp, Nat.reduceAdd, Int.reduceLT, Int.reduceLE, Int.reduceEq, Int.reduceNe, ne_eq, bne_self_eq_false, beq_self_eq_true, stm]
  have k18 := (K0.refl w17).alloc (.cells #[.int .i64 0, .int .i64 0, .int .i64 0, .int .i64 0, .int .i64 0, .int .u64 0, .int .i64 0, .slice none 0 0] 39)
  generalize w17.alloc (.cells #[.int .i64 0, .int .i64 0, .int .i64 0, .int .i64 0, .int .i64 0, .int .u64 0, .int .i64 0, .slice none 0 0] 39) = w18 at k18
  have b18 := k18.blk (k17.blk (k16.blk b15 id) rfl) id
  have h18 := h17.keep0 k18
  have kk18 := kk16.trans (k17.trans (KO.of0 k18))
  obtain ⟨x0, x1, x2⟩ := lock_cells b18
  simp only [stp, Nat.reduceAdd, Int.reduceLT, Int.reduceLE, Int.reduceEq, Int.reduceNe, ne_eq, bne_self_eq_false, beq_self_eq_true, stm, x0, x1, x2]
  have k19 : K0 w18 (w18.alloc (.cells #[.int .i64 a, .int .i64 b, .int .i64 md] 25)) := (K0.refl w18).alloc _
  have r19 := rd_lock1 (w := w18) (x := a) (y := b) (z := md)
  generalize w18.alloc (.cells #[.int .i64 a, .int .i64 b, .int .i64 md] 25) = w19 at k19 r19
  refine chas_c (h18.keep0 k19) r19 (by simp) fun w20 r20 hr20 k20 => ?_
  have hrt : r20 = true := hr20.2 fun x => by rw [ha, mh']; exact needF_same (okM_one hmd12) x
  subst hrt
  have k1820 := k19.trans k20
  have h20 := h18.keep0 k1820
  have b20 := k1820.blk b18 id
  have kk20 := kk18.trans (KO.of0 k1820)
  try simp only [stp, Nat.reduceAdd, Int.reduceLT, Int.reduceLE, Int.reduceEq, Int.reduceNe, ne_eq, bne_self_eq_false, beq_self_eq_true]
  exact uses4 hok hb4 hmd hmd12 hkeep hk2 h20 (Nat.le_trans hB kk20.size) b20 mh' mo' mgr fun w' k => hq w' (kk20.trans k)
theorem uses2 {a b md keep : Int} (hok : ok (a, b)) (hb4 : b ≤ 4096) (hmd : isMd md) (hmd12 : md = 1 ∨ md = 2) (hkeep : keep < md) (hk2 : isMd keep) {c g0 : Nat} {s3 : CS} {w9 : World} (h9 : CL w9 B c s3) (hB : B ≤ siz w9) (b9 : blk w9 g0 = some (.cells #[.int .i64 a, .int .i64 b, .int .i64 md] 25)) (g5 : s3.epoch = 3) (g1 : s3.gen = 1) (gh : s3.lh = [(((a, b), md) : Pt Int)]) (gu : s3.lu = []) (go_ : s3.lo = []) (gw : s3.lw = [(((a, b), md) : Pt Int)]) (ggr : s3.grants = 1)
    (hq : ∀ w', KO B cp w9 w' → Q (.bool true) w') :
    P7_2 (.pointer (some ⟨g0, 0, none⟩)) (.pointer (some ⟨c, 0, none⟩)) (.int .i64 keep) w9 Q := by
  unfold P7_2
  have hcan : ∀ v : Int, Canon [(((a, b), v) : Pt Int)] := fun v => canon_one hok
  have ha := fun x => ask_one (a := a) (b := b) (md := md) hmd12 x
  have hinA : hasB (a, b) a := ⟨hok, Int.le_refl _, hok.2⟩
  have hdl : ∀ {v : Int}, ∀ k ∈ ([(a, b, v)] : List I3), k.2.1 ≤ 4096 := by intro v k hk; simp at hk; subst hk; exact hb4
  obtain ⟨x0, x1, x2⟩ := lock_cells b9
  simp only [stp, Nat.reduceAdd, Int.reduceLT, Int.reduceLE, Int.reduceEq, Int.reduceNe, ne_eq, bne_self_eq_false, beq_self_eq_true, stm, x0, x1, x2]
  -- used
  have k10 : K0 w9 (w9.alloc (.cells #[.int .i64 a, .int .i64 b, .int .i64 md] 25)) := (K0.refl w9).alloc _
  have r10 := rd_lock1 (w := w9) (x := a) (y := b) (z := md)
  generalize w9.alloc (.cells #[.int .i64 a, .int .i64 b, .int .i64 md] 25) = w10 at k10 r10
  have hno : ∀ x, needF (askF [(a, b, md)] x) (valB s3.lh x) = none := fun x => by
    rw [ha, gh]; exact needF_same (okM_one hmd12) x
  refine cuse_c (h9.keep0 k10) r10 (by simp) hdl (fun hn => absurd hno hn) (fun _ w11 lu hlu h11 k11 => ?_)
  have hlu1 : lu = [(((a, b), md) : Pt Int)] := canon_unique _ _ h11.canonU (hcan md) fun x => by
    rw [hlu, gu]
    unfold raiseB
    rw [ha, val1]
    by_cases hx : hasB (a, b) x
    · simp only [if_pos hx, valB]
    · simp only [if_neg hx]; rfl
  subst hlu1
  generalize hs4 : ({ s3 with lu := [(((a, b), md) : Pt Int)] } : CS) = s4 at h11
  have j5 : s4.epoch = 3 := by rw [← hs4]; exact g5
  have j1 : s4.gen = 1 := by rw [← hs4]; exact g1
  have jh : s4.lh = [(((a, b), md) : Pt Int)] := by rw [← hs4]; exact gh
  have ju : s4.lu = [(((a, b), md) : Pt Int)] := by rw [← hs4]
  have jo : s4.lo = [] := by rw [← hs4]; exact go_
  have jw : s4.lw = [(((a, b), md) : Pt Int)] := by rw [← hs4]; exact gw
  have jgr : s4.grants = 1 := by rw [← hs4]; exact ggr
  clear hs4
  have kk11 := (KO.of0 (B := B) (p := cp) k10).trans k11
  have b11 := k11.blk (k10.blk b9 id) rfl
  obtain ⟨x0, x1, x2⟩ := lock_cells b11
  simp only [stp, Nat.reduceAdd, Int.reduceLT, Int.reduceLE, Int.reduceEq, Int.reduceNe, ne_eq, bne_self_eq_false, beq_self_eq_true, stm, x0, x1, x2]
  -- revoked
  have k12 : K0 w11 (w11.alloc (.cells #[.int .i64 a, .int .i64 b, .int .i64 keep] 25)) := (K0.refl w11).alloc _
  have hb12 : blk (w11.alloc (.cells #[.int .i64 a, .int .i64 b, .int .i64 keep] 25)) (siz w11) = some (.cells #[.int .i64 a, .int .i64 b, .int .i64 keep] 25) := blk_alloc_new
  generalize w11.alloc (.cells #[.int .i64 a, .int .i64 b, .int .i64 keep] 25) = w12 at k12 hb12
  have r12 := rd_lock1' hb12
  have h12 := h11.keep0 k12
  have kk12 := kk11.trans (KO.of0 k12)
  refine ctake_e h12 j5.symm (Nat.le_trans hB kk12.size) (by rw [j5]; decide) (by rw [j1]; decide) one_slice (.inr (.inr (.inl ⟨rfl, rfl⟩))) fun w13 k13 => ?_
  have h13 := h12.keep0 k13
  have kk13 := kk12.trans (KO.of0 k13)
  have hgb : ∀ g, (Value.slice (some ⟨siz w11, 0, none⟩) 1 1).ownBlock = some g → g < B ∨ ∃ cs, blk w13 g = some (.cells cs 25) := fun g hg => by
    injection hg with hg
    have hg : siz w11 = g := hg
    subst hg
    exact .inr ⟨_, k13.blk hb12 id⟩
  refine crevoke_c h13 (Nat.le_trans hB kk13.size) one_slice (r12.keep0 k13) hgb (by simp) hdl fun w14 v14 lo hlo h14 k14 => ?_
  have hgone : ∀ x, goneF [(a, b, keep)] x = if hasB (a, b) x then some keep else none := fun x => rfl
  have hlo1 : lo = [(((a, b), keep) : Pt Int)] := canon_unique _ _ h14.canonO (hcan keep) fun x => by
    rw [hlo, jo, jh, val1]
    unfold overX
    rw [hgone]
    by_cases hx : hasB (a, b) x
    · simp only [if_pos hx]
      unfold oweX oF
      rw [val1, if_pos hx]
      simp only [if_pos hkeep, valB]
    · simp only [if_neg hx]; rfl
  subst hlo1
  generalize hs5 : ({ s4 with lo := [(((a, b), keep) : Pt Int)] } : CS) = s5 at h14
  have m5' : s5.epoch = 3 := by rw [← hs5]; exact j5
  have m1' : s5.gen = 1 := by rw [← hs5]; exact j1
  have mh' : s5.lh = [(((a, b), md) : Pt Int)] := by rw [← hs5]; exact jh
  have mu' : s5.lu = [(((a, b), md) : Pt Int)] := by rw [← hs5]; exact ju
  have mo' : s5.lo = [(((a, b), keep) : Pt Int)] := by rw [← hs5]
  have mw' : s5.lw = [(((a, b), md) : Pt Int)] := by rw [← hs5]; exact jw
  have mgr : s5.grants = 1 := by rw [← hs5]; exact jgr
  clear hs5
  have kk14 := kk13.trans k14
  have b14 := k14.blk ((k12.trans k13).blk b11 id) rfl
  have hV : ∀ e x, raiseB (valB s5.lu) (cutB e (valB s5.lw)) x = if hasB (a, b) x then some md else none := fun e x => by
    rw [mu', mw']
    unfold raiseB cutB
    rw [val1]
    by_cases hx : hasB (a, b) x
    · by_cases he : x < e
      · simp only [if_pos hx, if_pos he, Int.max_self]
      · simp only [if_pos hx, if_neg he]
    · simp only [if_neg hx, ite_self]
  refine cowed_c h14 fun w15 v15 e l15 hc15 hd15 hv15 o15 k15 => ?_
  have hl15 : l15 = [] := canon_unique _ _ hc15 Canon.nil fun x => by
    rw [hv15]
    unfold owedB
    rw [mo', mh', val1, val1, hV]
    by_cases hx : hasB (a, b) x
    · simp only [if_pos hx]
      rw [if_neg (show ¬ max md keep < md by omega)]; rfl
    · simp only [if_neg hx]; rfl
  subst hl15
  have h15 := h14.keep0 k15
  have b15 := k15.blk b14 id
  have kk15 := kk14.trans (KO.of0 k15)
  obtain ⟨p15, c15, rfl⟩ := o15.form
  have b15 := k15.blk b14 id
  have h15 := h14.keep0 k15
  try simp only [stp, Nat.reduceAdd, Int.reduceLT, Int.reduceLE, Int.reduceEq, Int.reduceNe, ne_eq, bne_self_eq_false, beq_self_eq_true]
  exact uses3 hok hb4 hmd hmd12 hkeep hk2 h15 (Nat.le_trans hB kk15.size) b15 mh' mu' mo' mw' mgr hV fun w' k => hq w' (kk15.trans k)
theorem uses1 {a b md keep : Int} (hok : ok (a, b)) (hb4 : b ≤ 4096) (hmd : isMd md) (hmd12 : md = 1 ∨ md = 2) (hkeep : keep < md) (hk2 : isMd keep) {g0 : Nat} {w2 : World} (b2 : blk w2 g0 = some (.cells #[.int .i64 a, .int .i64 b, .int .i64 md] 25)) (hq : ∀ w', KO (siz w2) cp w2 w' → Q (.bool true) w') :
    P7_1 (.pointer (some ⟨g0, 0, none⟩)) (.int .i64 keep) w2 Q := by
  unfold P7_1
  have hcan : ∀ v : Int, Canon [(((a, b), v) : Pt Int)] := fun v => canon_one hok
  have ha := fun x => ask_one (a := a) (b := b) (md := md) hmd12 x
  have hinA : hasB (a, b) a := ⟨hok, Int.le_refl _, hok.2⟩
  have hdl : ∀ {v : Int}, ∀ k ∈ ([(a, b, v)] : List I3), k.2.1 ≤ 4096 := by intro v k hk; simp at hk; subst hk; exact hb4
  refine cnew_c (B := siz w2) (Nat.le_refl _) fun w3 h3 k3 => ?_
  simp only [stp, Nat.reduceAdd, Int.reduceLT, Int.reduceLE, Int.reduceEq, Int.reduceNe, ne_eq, bne_self_eq_false, beq_self_eq_true]
  refine start_c (Nat.le_refl _) (by decide) (fun w4 s h4 k4 e5 e1 eh eu eo ew eid eout eq_ egr ed => ?_) h3 k3
  have b4 := k4.blk b2 rfl
  obtain ⟨x0, x1, x2⟩ := lock_cells b4
  simp only [stp, Nat.reduceAdd, Int.reduceLT, Int.reduceLE, Int.reduceEq, Int.reduceNe, ne_eq, bne_self_eq_false, beq_self_eq_true, stm, x0, x1, x2]
  have k5 : K0 w4 (w4.alloc (.cells #[.int .i64 a, .int .i64 b, .int .i64 md] 25)) := (K0.refl w4).alloc _
  have r5 := rd_lock1 (w := w4) (x := a) (y := b) (z := md)
  generalize w4.alloc (.cells #[.int .i64 a, .int .i64 b, .int .i64 md] 25) = w5 at k5 r5
  have b5 := k5.blk b4 id
  have kk5 : KO (siz w2) cp w2 w5 := k4.trans (KO.of0 k5)
  have hneed : ¬ ∀ x, needF (askF [(a, b, md)] x) (valB s.lh x) = none := fun h => by
    have := h a
    rw [ha, val1, if_pos hinA, eh] at this
    cases this
  refine cwant_c (h4.keep0 k5) kk5.size (by omega) (by rw [e5]; decide) r5 (by simp) hdl (fun w6 N hcN hmN hvN hall h6 k6 => absurd hall hneed) (fun w6 N hcN hmN hvN hall ho h6 k6 => by rw [eout] at ho; cases ho) (fun w6 N v lv l' hcN hmN hvN ho hc' hv' hm' hl m6 t6 h6 k6 => ?_)
  have hN : N = [(((a, b), md) : Pt Int)] := canon_unique _ _ hcN (hcan md) fun x => by rw [hvN, ha]
  subst hN
  generalize hs2 : ({ s with lw := [(((a, b), md) : Pt Int)], id := s.id + 1, out := true, quit := false } : CS) = s2 at h6
  have f5 : s2.epoch = 3 := by rw [← hs2]; exact e5
  have f1 : s2.gen = 1 := by rw [← hs2]; exact e1
  have fh : s2.lh = [] := by rw [← hs2]; exact eh
  have fu : s2.lu = [] := by rw [← hs2]; exact eu
  have fo : s2.lo = [] := by rw [← hs2]; exact eo
  have fw : s2.lw = [(((a, b), md) : Pt Int)] := by rw [← hs2]
  have fid : s2.id = 1 := by rw [← hs2]; show s.id + 1 = 1; omega
  have fout : s2.out = true := by rw [← hs2]
  have fgr : s2.grants = 0 := by rw [← hs2]; exact egr
  clear hs2
  obtain ⟨gm, rfl, bm⟩ := m6
  unfold msgC at bm
  rw [eid, e1, e5, show ((0 + 1 : Nat) : Int) = 1 from rfl] at bm
  have b6 := k6.blk b5 rfl
  simp only [stp, Nat.reduceAdd, Int.reduceLT, Int.reduceLE, Int.reduceEq, Int.reduceNe, ne_eq, bne_self_eq_false, beq_self_eq_true, stm, cst1]
  have kk6 := kk5.trans k6
  refine ⟨fun w' => blk w' gm = some (.cells #[.int .i64 5, .int .i64 1, .int .i64 0, .int .i64 1, .int .i64 0, .int .u64 3, .int .i64 0, lv] 39) ∧ blk w' g0 = some (.cells #[.int .i64 a, .int .i64 b, .int .i64 md] 25), ⟨bm, b6⟩, ?_⟩
  rw [ixm]
  simp only [stp, Nat.reduceAdd, Int.reduceLT, Int.reduceLE, Int.reduceEq, Int.reduceNe, ne_eq, bne_self_eq_false, beq_self_eq_true]
  refine hld_int (v := .int .i64 1) (fun w' hS => hS.1) rfl ?_
  refine hld_lock (fun w' hS => hS.2) ?_
  simp only [stp, Nat.reduceAdd, Int.reduceLT, Int.reduceLE, Int.reduceEq, Int.reduceNe, ne_eq, bne_self_eq_false, beq_self_eq_true, stm]
  have k7 : K0 w6 (w6.drew.alloc (.cells #[.int .i64 a, .int .i64 b, .int .i64 md] 25)) := (K0.refl w6).drew.alloc _
  have hb7 : blk (w6.drew.alloc (.cells #[.int .i64 a, .int .i64 b, .int .i64 md] 25)) (siz w6) = some (.cells #[.int .i64 a, .int .i64 b, .int .i64 md] 25) := blk_alloc_new (w := w6.drew)
  generalize w6.drew.alloc (.cells #[.int .i64 a, .int .i64 b, .int .i64 md] 25) = w7 at k7 hb7
  have r7 := rd_lock1' hb7
  have h7 := h6.keep0 k7
  have kk7 := kk6.trans (KO.of0 k7)
  refine ⟨⟨k7.blk bm id, k7.blk b6 id⟩, ?_⟩
  refine ctake_e h7 f5.symm kk7.size (by rw [f5]; decide) (by rw [f1]; decide) one_slice (.inl ⟨rfl, rfl⟩) fun w8 k8 => ?_
  have h8 := h7.keep0 k8
  have kk8 := kk7.trans (KO.of0 k8)
  have k68 := k7.trans k8
  refine cgrant_c h8 kk8.size (by omega) (by omega) one_slice (r7.keep0 k8) (fun g hg e => by
    injection hg with hg
    have hg : siz w6 = g := hg
    exact lock_ne h8 (k8.blk hb7 id) (hg.trans e)) (by simp) hdl (fun hor w9 lh lo hlh hlo h9 k9 => ?_) (fun hout hi w9 lh hlh hnd h9 k9 => ?_) (fun hout hi w9 lh v9 lv9 l9 hlh hc9 hv9 hm9 hl9 m9 t9 h9 k9 => ?_)
  · exfalso
    rcases hor with h' | h'
    · rw [fout] at h'; cases h'
    · exact h' (by rw [fid]; rfl)
  rotate_left
  · exfalso
    have : l9 = [] := canon_unique _ _ hc9 Canon.nil fun x => by
      rw [hv9, hlh, fh, fw]
      unfold raiseB
      rw [ha, val1]
      by_cases hx : hasB (a, b) x
      · simp only [if_pos hx, valB]
        rw [needF_some, if_pos ⟨hmd, hmd, Int.le_refl _⟩]
      · simp only [if_neg hx]; rfl
    subst this
    cases hl9
  have hlh1 : lh = [(((a, b), md) : Pt Int)] := canon_unique _ _ h9.canonH (hcan md) fun x => by
    rw [hlh, fh]
    unfold raiseB
    rw [ha, val1]
    by_cases hx : hasB (a, b) x
    · simp only [if_pos hx, valB]
    · simp only [if_neg hx]; rfl
  subst hlh1
  generalize hs3 : ({ s2 with grants := s2.grants + 1, lh := [(((a, b), md) : Pt Int)], out := false } : CS) = s3 at h9
  have g5 : s3.epoch = 3 := by rw [← hs3]; exact f5
  have g1 : s3.gen = 1 := by rw [← hs3]; exact f1
  have gh : s3.lh = [(((a, b), md) : Pt Int)] := by rw [← hs3]
  have gu : s3.lu = [] := by rw [← hs3]; exact fu
  have go_ : s3.lo = [] := by rw [← hs3]; exact fo
  have gw : s3.lw = [(((a, b), md) : Pt Int)] := by rw [← hs3]; exact fw
  have ggr : s3.grants = 1 := by rw [← hs3]; show s2.grants + 1 = 1; omega
  clear hs3
  have kk9 := kk8.trans k9
  have b9 := k9.blk (k68.blk b6 id) rfl
  refine ⟨⟨k9.blk (k68.blk bm id) rfl, b9⟩, ?_⟩
  try simp only [stp, Nat.reduceAdd, Int.reduceLT, Int.reduceLE, Int.reduceEq, Int.reduceNe, ne_eq, bne_self_eq_false, beq_self_eq_true]
  exact uses2 hok hb4 hmd hmd12 hkeep hk2 h9 kk9.size b9 g5 g1 gh gu go_ gw ggr fun w' k => hq w' (kk9.trans k)
theorem uses_law {l : I3} {keep : Int} (_ : good3 l) (_ : (Lit.int .i64 keep).wf = true) (hq : ∀ w', Keep (fun b => siz w ≤ b) w w' → Q (.bool true) w') :
    callS Try.prog 7 #[.agg (enc3 l).toArray, .int .i64 keep] Q w := by
  refine ref7 ?_
  rw [cut7]
  unfold P7_0
  obtain ⟨a, b, md⟩ := l
  simp only [enc3]
  simp only [stp, Nat.reduceAdd, Int.reduceLT, Int.reduceLE, Int.reduceEq, Int.reduceNe, ne_eq, bne_self_eq_false, beq_self_eq_true]
  have kb : K0 w (w.alloc (.cells #[.int .i64 a, .int .i64 b, .int .i64 md] 25)) := (K0.refl w).alloc _
  have bb : blk (w.alloc (.cells #[.int .i64 a, .int .i64 b, .int .i64 md] 25)) (siz w) = some (.cells #[.int .i64 a, .int .i64 b, .int .i64 md] 25) := blk_alloc_new
  generalize w.alloc (.cells #[.int .i64 a, .int .i64 b, .int .i64 md] 25) = w0 at kb bb
  obtain ⟨x0, x1, x2⟩ := lock_cells bb
  simp only [stp, Nat.reduceAdd, Int.reduceLT, Int.reduceLE, Int.reduceEq, Int.reduceNe, ne_eq, bne_self_eq_false, beq_self_eq_true, stm, x0, x1, x2]
  have k1 : K0 w0 (w0.alloc (.cells #[.int .i64 a, .int .i64 b, .int .i64 md] 25)) := (K0.refl w0).alloc _
  have r1 := rd_lock1 (w := w0) (x := a) (y := b) (z := md)
  generalize w0.alloc (.cells #[.int .i64 a, .int .i64 b, .int .i64 md] 25) = w1 at k1 r1
  refine may_c r1 (by simp) fun w2 k2 => ?_
  have k02 := (kb.trans k1).trans k2
  have b2 := (k1.trans k2).blk bb id
  obtain ⟨x0, x1, x2⟩ := lock_cells b2
  have off : callS Try.prog 10 #[] (fun t w' => Q t w') w2 := alive_c fun w' k => hq _ (k02.new.trans' k fun b hb e => Nat.le_trans k02.size e)
  by_cases hm : ∀ k ∈ ([(a, b, md)] : List I3), mayL k
  case neg =>
    simp only [stp, Nat.reduceAdd, Int.reduceLT, Int.reduceLE, Int.reduceEq, Int.reduceNe, ne_eq, bne_self_eq_false, beq_self_eq_true, hm]
    exact off
  have hm1 := hm (a, b, md) (by simp)
  obtain ⟨hok, hb4, hmd⟩ := hm1
  simp only at hok hb4 hmd
  have hmt : decide (∀ k ∈ ([(a, b, md)] : List I3), mayL k) = true := decide_eq_true hm
  simp only [stp, Nat.reduceAdd, Int.reduceLT, Int.reduceLE, Int.reduceEq, Int.reduceNe, ne_eq, bne_self_eq_false, beq_self_eq_true, stm, hmt, x2]
  by_cases h0 : md = 0
  · simp only [stp, Nat.reduceAdd, Int.reduceLT, Int.reduceLE, Int.reduceEq, Int.reduceNe, ne_eq, bne_self_eq_false, beq_self_eq_true, stm, h0]
    exact off
  by_cases h1 : keep < 0
  · simp only [stp, Nat.reduceAdd, Int.reduceLT, Int.reduceLE, Int.reduceEq, Int.reduceNe, ne_eq, bne_self_eq_false, beq_self_eq_true, stm, h0, h1]
    exact off
  by_cases h2 : md ≤ keep
  · simp only [stp, Nat.reduceAdd, Int.reduceLT, Int.reduceLE, Int.reduceEq, Int.reduceNe, ne_eq, bne_self_eq_false, beq_self_eq_true, stm, x2, h0, h1, h2]
    exact off
  simp only [stp, Nat.reduceAdd, Int.reduceLT, Int.reduceLE, Int.reduceEq, Int.reduceNe, ne_eq, bne_self_eq_false, beq_self_eq_true, stm, x2, h0, h1, h2]
  have hmd12 : md = 1 ∨ md = 2 := by unfold isMd at hmd; omega
  have hkeep : keep < md := by omega
  have hk2 : isMd keep := by unfold isMd at *; omega
  exact uses1 hok hb4 hmd hmd12 hkeep hk2 b2 fun w' k => hq _ (k02.new.trans' (k.below (Nat.le_refl _)) fun b hb e => Nat.le_trans k02.size e)
end
end Go.Proofs.Ytknklmemadediaa
