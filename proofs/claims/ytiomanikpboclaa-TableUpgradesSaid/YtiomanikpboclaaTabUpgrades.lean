/- What TableUpgrades computes: true. Conditions: as each says. -/
import Derived.Test.YtiomanikpboclaaTabG
set_option linter.unusedSimpArgs false
set_option linter.unusedVariables false
namespace Go.Proofs.Ytiomanikpboclaa
open Go.Sh Go.Proofs.Ytiomanikpboclaa.Mi
set_option maxRecDepth 100000
section
variable {w w' : World} {Q : Value → World → Prop} {B t : Nat} {s : TS}
theorem upgrades_law {sp : Int × Int} {at' : Int} (_ : rngS sp) (_ : (Lit.int .i64 at').wf = true) (hq : ∀ w', Keep (fun b => siz w ≤ b) w w' → Q (.bool true) w') :
    callS Try.prog 3 #[.agg (encS sp).toArray, .int .i64 at'] Q w := by
  obtain ⟨a, b⟩ := sp
  refine ref3 ?_
  unfold S3
  show act _ (Instr.box _ (.agg #[.int .i64 a, .int .i64 b])) _ _
  simp only [act_box, agg_cells]
  have b1 : blk (w.alloc (.cells #[.int .i64 a, .int .i64 b] 23)) (siz w) = some (.cells #[.int .i64 a, .int .i64 b] 23) := blk_alloc_new
  have k1 : K0 w (w.alloc (.cells #[.int .i64 a, .int .i64 b] 23)) := (K0.refl w).alloc _
  generalize w.alloc (.cells #[.int .i64 a, .int .i64 b] 23) = w1 at b1 k1
  have x0 : cel w1 (siz w) 0 = some (.int .i64 a) := by rw [cel_b b1]; rfl
  have x1 : cel w1 (siz w) 1 = some (.int .i64 b) := by rw [cel_b b1]; rfl
  have out : callS Try.prog 8 #[] Q w1 := talive_c fun w2 k2 => hq _ (Keep.new (k1.trans k2.old'))
  by_cases g1 : a < 0
  · simp only [stp, Nat.reduceAdd, Int.reduceLT, Int.reduceLE, Int.reduceEq, Int.reduceNe, ne_eq, bne_self_eq_false, beq_self_eq_true, stm, x0, x1, g1]; exact out
  by_cases g2 : b ≤ a
  · simp only [stp, Nat.reduceAdd, Int.reduceLT, Int.reduceLE, Int.reduceEq, Int.reduceNe, ne_eq, bne_self_eq_false, beq_self_eq_true, stm, x0, x1, g1, g2]; exact out
  by_cases g3 : 4096 < b
  · simp only [stp, Nat.reduceAdd, Int.reduceLT, Int.reduceLE, Int.reduceEq, Int.reduceNe, ne_eq, bne_self_eq_false, beq_self_eq_true, stm, x0, x1, g1, g2, g3]; exact out
  by_cases g4 : at' < a
  · simp only [stp, Nat.reduceAdd, Int.reduceLT, Int.reduceLE, Int.reduceEq, Int.reduceNe, ne_eq, bne_self_eq_false, beq_self_eq_true, stm, x0, x1, g1, g2, g3, g4]; exact out
  by_cases g5 : b ≤ at'
  · simp only [stp, Nat.reduceAdd, Int.reduceLT, Int.reduceLE, Int.reduceEq, Int.reduceNe, ne_eq, bne_self_eq_false, beq_self_eq_true, stm, x0, x1, g1, g2, g3, g4, g5]; exact out
  simp only [stp, Nat.reduceAdd, Int.reduceLT, Int.reduceLE, Int.reduceEq, Int.reduceNe, ne_eq, bne_self_eq_false, beq_self_eq_true, stm, x0, x1, g1, g2, g3, g4, g5]
  clear out
  have ha : 0 ≤ a := by omega
  have s1 := k1.size
  refine tnew_c (B := siz w1) (nodes := 3) (by omega) (Nat.le_refl _) fun w2 h2 k2 => ?_
  have s2 := k2.size
  have hwp : IntKind.i64.wrap (at' + 1) = at' + 1 := wrap_id (by omega) (by omega)
  simp only [stp, Nat.reduceAdd, Int.reduceLT, Int.reduceLE, Int.reduceEq, Int.reduceNe, ne_eq, bne_self_eq_false, beq_self_eq_true, stm, hwp]
  have k3 : K0 w2 (w2.alloc (.cells #[.int .i64 at', .int .i64 (at' + 1)] 23)) := (K0.refl w2).alloc _
  have b3 : blk (w2.alloc (.cells #[.int .i64 at', .int .i64 (at' + 1)] 23)) (siz w2) = some (.cells #[.int .i64 at', .int .i64 (at' + 1)] 23) := blk_alloc_new
  generalize w2.alloc (.cells #[.int .i64 at', .int .i64 (at' + 1)] 23) = w3 at b3 k3
  have s3 := k3.size
  have cS : ∀ {w'}, KO (siz w1) tp w3 w' → cel w' (siz w) 0 = some (.int .i64 a) ∧ cel w' (siz w) 1 = some (.int .i64 b) ∧ cel w' (siz w2) 0 = some (.int .i64 at') ∧ cel w' (siz w2) 1 = some (.int .i64 (at' + 1)) := fun k => by
    have e1 := k.blk (k3.blk (k2.blk b1 (by exact fun h => h)) (by exact fun h => h)) rfl
    have e2 := k.blk b3 rfl
    refine ⟨?_, ?_, ?_, ?_⟩ <;> first | (rw [cel_b e1]; rfl) | (rw [cel_b e2]; rfl)
  obtain ⟨x0, x1, y0, y1⟩ := cS (KO.refl _ _ _)
  simp only [stp, Nat.reduceAdd, Int.reduceLT, Int.reduceLE, Int.reduceEq, Int.reduceNe, ne_eq, bne_self_eq_false, beq_self_eq_true, stm, x0, x1]
  have hno : ∀ o x, bl (TS.fresh 3) o x = none := bl_fresh 3
  have h3 := h2.keep0 k3
  have p3 := h3.pu
  refine ask_free (i := 1) h3 wsOk_nil (fun k hk => by cases hk) (by show (0 : Int) ≤ 0 ∧ (0 : Int) ≤ 1000000000; omega) (by omega) ⟨by show (1 : Int) ≤ 1 ∧ (1 : Int) ≤ 3; omega, by unfold rightL ok; dsimp only; omega⟩ (fun h => ?_) (p3.free.2 fun x _ hh => ?_) fun w4 h4 k4 => ?_
  · obtain ⟨v, hv, _⟩ := h a ((hasB_in ha).2 ⟨by omega, by omega⟩)
    rw [hno] at hv; cases hv
  · rcases hh with ⟨o, _, _, _, v, hv, _⟩ | hh
    · rw [hno] at hv; cases hv
    · exact hxA_nil _ _ _ hh
  have p4 := h4.pu
  have e4 : ∀ o x, bl ((TS.fresh 3).raise 1 a b 1) o x = if o = 1 ∧ inR a b x then some 1 else none := fun o x => by
    rw [p3.bl_raise (by omega) ha (by omega), updM_in ha, hno, hno]
    by_cases ho : o = 1 <;> by_cases hx : inR a b x <;> simp [ho, hx]
  have f4 : ((TS.fresh 3).raise 1 a b 1).nodes = 3 ∧ ((TS.fresh 3).raise 1 a b 1).ws = [] ∧ ((TS.fresh 3).raise 1 a b 1).last = 0 := ⟨rfl, rfl, rfl⟩
  generalize (TS.fresh 3).raise 1 a b 1 = s4 at *
  obtain ⟨n4, ws4, la4⟩ := f4
  have s4' := k4.size
  obtain ⟨x0, x1, y0, y1⟩ := cS k4
  simp only [stp, Nat.reduceAdd, Int.reduceLT, Int.reduceLE, Int.reduceEq, Int.reduceNe, ne_eq, bne_self_eq_false, beq_self_eq_true, stm, x0, x1]
  refine ask_free (i := 2) h4 (by rw [ws4]; exact wsOk_nil) (fun k hk => by rw [ws4] at hk; cases hk) (by omega) (by omega) ⟨by omega, by unfold rightL ok; dsimp only; omega⟩ (fun h => ?_) ((p4.free_nil ws4).2 fun x _ hh => ?_) fun w5 h5 k5 => ?_
  · obtain ⟨v, hv, _⟩ := h a ((hasB_in ha).2 ⟨by omega, by omega⟩)
    rw [e4, if_neg (by omega)] at hv; cases hv
  · obtain ⟨o, _, _, _, v, hv, hf⟩ := hh
    rw [e4] at hv
    split at hv
    · injection hv with hv
      subst hv
      exact hf (by decide)
    · cases hv
  have p5 := h5.pu
  have e5 : ∀ o x, bl (s4.raise 2 a b 1) o x = if (o = 1 ∨ o = 2) ∧ inR a b x then some 1 else none := fun o x => by
    rw [p4.bl_raise (by omega) ha (by omega), updM_in ha, e4, e4]
    by_cases ho : o = 1 <;> by_cases ho2 : o = 2 <;> by_cases hx : inR a b x <;> simp [ho, ho2, hx]
  have f5 : (s4.raise 2 a b 1).nodes = 3 ∧ (s4.raise 2 a b 1).ws = [] ∧ (s4.raise 2 a b 1).last = 0 := ⟨n4, ws4, la4⟩
  generalize s4.raise 2 a b 1 = s5 at *
  obtain ⟨n5, ws5, la5⟩ := f5
  have s5' := k5.size
  obtain ⟨x0, x1, y0, y1⟩ := cS (k4.trans k5)
  simp only [stp, Nat.reduceAdd, Int.reduceLT, Int.reduceLE, Int.reduceEq, Int.reduceNe, ne_eq, bne_self_eq_false, beq_self_eq_true, stm, y0, y1]
  have hin : inR a b at' := ⟨by omega, by omega⟩
  have hone : hasB (at', at' + 1) at' := (hasB_in (by omega)).2 ⟨by omega, by omega⟩
  have honly : ∀ x, hasB (at', at' + 1) x → x = at' := fun x hx => by have := (hasB_in (by omega)).1 hx; unfold inR at this; omega
  refine ask_wait (i := 1) h5 (by rw [ws5]; exact wsOk_nil) (fun k hk => by rw [ws5] at hk; cases hk) (by omega) (by omega) ⟨by omega, by unfold rightL ok; dsimp only; omega⟩ (fun h => ?_) (fun h => ?_) (fun h => ?_) (by rw [ws5]; simp) fun w6 h6 k6 => ?_
  · obtain ⟨v, hv, hc⟩ := h at' hone
    rw [e5, if_pos ⟨.inl rfl, hin⟩] at hv
    injection hv with hv
    subst hv
    exact absurd hc.2.2 (by omega)
  · refine (free_iff h5).1 h at' hone (.inl ⟨2, by omega, by omega, by omega, 1, ?_, by decide⟩)
    rw [e5, if_pos ⟨.inr rfl, hin⟩]
  · obtain ⟨_, k, hk, _⟩ := h
    rw [ws5] at hk; cases hk
  have p6 := h6.pu
  have e6 : ∀ o x, bl (s5.wait 1 at' (at' + 1) 2) o x = if (o = 1 ∨ o = 2) ∧ inR a b x then some 1 else none := e5
  have f6 : (s5.wait 1 at' (at' + 1) 2).nodes = 3 ∧ (s5.wait 1 at' (at' + 1) 2).ws = [(1, 1, at', at' + 1, 2)] ∧ (s5.wait 1 at' (at' + 1) 2).last = 1 := by
    unfold TS.wait
    dsimp only
    rw [n5, ws5, la5]
    exact ⟨rfl, rfl, rfl⟩
  have f6' : s5.last + 1 = 1 := by omega
  rw [f6']
  generalize s5.wait 1 at' (at' + 1) 2 = s6 at *
  obtain ⟨n6, ws6, la6⟩ := f6
  have ok6 : WsOk s6.ws := by
    rw [ws6]
    exact ⟨by simp, fun k hk => by simp at hk; subst hk; unfold rightL ok; dsimp only; omega⟩
  have wn6 : WsN s6 := fun k hk => by rw [ws6] at hk; simp at hk; subst hk; dsimp only; omega
  have s6' := k6.size
  obtain ⟨x0, x1, y0, y1⟩ := cS ((k4.trans k5).trans k6)
  simp only [stp, Nat.reduceAdd, Int.reduceLT, Int.reduceLE, Int.reduceEq, Int.reduceNe, ne_eq, bne_self_eq_false, beq_self_eq_true, stm, y0, y1]
  refine ask_dead (i := 2) h6 ok6 wn6 (by omega) (by omega) ⟨by omega, by unfold rightL ok; dsimp only; omega⟩ (fun h => ?_) (fun h => ?_) ⟨rfl, (1, 1, at', at' + 1, 2), by rw [ws6]; simp, by show (1 : Int) ≠ ((2 : Nat) : Int); omega, rfl, ?_⟩ fun w7 h7 k7 => ?_
  · obtain ⟨v, hv, hc⟩ := h at' hone
    rw [e6, if_pos ⟨.inr rfl, hin⟩] at hv
    injection hv with hv
    subst hv
    exact absurd hc.2.2 (by omega)
  · refine (free_iff h6).1 h at' hone (.inl ⟨1, by omega, by omega, by omega, 1, ?_, by decide⟩)
    rw [e6, if_pos ⟨.inl rfl, hin⟩]
  · have hv : bl s6 1 at' = some 1 := by rw [e6, if_pos ⟨.inl rfl, hin⟩]
    obtain ⟨p, hp, hpx, hp2⟩ := part_of (p6.li.at 1) hone hv
    exact ⟨p, hp, hp2, at', hpx, hone, by rw [e6, if_pos ⟨.inr rfl, hin⟩]⟩
  have s7' := k7.size
  obtain ⟨x0, x1, y0, y1⟩ := cS (((k4.trans k5).trans k6).trans k7)
  simp only [stp, Nat.reduceAdd, Int.reduceLT, Int.reduceLE, Int.reduceEq, Int.reduceNe, ne_eq, bne_self_eq_false, beq_self_eq_true, stm, x0, x1]
  refine release_c h7 ok6 wn6 (by omega) (fun w8 g _ => absurd ⟨by omega, by unfold ok; dsimp only; omega, .inl rfl⟩ g) fun w8 v8 i ei hi1 hi2 _ _ h8 o8 k8 => ?_
  have hi : i = 2 := by omega
  subst hi
  have p8 := p6.release (i := 2) (a := a) (b := b) (keep := 0) (by omega)
  have e8 : ∀ o x, bl (s6.release 2 a b 0) o x = if o = 1 ∧ inR a b x then some 1 else none := fun o x => by
    rw [p6.bl_release (by omega), relF_in ha, e6, e6]
    by_cases ho : o = 1
    · subst ho
      rw [if_neg (by omega)]
      by_cases hx : inR a b x <;> simp [hx]
    · by_cases ho2 : o = 2
      · subst ho2
        by_cases hx : inR a b x <;> simp [hx, relV]
      · simp [ho, ho2]
  have f8 : (s6.release 2 a b 0).nodes = 3 ∧ (s6.release 2 a b 0).ws = [(1, 1, at', at' + 1, 2)] := ⟨n6, ws6⟩
  generalize s6.release 2 a b 0 = s8 at *
  obtain ⟨n8, ws8⟩ := f8
  have hfree : ¬ hindF s8 [] 1 at' (at' + 1) 2 < at' + 1 := p8.free.2 fun x hx hh => by
    rcases hh with ⟨o, _, _, ho, v, hv, hf⟩ | hh
    · rw [e8, if_neg (by omega)] at hv; cases hv
    · exact hxA_nil _ _ _ hh
  obtain ⟨hgr, hout⟩ := grant_one ws8 hfree
  rw [hout] at o8
  have e9 : ∀ o x, bl s8.granted o x = if o = 1 then updM (bl s8 1) (at', at' + 1) 2 x else bl s8 o x := fun o x => by
    rw [hgr]
    exact p8.bl_raise (i := 1) (a := at') (b := at' + 1) (md := 2) (by omega) (by omega) (by omega) o x
  have n9 : s8.granted.nodes = 3 := by rw [granted_nodes, n8]
  obtain ⟨g8, c8, rfl, z0, _⟩ := wait_row o8 (i := 0) (by simp)
  simp only [stp, Nat.reduceAdd, Int.reduceLT, Int.reduceLE, Int.reduceEq, Int.reduceNe, ne_eq, bne_self_eq_false, beq_self_eq_true]
  have s8' := k8.size
  refine talive_c fun w9 k9 => ?_
  have k9 : K0 w8 w9 := k9.old'
  have z0 : cel w9 g8 0 = some (.int .i64 1) := k9.cel (by simpa using z0) (by exact fun h => h)
  have h9 := h8.keep0 k9
  have x8 : ∀ k, pur Try.prog (Instr.indexAt 32 (.slice (some ⟨g8, 0, none⟩) 1 c8) (.int .i64 0)) k = k (.pointer (some ⟨g8, 0, none⟩)) := fun k => ix_32 (i := 0) (by omega)
  simp only [stp, Nat.reduceAdd, Int.reduceLT, Int.reduceLE, Int.reduceEq, Int.reduceNe, ne_eq, bne_self_eq_false, beq_self_eq_true, stm, List.length_singleton, List.length_cons, List.length_nil, Int.ofNat_one, Int.natCast_one, x8, z0]
  refine tmode_bl (i := 1) h9 (by omega) (by omega) fun w10 k10 => ?_
  have m1 : (bl s8.granted 1 at').getD 0 = 2 := by
    rw [e9, if_pos rfl, updM_in (by omega), if_pos ⟨by omega, by omega⟩, e8, if_pos ⟨rfl, hin⟩]
    rfl
  have m2 : (bl s8.granted 2 at').getD 0 = 0 := by
    rw [e9, if_neg (by omega), e8, if_neg (by omega)]
    rfl
  rw [m1]
  simp only [stp, Nat.reduceAdd, Int.reduceLT, Int.reduceLE, Int.reduceEq, Int.reduceNe, ne_eq, bne_self_eq_false, beq_self_eq_true, stm]
  refine tmode_bl (i := 2) (h9.keep0 k10) (by omega) (by omega) fun w11 k11 => ?_
  rw [m2]
  simp only [stp, Nat.reduceAdd, Int.reduceLT, Int.reduceLE, Int.reduceEq, Int.reduceNe, ne_eq, bne_self_eq_false, beq_self_eq_true, stm]
  have kk : KO (siz w1) tp w3 w8 := (((k4.trans k5).trans k6).trans k7).trans k8
  refine hq _ ?_
  have kA : K0 w w3 := (k1.trans k2).trans k3
  exact ((Keep.new kA).trans ((kk.le s1).below (Nat.le_refl _))).trans (((k9.trans k10).trans k11).none)
end
end Go.Proofs.Ytiomanikpboclaa
