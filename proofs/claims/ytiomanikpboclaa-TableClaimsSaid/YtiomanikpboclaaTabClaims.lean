/- What TableClaims computes: true. Conditions: as each says. -/
import Derived.Test.YtiomanikpboclaaTabG
set_option linter.unusedSimpArgs false
set_option linter.unusedVariables false
namespace Go.Proofs.Ytiomanikpboclaa
open Go.Sh Go.Proofs.Ytiomanikpboclaa.Mi
set_option maxRecDepth 100000
section
variable {w w' : World} {Q : Value → World → Prop} {B t : Nat} {s : TS}
theorem claims_law {a n k : Int} (_ : (Lit.int .i64 a).wf = true) (_ : (Lit.int .i64 n).wf = true) (_ : (Lit.int .i64 k).wf = true) (hq : ∀ w', Keep (fun b => siz w ≤ b) w w' → Q (.bool true) w') :
    callS Try.prog 4 #[.int .i64 a, .int .i64 n, .int .i64 k] Q w := by
  refine ref4 ?_
  unfold S4
  have out : callS Try.prog 8 #[] Q w := talive_c fun w2 k2 => hq _ k2
  by_cases g1 : a < 0
  · simp only [stp, Nat.reduceAdd, Int.reduceLT, Int.reduceLE, Int.reduceEq, Int.reduceNe, ne_eq, bne_self_eq_false, beq_self_eq_true, stm, g1]; exact out
  by_cases g2 : 1000 < a
  · simp only [stp, Nat.reduceAdd, Int.reduceLT, Int.reduceLE, Int.reduceEq, Int.reduceNe, ne_eq, bne_self_eq_false, beq_self_eq_true, stm, g1, g2]; exact out
  by_cases g3 : n < 2
  · simp only [stp, Nat.reduceAdd, Int.reduceLT, Int.reduceLE, Int.reduceEq, Int.reduceNe, ne_eq, bne_self_eq_false, beq_self_eq_true, stm, g1, g2, g3]; exact out
  by_cases g4 : 100 < n
  · simp only [stp, Nat.reduceAdd, Int.reduceLT, Int.reduceLE, Int.reduceEq, Int.reduceNe, ne_eq, bne_self_eq_false, beq_self_eq_true, stm, g1, g2, g3, g4]; exact out
  by_cases g5 : k < 1
  · simp only [stp, Nat.reduceAdd, Int.reduceLT, Int.reduceLE, Int.reduceEq, Int.reduceNe, ne_eq, bne_self_eq_false, beq_self_eq_true, stm, g1, g2, g3, g4, g5]; exact out
  by_cases g6 : n ≤ k
  · simp only [stp, Nat.reduceAdd, Int.reduceLT, Int.reduceLE, Int.reduceEq, Int.reduceNe, ne_eq, bne_self_eq_false, beq_self_eq_true, stm, g1, g2, g3, g4, g5, g6]; exact out
  simp only [stp, Nat.reduceAdd, Int.reduceLT, Int.reduceLE, Int.reduceEq, Int.reduceNe, ne_eq, bne_self_eq_false, beq_self_eq_true, stm, g1, g2, g3, g4, g5, g6]
  clear out
  have ha : 0 ≤ a := by omega
  refine tnew_c (B := siz w) (nodes := 3) (by omega) (Nat.le_refl _) fun w3 h3 k3 => ?_
  have s3 := k3.size
  have hw1 : IntKind.i64.wrap (a + 1) = a + 1 := wrap_id (by omega) (by omega)
  have hw2 : IntKind.i64.wrap (a + n) = a + n := wrap_id (by omega) (by omega)
  have hw3 : IntKind.i64.wrap (a + k) = a + k := wrap_id (by omega) (by omega)
  have hw4 : IntKind.i64.wrap (a + k + 1) = a + k + 1 := wrap_id (by omega) (by omega)
  have hw5 : IntKind.i64.wrap (a + n - 1) = a + n - 1 := wrap_id (by omega) (by omega)
  simp only [stp, Nat.reduceAdd, Int.reduceLT, Int.reduceLE, Int.reduceEq, Int.reduceNe, ne_eq, bne_self_eq_false, beq_self_eq_true, hw1, hw2, hw3, hw4]
  have hno : ∀ o x, bl (TS.fresh 3) o x = none := bl_fresh 3
  have p3 := h3.pu
  have hone : hasB (a, a + 1) a := (hasB_in ha).2 ⟨by omega, by omega⟩
  have honly : ∀ x, hasB (a, a + 1) x → x = a := fun x hx => by have := (hasB_in ha).1 hx; unfold inR at this; omega
  have hkne : hasB (a + k, a + k + 1) (a + k) := (hasB_in (by omega)).2 ⟨by omega, by omega⟩
  have hknly : ∀ x, hasB (a + k, a + k + 1) x → x = a + k := fun x hx => by have := (hasB_in (by omega)).1 hx; unfold inR at this; omega
  have hall : hasB (a, a + n) a := (hasB_in ha).2 ⟨by omega, by omega⟩
  have hallk : hasB (a, a + n) (a + k) := (hasB_in ha).2 ⟨by omega, by omega⟩
  refine ask_free (i := 1) h3 wsOk_nil (fun k hk => by cases hk) (by show (0 : Int) ≤ 0 ∧ (0 : Int) ≤ 1000000000; omega) (by omega) ⟨by show (1 : Int) ≤ 1 ∧ (1 : Int) ≤ 3; omega, by unfold rightL ok; dsimp only; omega⟩ (fun h => ?_) ((p3.free_nil rfl).2 fun x _ hh => ?_) fun w4 h4 k4 => ?_
  · obtain ⟨v, hv, _⟩ := h a hone
    rw [hno] at hv; cases hv
  · obtain ⟨o, _, _, _, v, hv, _⟩ := hh
    rw [hno] at hv; cases hv
  have p4 := h4.pu
  have e4 : ∀ o x, bl ((TS.fresh 3).raise 1 a (a + 1) 2) o x = if o = 1 ∧ x = a then some 2 else none := fun o x => by
    rw [p3.bl_raise (by omega) ha (by omega), updM_in ha, hno, hno]
    have hx : inR a (a + 1) x ↔ x = a := by unfold inR; omega
    by_cases hx' : x = a
    · have hi := hx.2 hx'
      rw [hx'] at hi ⊢
      by_cases ho : o = 1 <;> simp [ho, hi]
    · by_cases ho : o = 1 <;> simp [ho, hx, hx']
  have f4 : ((TS.fresh 3).raise 1 a (a + 1) 2).nodes = 3 ∧ ((TS.fresh 3).raise 1 a (a + 1) 2).ws = [] ∧ ((TS.fresh 3).raise 1 a (a + 1) 2).last = 0 := ⟨rfl, rfl, rfl⟩
  generalize (TS.fresh 3).raise 1 a (a + 1) 2 = s4 at *
  obtain ⟨n4, ws4, la4⟩ := f4
  have s4' := k4.size
  simp only [stp, Nat.reduceAdd, Int.reduceLT, Int.reduceLE, Int.reduceEq, Int.reduceNe, ne_eq, bne_self_eq_false, beq_self_eq_true]
  refine ask_wait (i := 2) h4 (by rw [ws4]; exact wsOk_nil) (fun k hk => by rw [ws4] at hk; cases hk) (by omega) (by omega) ⟨by omega, by unfold rightL ok; dsimp only; omega⟩ (fun h => ?_) (fun h => ?_) (fun h => ?_) (by rw [ws4]; simp) fun w5 h5 k5 => ?_
  · obtain ⟨v, hv, hc⟩ := h a hall
    rw [e4, if_neg (by omega)] at hv; cases hv
  · refine (p4.free_nil ws4).1 h a hall ⟨1, by omega, by omega, by omega, 2, ?_, by decide⟩
    rw [e4, if_pos ⟨rfl, rfl⟩]
  · obtain ⟨_, q, hq, _⟩ := h
    rw [ws4] at hq; cases hq
  have p5 := h5.pu
  have e5 : ∀ o x, bl (s4.wait 2 a (a + n) 2) o x = if o = 1 ∧ x = a then some 2 else none := e4
  have f5 : (s4.wait 2 a (a + n) 2).nodes = 3 ∧ (s4.wait 2 a (a + n) 2).ws = [(1, 2, a, a + n, 2)] ∧ (s4.wait 2 a (a + n) 2).last = 1 := by
    unfold TS.wait
    dsimp only
    rw [n4, ws4, la4]
    exact ⟨rfl, rfl, rfl⟩
  have f5' : s4.last + 1 = 1 := by omega
  rw [f5']
  generalize s4.wait 2 a (a + n) 2 = s5 at *
  obtain ⟨n5, ws5, la5⟩ := f5
  have rk1 : rightL (a, a + n, 2) := by unfold rightL ok; dsimp only; omega
  have ok5 : WsOk s5.ws := by
    rw [ws5]
    exact ⟨by simp, fun q hq => by simp at hq; subst hq; exact rk1⟩
  have wn5 : WsN s5 := fun q hq => by rw [ws5] at hq; simp at hq; subst hq; dsimp only; omega
  have s5' := k5.size
  -- the first request is hindered at its first block
  have hh5 : hindF s5 [] 2 a (a + n) 2 = a := by
    have h1 : hindF s5 [] 2 a (a + n) 2 ≤ a := hind_mem p5.li hall (.inl ⟨1, by omega, by omega, by omega, 2, by rw [e5, if_pos ⟨rfl, rfl⟩], by decide⟩)
    have h2 := (hind_at p5.li (by omega) (show hindF s5 [] 2 a (a + n) 2 < a + n by omega)).1.2.1
    dsimp only at h2
    omega
  have hcl5 : claimsF s5 s5.ws = [(1, 2, a, a + 1, 2)] := by
    rw [ws5]
    show cl1 s5 [] (1, 2, a, a + n, 2) = _
    unfold cl1
    dsimp only
    rw [hh5, if_pos (by omega)]
    rfl
  simp only [stp, Nat.reduceAdd, Int.reduceLT, Int.reduceLE, Int.reduceEq, Int.reduceNe, ne_eq, bne_self_eq_false, beq_self_eq_true]
  refine ask_free (i := 3) h5 ok5 wn5 (by omega) (by omega) ⟨by omega, by unfold rightL ok; dsimp only; omega⟩ (fun h => ?_) ((free_iff h5).2 fun x hx hh => ?_) fun w6 h6 k6 => ?_
  · obtain ⟨v, hv, _⟩ := h (a + k) hkne
    rw [e5, if_neg (by omega)] at hv; cases hv
  · have hx := hknly x hx
    subst hx
    rcases hh with ⟨o, _, _, _, v, hv, hf⟩ | hh
    · rw [e5, if_neg (by omega)] at hv; cases hv
    · rw [hcl5] at hh
      obtain ⟨q, hq, _, _, hqx⟩ := hh
      simp at hq
      subst hq
      have := honly _ hqx
      omega
  have p6 := h6.pu
  have e6 : ∀ o x, bl (s5.raise 3 (a + k) (a + k + 1) 2) o x = if (o = 1 ∧ x = a) ∨ (o = 3 ∧ x = a + k) then some 2 else none := fun o x => by
    rw [p5.bl_raise (by omega) (by omega) (by omega), updM_in (by omega), e5, e5]
    have hx : inR (a + k) (a + k + 1) x ↔ x = a + k := by unfold inR; omega
    by_cases ho : o = 3
    · subst ho
      by_cases hx' : x = a + k
      · have hi := hx.2 hx'
        rw [hx'] at hi ⊢
        simp [hi]
      · simp [hx, hx']
    · simp [ho]
  have f6 : (s5.raise 3 (a + k) (a + k + 1) 2).nodes = 3 ∧ (s5.raise 3 (a + k) (a + k + 1) 2).ws = [(1, 2, a, a + n, 2)] ∧ (s5.raise 3 (a + k) (a + k + 1) 2).last = 1 := ⟨n5, ws5, la5⟩
  generalize s5.raise 3 (a + k) (a + k + 1) 2 = s6 at *
  obtain ⟨n6, ws6, la6⟩ := f6
  have ok6 : WsOk s6.ws := by rw [ws6, ← ws5]; exact ok5
  have wn6 : WsN s6 := fun q hq => by rw [ws6] at hq; simp at hq; subst hq; dsimp only; omega
  have s6' := k6.size
  simp only [stp, Nat.reduceAdd, Int.reduceLT, Int.reduceLE, Int.reduceEq, Int.reduceNe, ne_eq, bne_self_eq_false, beq_self_eq_true]
  refine ask_wait (i := 3) h6 ok6 wn6 (by omega) (by omega) ⟨by omega, by unfold rightL ok; dsimp only; omega⟩ (fun h => ?_) (fun h => ?_) (fun h => absurd h.1 (by omega)) (by rw [ws6]; simp) fun w7 h7 k7 => ?_
  · obtain ⟨v, hv, _⟩ := h a hone
    rw [e6, if_neg (by omega)] at hv; cases hv
  · refine (free_iff h6).1 h a hone (.inl ⟨1, by omega, by omega, by omega, 2, ?_, by decide⟩)
    rw [e6, if_pos (.inl ⟨rfl, rfl⟩)]
  have p7 := h7.pu
  have e7 : ∀ o x, bl (s6.wait 3 a (a + 1) 1) o x = if (o = 1 ∧ x = a) ∨ (o = 3 ∧ x = a + k) then some 2 else none := e6
  have f7 : (s6.wait 3 a (a + 1) 1).nodes = 3 ∧ (s6.wait 3 a (a + 1) 1).ws = [(1, 2, a, a + n, 2), (2, 3, a, a + 1, 1)] ∧ (s6.wait 3 a (a + 1) 1).last = 2 := by
    unfold TS.wait
    dsimp only
    rw [n6, ws6, la6]
    exact ⟨rfl, rfl, rfl⟩
  generalize s6.wait 3 a (a + 1) 1 = s7 at *
  obtain ⟨n7, ws7, la7⟩ := f7
  have rk2 : rightL (a, a + 1, 1) := by unfold rightL ok; dsimp only; omega
  have okW : ∀ s : TS, s.ws = [(1, 2, a, a + n, 2), (2, 3, a, a + 1, 1)] → WsOk s.ws := fun s hs => by
    rw [hs]
    refine ⟨by simp, fun q hq => ?_⟩
    simp at hq
    rcases hq with rfl | rfl
    · exact rk1
    · exact rk2
  have wnW : ∀ s : TS, s.ws = [(1, 2, a, a + n, 2), (2, 3, a, a + 1, 1)] → s.nodes = 3 → WsN s := fun s hs hn q hq => by
    rw [hs] at hq
    simp at hq
    rcases hq with rfl | rfl <;> (dsimp only; omega)
  have s7' := k7.size
  simp only [stp, Nat.reduceAdd, Int.reduceLT, Int.reduceLE, Int.reduceEq, Int.reduceNe, ne_eq, bne_self_eq_false, beq_self_eq_true]
  refine release_c h7 (okW _ ws7) (wnW _ ws7 n7) (by omega) (fun w8 g _ => absurd ⟨by omega, by unfold ok; dsimp only; omega, .inl rfl⟩ g) fun w8 v8 i ei hi1 hi2 _ _ h8 o8 k8 => ?_
  have hi : i = 1 := by omega
  subst hi
  have p8 := p7.release (i := 1) (a := a) (b := a + 1) (keep := 0) (by omega)
  have e8 : ∀ o x, bl (s7.release 1 a (a + 1) 0) o x = if o = 3 ∧ x = a + k then some 2 else none := fun o x => by
    rw [p7.bl_release (by omega), relF_in ha, e7, e7]
    have hx : inR a (a + 1) x ↔ x = a := by unfold inR; omega
    by_cases ho : o = 1
    · subst ho
      by_cases hx' : x = a
      · have hi := hx.2 hx'
        rw [hx'] at hi ⊢
        simp [hi, relV]
      · simp [hx, hx']
    · simp [ho]
  have f8 : (s7.release 1 a (a + 1) 0).nodes = 3 ∧ (s7.release 1 a (a + 1) 0).ws = [(1, 2, a, a + n, 2), (2, 3, a, a + 1, 1)] := ⟨n7, ws7⟩
  generalize s7.release 1 a (a + 1) 0 = s8 at *
  obtain ⟨n8, ws8⟩ := f8
  have hh8 : hindF s8 [] 2 a (a + n) 2 < a + n := by
    have := hind_mem (A := []) p8.li hallk (.inl (show HxN s8 2 2 (a + k) from ⟨3, by omega, by omega, by omega, 2, by rw [e8, if_pos ⟨rfl, rfl⟩], by decide⟩))
    omega
  have hat8 := (hind_at p8.li (by omega) hh8).1
  generalize hz : hindF s8 [] 2 a (a + n) 2 = z at *
  have hz2 : hindF s8 [(1, 2, a, z + 1, 2)] 3 a (a + 1) 1 < a + 1 := by
    have hz1 := hat8.2.1
    dsimp only at hz1
    have := hind_mem (A := [(1, 2, a, z + 1, 2)]) p8.li hone (.inr (show HxA [(1, 2, a, z + 1, 2)] 3 1 a from ⟨_, List.mem_singleton.2 rfl, by show (2 : Int) ≠ 3; decide, by show ¬ fitP 2 1; decide, (hasB_in ha).2 ⟨Int.le_refl _, by show a < z + 1; omega⟩⟩))
    omega
  have hg8 : s8.granted = s8 ∧ grantOut s8 = [] := by
    have hg : grantG s8 s8.ws = (s8, [(1, 2, a, a + n, 2), (2, 3, a, a + 1, 1)], [(1, 2, a, z + 1, 2), claimOf (2, 3, a, a + 1, 1) (hindF s8 [(1, 2, a, z + 1, 2)] 3 a (a + 1) 1)], []) := by
      rw [ws8]
      show gr1 (gr1 (s8, [], [], []) (1, 2, a, a + n, 2)) (2, 3, a, a + 1, 1) = _
      have e1 : gr1 (s8, [], [], []) (1, 2, a, a + n, 2) = (s8, [(1, 2, a, a + n, 2)], [(1, 2, a, z + 1, 2)], []) := by
        unfold gr1
        dsimp only
        rw [hz, if_pos hh8]
        rfl
      rw [e1]
      unfold gr1
      dsimp only
      rw [if_pos hz2]
      rfl
    unfold TS.granted grantOut
    rw [hg]
    refine ⟨?_, rfl⟩
    dsimp only
    rw [← ws8]
  rw [hg8.1] at h8
  rw [hg8.2] at o8
  obtain ⟨p8', c8, rfl⟩ := o8.form
  have s8' := k8.size
  simp only [stp, Nat.reduceAdd, Int.reduceLT, Int.reduceLE, Int.reduceEq, Int.reduceNe, ne_eq, bne_self_eq_false, beq_self_eq_true]
  refine release_c h8 (okW _ ws8) (wnW _ ws8 n8) (by omega) (fun w8 g _ => absurd ⟨by omega, by unfold ok; dsimp only; omega, .inl rfl⟩ g) fun w9 v9 i ei hi1 hi2 _ _ h9 o9 k9 => ?_
  have hi : i = 3 := by omega
  subst hi
  have p9 := p8.release (i := 3) (a := a + k) (b := a + k + 1) (keep := 0) (by omega)
  have e9 : ∀ o x, bl (s8.release 3 (a + k) (a + k + 1) 0) o x = none := fun o x => by
    rw [p8.bl_release (by omega), relF_in (by omega), e8, e8]
    have hx : inR (a + k) (a + k + 1) x ↔ x = a + k := by unfold inR; omega
    by_cases ho : o = 3
    · subst ho
      by_cases hx' : x = a + k
      · have hi := hx.2 hx'
        rw [hx'] at hi ⊢
        simp [hi, relV]
      · simp [hx, hx']
    · simp [ho]
  have f9 : (s8.release 3 (a + k) (a + k + 1) 0).nodes = 3 ∧ (s8.release 3 (a + k) (a + k + 1) 0).ws = [(1, 2, a, a + n, 2), (2, 3, a, a + 1, 1)] := ⟨n8, ws8⟩
  generalize s8.release 3 (a + k) (a + k + 1) 0 = s9 at *
  obtain ⟨n9, ws9⟩ := f9
  have hf9 : ¬ hindF s9 [] 2 a (a + n) 2 < a + n := p9.free.2 fun x hx hh => by
    rcases hh with ⟨o, _, _, ho, v, hv, hf⟩ | hh
    · rw [e9] at hv; cases hv
    · exact hxA_nil _ _ _ hh
  have p10 := p9.raise (i := 2) (a := a) (b := a + n) (md := 2) (by omega) ha (by omega)
  have e10 : ∀ o x, bl (s9.raise 2 a (a + n) 2) o x = if o = 2 ∧ inR a (a + n) x then some 2 else none := fun o x => by
    rw [p9.bl_raise (by omega) ha (by omega), updM_in ha, e9, e9]
    by_cases ho : o = 2 <;> by_cases hx : inR a (a + n) x <;> simp [ho, hx]
  have n10 : (s9.raise 2 a (a + n) 2).nodes = 3 := n9
  have hf10 : hindF (s9.raise 2 a (a + n) 2) [] 3 a (a + 1) 1 < a + 1 := by
    have := hind_mem (A := []) p10.li hone (.inl (show HxN (s9.raise 2 a (a + n) 2) 3 1 a from ⟨2, by omega, by omega, by omega, 2, by rw [e10, if_pos ⟨rfl, ⟨by omega, by omega⟩⟩], by decide⟩))
    omega
  have hg9 : s9.granted = { s9.raise 2 a (a + n) 2 with ws := [(2, 3, a, a + 1, 1)] } ∧ grantOut s9 = [(1, 2, a, a + n, 2)] := by
    have hg : grantG s9 s9.ws = (s9.raise 2 a (a + n) 2, [(2, 3, a, a + 1, 1)], [claimOf (2, 3, a, a + 1, 1) (hindF (s9.raise 2 a (a + n) 2) [] 3 a (a + 1) 1)], [(1, 2, a, a + n, 2)]) := by
      rw [ws9]
      show gr1 (gr1 (s9, [], [], []) (1, 2, a, a + n, 2)) (2, 3, a, a + 1, 1) = _
      have e1 : gr1 (s9, [], [], []) (1, 2, a, a + n, 2) = (s9.raise 2 a (a + n) 2, [], [], [(1, 2, a, a + n, 2)]) := by
        unfold gr1
        dsimp only
        rw [if_neg hf9]
        rfl
      rw [e1]
      unfold gr1
      dsimp only
      rw [if_pos hf10]
      rfl
    unfold TS.granted grantOut
    rw [hg]
    exact ⟨rfl, rfl⟩
  have e11 : ∀ o x, bl s9.granted o x = if o = 2 ∧ inR a (a + n) x then some 2 else none := fun o x => by
    rw [hg9.1]
    exact e10 o x
  have n11 : s9.granted.nodes = 3 := by rw [granted_nodes, n9]
  rw [hg9.2] at o9
  obtain ⟨g9, c9, rfl, z0, _⟩ := wait_row o9 (i := 0) (by simp)
  simp only [stp, Nat.reduceAdd, Int.reduceLT, Int.reduceLE, Int.reduceEq, Int.reduceNe, ne_eq, bne_self_eq_false, beq_self_eq_true]
  refine talive_c fun wA kA => ?_
  have kA : K0 w9 wA := kA.old'
  have z0 : cel wA g9 0 = some (.int .i64 1) := kA.cel (by simpa using z0) (by exact fun h => h)
  have hA := h9.keep0 kA
  have x9 : ∀ k, pur Try.prog (Instr.indexAt 32 (.slice (some ⟨g9, 0, none⟩) 1 c9) (.int .i64 0)) k = k (.pointer (some ⟨g9, 0, none⟩)) := fun k => ix_32 (i := 0) (by omega)
  simp only [stp, Nat.reduceAdd, Int.reduceLT, Int.reduceLE, Int.reduceEq, Int.reduceNe, ne_eq, bne_self_eq_false, beq_self_eq_true, stm, List.length_singleton, List.length_cons, List.length_nil, Int.ofNat_one, Int.natCast_one, Int.natCast_zero, Int.ofNat_zero, x9, z0, hw2, hw5]
  refine tmode_bl (i := 2) hA (by omega) (by omega) fun wB kB => ?_
  rw [e11, if_pos ⟨rfl, ⟨by omega, by omega⟩⟩]
  simp only [stp, Nat.reduceAdd, Int.reduceLT, Int.reduceLE, Int.reduceEq, Int.reduceNe, ne_eq, bne_self_eq_false, beq_self_eq_true, stm]
  have kk := ((((k4.trans k5).trans k6).trans k7).trans k8).trans k9
  exact hq _ (((Keep.new k3).trans (kk.below (Nat.le_refl _))).trans ((kA.trans kB).none))
end
end Go.Proofs.Ytiomanikpboclaa
