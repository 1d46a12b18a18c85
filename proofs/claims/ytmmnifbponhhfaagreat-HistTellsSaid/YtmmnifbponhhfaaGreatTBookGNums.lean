/- The book of lists, one kind: one more list. Conditions: as each says. -/
import Derived.Test.YtmmnifbponhhfaaGreatTBookMNums
set_option linter.unusedSimpArgs false
set_option linter.unusedVariables false
namespace Go.Proofs.YtmmnifbponhhfaaGreatT.BkNums
open Go.Sh Go.Proofs.YtmmnifbponhhfaaGreatT
set_option maxRecDepth 100000
section
variable {w w' : World} {Q : Value → World → Prop} {b B : Nat} {f : Nat → Value} {ps qs : List (Value × List Int)}
theorem add_c {l : Value} {xs : List Int} (hb : BkC tBk w b f) (h : KsX w B f ps qs) (hB : B ≤ siz w) (hl : Own w B 64 1 l xs.length (flat enc xs)) (hx : xs.length ≤ 100000) (h1l : Go.Sh.one l = true) (hf : ∀ g, l.ownBlock = some g → ¬ kft (f 4) (f 5) ps qs g)
    (hq : ∀ w' f' ps' qs', BkC tBk w' b f' → (∀ o, o ≠ 4 → o ≠ 5 → f' o = f o) → KsX w' B f' ps' qs' → (∀ g, kft (f' 4) (f' 5) ps' qs' g → kft (f 4) (f 5) ps qs g ∨ l.ownBlock = some g ∨ siz w ≤ g) →
      Keep (fun g => g = b ∨ (f 4).ownBlock = some g ∨ (f 5).ownBlock = some g) w w' → Q (.tuple #[]) w') :
    callS Tryz.prog 10 #[.pointer (some ⟨b, 0, none⟩), l] Q w := by
  refine ref10 ?_
  unfold S10
  have hlen := h.len
  have cF := hb.cel (o := 4) (by decide)
  have cG := hb.cel (o := 5) (by decide)
  obtain ⟨pF, kF, eF⟩ := h.p.rd.form
  rw [eF] at cF
  by_cases hlt : ps.length < 250
  · have hlt' : ((ps.length : Int) < 250) := by omega
    obtain ⟨pG, kG, eG⟩ := h.q.rd.form
    rw [eG] at cG
    have hrow := h.p.row
    rw [eF] at hrow
    have hrowG := h.q.row
    rw [eG] at hrowG
    have nF : ∀ g, (Value.slice pF ps.length kF).ownBlock = some g → g ≠ b := fun g hg e => by
      obtain ⟨_, cs, hc⟩ := hrow.ty hg
      rw [e, hb] at hc; injection hc with hc; injection hc with _ hc; cases hc
    have nG : ∀ g, (Value.slice pG qs.length kG).ownBlock = some g → g ≠ b := fun g hg e => by
      obtain ⟨_, cs, hc⟩ := hrowG.ty hg
      rw [e, hb] at hc; injection hc with hc; injection hc with _ hc; cases hc
    have nL : ∀ g, l.ownBlock = some g → g ≠ b := fun g hg e => by
      obtain ⟨_, cs, hc⟩ := hl.ty hg
      rw [e, hb] at hc; injection hc with hc; injection hc with _ hc; cases hc
    have nFL : ∀ g, l.ownBlock = some g → ¬ (Value.slice pF ps.length kF).ownBlock = some g := fun g hg e => by
      obtain ⟨_, cs, hc⟩ := hl.ty hg
      obtain ⟨_, cs', hc'⟩ := hrow.ty e
      rw [hc'] at hc; injection hc with hc; injection hc with _ hc; cases hc
    simp only [stp, Nat.reduceAdd, Int.reduceLT, Int.reduceLE, Int.reduceEq, Int.reduceNe, ne_eq, bne_self_eq_false, beq_self_eq_true, stm, cF, hlt', h1l, Option.isSome_some, Option.getD_some]
    refine pu_29 hrow (fun u hu => by rw [List.mem_singleton.1 hu]; exact h1l) (by omega) hB fun v1 w1 o1 k1 r1 => ?_
    obtain ⟨p1, c1, rfl⟩ := o1.form
    have hb1 : BkC tBk w1 b f := hb.keep k1 fun e => nF _ e rfl
    have i1 : (Sh.cel w1 b 4).isSome = true := by rw [hb1.cel (by decide)]; rfl
    simp only [stp, Nat.reduceAdd, Int.reduceLT, Int.reduceLE, Int.reduceEq, Int.reduceNe, ne_eq, bne_self_eq_false, beq_self_eq_true, stm, i1, hb1.fre, Option.isSome_some, Option.getD_some]
    have hb2 := hb1.set (o := 4) (by decide) (.slice p1 (ps.length + 1) c1)
    have k2 : Keep (fun g => g = b) w1 (sto w1 b 4 (.slice p1 (ps.length + 1) c1)) := (Keep.refl (fun g => g = b) w1).sto (.inl rfl) _ _
    generalize sto w1 b 4 (.slice p1 (ps.length + 1) c1) = w2 at hb2 k2
    have s1 := k1.size
    have s2 := k2.size
    have k02 : Keep (fun g => g = b ∨ (f 4).ownBlock = some g ∨ (f 5).ownBlock = some g) w w2 := by
      refine (k1.mono fun g _ e => .inr (.inl ?_)).trans' k2 fun g _ e => .inl e
      rw [eF]; exact e
    have o2 : Own w2 B 23 1 (.slice p1 (ps.length + 1) c1) (ps.length + 1) (ps.map (·.1) ++ [l]) := o1.keep k2 fun g hg e => by
      subst e
      rcases r1 _ hg with h1 | h1
      · exact nF _ h1 rfl
      · have := hb.lt; omega
    have nk : ∀ g, fts (f 4) ps g ∨ fts (f 5) qs g → g ≠ b := fun g hg e => by
      rcases hg with (hg | ⟨p, hp, hg⟩) | (hg | ⟨p, hp, hg⟩)
      · rw [eF] at hg; exact nF _ hg e
      · obtain ⟨_, cs, hc⟩ := (h.p.each p hp).ty hg
        rw [e, hb] at hc; injection hc with hc; injection hc with _ hc; cases hc
      · rw [eG] at hg; exact nG _ hg e
      · obtain ⟨_, cs, hc⟩ := (h.q.each p hp).ty hg
        rw [e, hb] at hc; injection hc with hc; injection hc with _ hc; cases hc
    have eachF : ∀ p ∈ ps, ∀ g, p.1.ownBlock = some g → ¬ (Value.slice pF ps.length kF).ownBlock = some g := fun p hp g hg e => by
      obtain ⟨_, cs, hc⟩ := (h.p.each p hp).ty hg
      obtain ⟨_, cs', hc'⟩ := hrow.ty e
      rw [hc'] at hc; injection hc with hc; injection hc with _ hc; cases hc
    have hP2 : Shf w2 B 23 64 1 enc (.slice p1 (ps.length + 1) c1) (ps ++ [(l, xs)]) := by
      refine ⟨by simpa using o2, fun p hp => ?_, ?_⟩
      · rcases List.mem_append.1 hp with hp | hp
        · exact ((h.p.each p hp).keep k1 fun g hg e => eachF p hp g hg e).keep k2 fun g hg e => nk g (.inl (.inr ⟨p, hp, hg⟩)) e
        · rw [List.mem_singleton.1 hp]
          exact (hl.keep k1 fun g hg e => nFL g hg e).keep k2 fun g hg e => nL g hg e
      · rw [List.pairwise_append]
        refine ⟨h.p.apart, List.pairwise_singleton _ _, fun p hp q hq g hg hg' => ?_⟩
        rw [List.mem_singleton.1 hq] at hg'
        exact hf g hg' (.inl (.inr ⟨p, hp, hg⟩))
    have nFG : ∀ g, fts (f 5) qs g → ¬ (Value.slice pF ps.length kF).ownBlock = some g := fun g hg e => by
      rcases hg with hg | ⟨p, hp, hg⟩
      · exact h.ne g (by rw [eF]; exact e) hg
      · obtain ⟨_, cs, hc⟩ := (h.q.each p hp).ty hg
        obtain ⟨_, cs', hc'⟩ := hrow.ty e
        rw [hc'] at hc; injection hc with hc; injection hc with _ hc; cases hc
    have hQ2 : Shf w2 B 23 64 1 enc (f 5) qs := (h.q.keep k1 fun g hg e => nFG g hg e).keep k2 fun g hg e => nk g (.inr hg) e
    have hf2 : ∀ g, fts (.slice p1 (ps.length + 1) c1) (ps ++ [(l, xs)]) g → kft (f 4) (f 5) ps qs g ∨ l.ownBlock = some g ∨ siz w ≤ g := fun g hg => by
      rcases fts_add (w := w) (v := f 4) (v' := .slice p1 (ps.length + 1) c1) hg (fun g hg => by rw [eF]; exact r1 g hg) with h | h | h
      · exact .inl (.inl h)
      · exact .inr (.inl h)
      · exact .inr (.inr h)
    refine jn0 (fun w' => ∃ f' ps' qs', BkC tBk w' b f' ∧ (∀ o, o ≠ 4 → o ≠ 5 → f' o = f o) ∧ KsX w' B f' ps' qs' ∧ (∀ g, kft (f' 4) (f' 5) ps' qs' g → kft (f 4) (f 5) ps qs g ∨ l.ownBlock = some g ∨ siz w ≤ g) ∧
      Keep (fun g => g = b ∨ (f 4).ownBlock = some g ∨ (f 5).ownBlock = some g) w w') (fun J hJ => ?_) (fun w' ⟨f', ps', qs', a1, a2, a3, a4, a5⟩ _j => hq w' f' ps' qs' a1 a2 a3 a4 a5)
    have lr : ∀ {u}, K0 w2.drew u → Rd 1 u l xs.length (flat enc xs) := fun {u} k => by
      have := hP2.each (l, xs) (by simp)
      exact (this.keep ((K0.refl w2).drew.trans k) fun _ _ => id).rd
    have gG : ∀ {u}, K0 w2.drew u → Sh.cel u b 5 = some (.slice pG qs.length kG) := fun {u} k => by
      have := (hb2.keep ((K0.refl w2).drew.trans k) id).cel (o := 5) (by decide)
      rw [bupd_ne _ (by decide), eG] at this
      exact this
    have gG2 := gG (K0.refl _)
    have tail : ∀ {w5 : World} {c : Value}, K0 w2.drew w5 → Own w5 (siz w2) 64 1 c xs.length (flat enc xs) → Go.Sh.one c = true → act Tryz.prog (Builtin.append_ #[29, 29] 29 #[.slice pG qs.length kG, .slice (some ⟨siz w5, 0, none⟩) 1 1])
        (fun t28 w_6 => act Tryz.prog (thenU (Instr.storeAt 29 (.pointer (some ⟨b, 5, none⟩)) t28)) (fun _ w_7 => J w_7) w_6) (w5.alloc (.cells #[c] 23)) := fun {w5 c} k5 oc h1c => by
      have k25 := (K0.refl w2).drew.trans k5
      have s5 := k25.size
      have hb5 := hb2.keep k25 id
      have hQ5 := hQ2.keep0 k25
      have hP5 := hP2.keep0 k25
      have hr5 := hQ5.row
      rw [eG] at hr5
      refine pu_29 hr5 (fun u hu => by rw [List.mem_singleton.1 hu]; exact h1c) (by omega) (by omega) fun v6 w6 o6 k6 r6 => ?_
      obtain ⟨p6, c6, rfl⟩ := o6.form
      have hb6 := hb5.keep k6 fun e => nG _ e rfl
      have i6 : (Sh.cel w6 b 5).isSome = true := by rw [hb6.cel (by decide)]; rfl
      rw [st_29 one_slice i6 hb6.fre]
      have hb7 := hb6.set (o := 5) (by decide) (.slice p6 (qs.length + 1) c6)
      have k7 : Keep (fun g => g = b) w6 (sto w6 b 5 (.slice p6 (qs.length + 1) c6)) := (Keep.refl (fun g => g = b) w6).sto (.inl rfl) _ _
      generalize sto w6 b 5 (.slice p6 (qs.length + 1) c6) = w7 at hb7 k7
      have eqG : ∀ {p : Value × List Int}, Own w5 B 64 1 p.1 p.2.length (flat enc p.2) → (∀ g, p.1.ownBlock = some g → g ≠ b) → Own w7 B 64 1 p.1 p.2.length (flat enc p.2) := fun {p} ho hn =>
        (ho.keep k6 fun g hg e => by
          obtain ⟨_, cs, hc⟩ := ho.ty hg
          obtain ⟨_, cs', hc'⟩ := hr5.ty e
          rw [hc'] at hc; injection hc with hc; injection hc with _ hc; cases hc).keep k7 hn
      have nb5 : ∀ {p : Value × List Int}, Own w5 B 64 1 p.1 p.2.length (flat enc p.2) → ∀ g, p.1.ownBlock = some g → g ≠ b := fun {p} ho g hg e => by
        obtain ⟨_, cs, hc⟩ := ho.ty hg
        rw [e, hb5] at hc; injection hc with hc; injection hc with _ hc; cases hc
      have hocB : Own w5 B 64 1 c xs.length (flat enc xs) := oc.le (by omega)
      have s6 := k6.size
      refine hJ w7 ⟨_, ps ++ [(l, xs)], qs ++ [(c, xs)], hb7, fun o h1 h2 => by rw [bupd_ne _ h2, bupd_ne _ h1], ⟨?_, ?_, ?_, ?_, ?_, ?_⟩, ?_, ?_⟩
      · rw [bupd_ne _ (by decide), bupd_same]
        refine ⟨?_, fun p hp => eqG (hP5.each p hp) (nb5 (hP5.each p hp)), hP5.apart⟩
        refine (hP5.row.keep k6 fun g hg e => ?_).keep k7 fun g hg e => ?_
        · rcases r1 g hg with h1 | h1
          · exact h.ne g (by rw [eF]; exact h1) (by rw [eG]; exact e)
          · have := (hrowG.lt e).2; omega
        · obtain ⟨_, cs, hc⟩ := hP5.row.ty hg
          have e : g = b := e
          rw [e, hb5] at hc; injection hc with hc; injection hc with _ hc; cases hc
      · rw [bupd_same]
        refine ⟨?_, fun p hp => ?_, ?_⟩
        · have : Own w7 B 23 1 (.slice p6 (qs.length + 1) c6) (qs.length + 1) (qs.map (·.1) ++ [c]) := o6.keep k7 fun g hg e => by
            have e : g = b := e
            rcases r6 g hg with h1 | h1
            · exact nG _ h1 e
            · have := hb5.lt; omega
          simpa using this
        · rcases List.mem_append.1 hp with hp | hp
          · exact eqG (hQ5.each p hp) (nb5 (hQ5.each p hp))
          · rw [List.mem_singleton.1 hp]; exact eqG (p := (c, xs)) hocB (nb5 (p := (c, xs)) hocB)
        · rw [List.pairwise_append]
          refine ⟨h.q.apart, List.pairwise_singleton _ _, fun p hp q hq g hg hg' => ?_⟩
          rw [List.mem_singleton.1 hq] at hg'
          have h1 := (oc.lt hg').1
          have h2 := ((h.q.each p hp).lt hg).2
          omega
      · rw [bupd_ne _ (by decide), bupd_same, bupd_same]
        intro g hg hg'
        rcases r1 g hg with h1 | h1
        · rcases r6 g hg' with h2 | h2
          · exact h.ne g (by rw [eF]; exact h1) (by rw [eG]; exact h2)
          · have := (hrow.lt h1).2; omega
        · rcases r6 g hg' with h2 | h2
          · have := (hrowG.lt h2).2; omega
          · have h3 : g < siz w2 := (o2.lt hg).2
            omega
      · rw [List.map_append, List.map_append, h.same]; rfl
      · rw [List.length_append, List.length_singleton]; omega
      · intro p hp
        rcases List.mem_append.1 hp with hp | hp
        · exact h.bd p hp
        · rw [List.mem_singleton.1 hp]; exact hx
      · rw [bupd_ne _ (by decide), bupd_same, bupd_same]
        intro g hg
        rcases hg with hg | hg
        · exact hf2 g hg
        · rcases hg with hg | ⟨p, hp, hg⟩
          · rcases r6 g hg with h1 | h1
            · exact .inl (.inr (.inl (by rw [eG]; exact h1)))
            · exact .inr (.inr (by omega))
          · rcases List.mem_append.1 hp with hp | hp
            · exact .inl (.inr (.inr ⟨p, hp, hg⟩))
            · rw [List.mem_singleton.1 hp] at hg
              exact .inr (.inr (by have := (oc.lt hg).1; omega))
      · refine ((k02.trans k25.none).trans' k6 fun g _ e => .inr (.inr ?_)).trans' k7 fun g _ e => .inl e
        rw [eG]; exact e
    have sd : siz w2.drew = siz w2 := rfl
    refine ⟨?_, ?_⟩
    · simp only [stp, Nat.reduceAdd, Int.reduceLT, Int.reduceLE, Int.reduceEq, Int.reduceNe, ne_eq, bne_self_eq_false, beq_self_eq_true, stm, cel_drew, gG2, Option.isSome_some, Option.getD_some]
      refine copy_c (lr (K0.refl _)) (by omega) fun w5 c oc k5 => ?_
      obtain ⟨pc, cc, rfl⟩ := oc.form
      simp only [stp, Nat.reduceAdd, Int.reduceLT, Int.reduceLE, Int.reduceEq, Int.reduceNe, ne_eq, bne_self_eq_false, beq_self_eq_true, stm]
      exact tail k5 oc one_slice
    · refine copy_c (lr (K0.refl _)) (by omega) fun w5 c oc k5 => ?_
      obtain ⟨pc, cc, rfl⟩ := oc.form
      have g5 := gG k5
      refine ⟨?_, ?_⟩
      · simp only [stp, Nat.reduceAdd, Int.reduceLT, Int.reduceLE, Int.reduceEq, Int.reduceNe, ne_eq, bne_self_eq_false, beq_self_eq_true, stm, g5, Option.isSome_some, Option.getD_some]
        exact tail k5 oc one_slice
      · simp only [stp, Nat.reduceAdd, Int.reduceLT, Int.reduceLE, Int.reduceEq, Int.reduceNe, ne_eq, bne_self_eq_false, beq_self_eq_true, stm]
        have g5' : Sh.cel (w5.alloc (.cells #[.slice pc xs.length cc] 23)) b 5 = some (.slice pG qs.length kG) := gG (k5.alloc _)
        simp only [stp, Nat.reduceAdd, Int.reduceLT, Int.reduceLE, Int.reduceEq, Int.reduceNe, ne_eq, bne_self_eq_false, beq_self_eq_true, stm, g5', Option.isSome_some, Option.getD_some]
        exact tail k5 oc one_slice
  · have hlt' : ¬ ((ps.length : Int) < 250) := by omega
    simp only [stp, Nat.reduceAdd, Int.reduceLT, Int.reduceLE, Int.reduceEq, Int.reduceNe, ne_eq, bne_self_eq_false, beq_self_eq_true, stm, cF, hlt', Option.isSome_some, Option.getD_some]
    exact hq _ f ps qs hb (fun _ _ _ => rfl) h (fun g hg => .inl hg) (Keep.refl _ _)
theorem addKO (hb : BkC tBk w b f) (hBb : B ≤ b) (h : KsX w B f ps qs) (k : Keep (fun g => g = b ∨ (f 4).ownBlock = some g ∨ (f 5).ownBlock = some g) w w') : KO B (tys [tBk, 23]) w w' := KO.ofB k fun g hg => by
  rcases hg with rfl | hg | hg
  · exact ⟨hBb, _, hb, rfl⟩
  · obtain ⟨hB, cs, hc⟩ := h.p.row.ty hg
    exact ⟨hB, _, hc, rfl⟩
  · obtain ⟨hB, cs, hc⟩ := h.q.row.ty hg
    exact ⟨hB, _, hc, rfl⟩
end
end Go.Proofs.YtmmnifbponhhfaaGreatT.BkNums
