/- The book of lists, one kind: lists that grow; are all marked? Conditions: as each says. -/
import Derived.Test.YtmmnifbponhhfaaGreatTBookGNums
set_option linter.unusedSimpArgs false
set_option linter.unusedVariables false
namespace Go.Proofs.YtmmnifbponhhfaaGreatT.BkNums
open Go.Sh Go.Proofs.YtmmnifbponhhfaaGreatT
set_option maxRecDepth 100000
section
variable {w w' : World} {Q : Value → World → Prop} {b B : Nat} {f : Nat → Value} {ps qs : List (Value × List Int)}
/-- Each list has its marks. -/
def Mk (os : List (Value × List Int)) : Prop := ∀ i (h : i < os.length), os[i].2 = mks i 0 os[i].2.length
theorem mpx_mk : Mk (mpx ps.length ps) := fun i h => by
  rw [mpx_len] at h
  rw [mpx_get h, if_pos h]
  dsimp only
  rw [mks_len]
theorem mpx_bd {i M : Nat} (h : ∀ p ∈ ps, p.2.length ≤ M) : ∀ p ∈ mpx i ps, p.2.length ≤ M := fun p hp => by
  obtain ⟨j, hj, rfl⟩ := List.getElem_of_mem hp
  rw [mpx_len] at hj
  rw [mpx_get hj]
  dsimp only
  split
  · rw [mks_len]; exact h _ (List.getElem_mem hj)
  · exact h _ (List.getElem_mem hj)
theorem marked_c {v : Value} {os : List (Value × List Int)} (h : Shr w B 23 64 1 enc v os) (hm : Mk os) (hle : os.length ≤ 250) (hbd : ∀ p ∈ os, p.2.length ≤ 200000) (hq : ∀ w', K0 w w' → Q (.bool true) w') :
    callS Tryz.prog 84 #[v] Q w := by
  refine ref84 ?_
  unfold S84
  obtain ⟨pv, cv, rfl⟩ := h.form
  refine lpc1 os.length (by omega) (fun i w' => K0 w w') (K0.refl _) (fun i w1 hi k1 J hJ => ?_) (fun w1 k1 J => ?_)
  · intro _j
    have hi' : ((i : Int) < (os.length : Int)) := by omega
    have h1 := h.keep0 k1.drew
    obtain ⟨g, o, c, e, hc⟩ := h1.at hi
    injection e with e1 _ e2
    subst e1 e2
    have ho := (h1.each _ (List.getElem_mem hi)).1
    obtain ⟨pa, ca, hform⟩ := ho.form
    have hli := hbd _ (List.getElem_mem hi)
    rw [hform] at hc
    simp only [stp, Nat.reduceAdd, Int.reduceLT, Int.reduceLE, Int.reduceEq, Int.reduceNe, ne_eq, bne_self_eq_false, beq_self_eq_true, hi']
    refine ⟨fun w' => K0 w1.drew w', K0.refl _, ?_⟩
    have hS : ∀ u, K0 w1.drew u → Sh.cel u g (o + i) = some (.slice pa os[i].2.length ca) := fun u k => k.cel hc id
    rw [ix_29 hi]
    refine hld_of (.slice pa os[i].2.length ca) (fun u hu => rl_23 (hS u hu)) ?_
    rw [ix_29 hi]
    refine hld_of (.slice pa os[i].2.length ca) (fun u hu => rl_23 (hS u hu)) ?_
    simp only [stp, Nat.reduceAdd, Int.reduceLT, Int.reduceLE, Int.reduceEq, Int.reduceNe, ne_eq, bne_self_eq_false, beq_self_eq_true]
    rw [show (Value.int .i64 (0 : Int)) = .int .i64 ((0 : Nat) : Int) from rfl]
    refine mark_c (from_ := 0) (by omega) (by omega) fun w2 vm om k2 => ⟨k2, ?_⟩
    have hlm : (mks i 0 os[i].2.length).length = os[i].2.length := mks_len _ _ _
    rw [hform] at ho
    refine same_c (a := os[i].2) (b := mks i 0 os[i].2.length) (ho.keep0 k2) (by rw [hlm]; exact om.rd) (by omega) fun w3 k3 => ⟨k2.trans k3, ?_⟩
    rw [decide_eq_true (hm i hi)]
    simp only [stp, Nat.reduceAdd, Int.reduceLT, Int.reduceLE, Int.reduceEq, Int.reduceNe, ne_eq, bne_self_eq_false, beq_self_eq_true, stm]
    exact hJ _ ((k1.drew.trans k2).trans k3)
  · intro _j
    have hi' : ¬ ((os.length : Int) < (os.length : Int)) := by omega
    simp only [stp, Nat.reduceAdd, Int.reduceLT, Int.reduceLE, Int.reduceEq, Int.reduceNe, ne_eq, bne_self_eq_false, beq_self_eq_true, hi']
    exact hq _ k1
theorem grow_c (hb : BkC tBk w b f) (hB : B ≤ siz w) (hp : Shf w B 23 64 1 enc (f 4) ps) (hm : Mk ps) (hle : ps.length ≤ 250) (hbd : ∀ p ∈ ps, p.2.length ≤ 100000)
    (hq : ∀ w' vo os, Shr w' B 23 64 1 enc vo os → os.length = ps.length → Mk os → (∀ p ∈ os, p.2.length ≤ 200000) → Shr w' B 23 64 1 enc (f 4) ps → KO B (tys [64]) w w' → Q vo w') :
    callS Tryz.prog 69 #[.pointer (some ⟨b, 0, none⟩)] Q w := by
  refine ref69 ?_
  unfold S69
  refine lpc2 ps.length (by omega) (fun i x w' => ∃ os : List (Value × List Int), os.length = i ∧ Own w' (siz w) 23 1 x i (os.map (·.1)) ∧ (∀ q ∈ os, TRd w' B 64 1 q.1 q.2.length (flat enc q.2)) ∧ Mk os ∧ (∀ q ∈ os, q.2.length ≤ 200000) ∧
      (∀ q ∈ os, ∀ g, q.1.ownBlock = some g → siz w ≤ g ∨ ∃ j, ∃ hj : j < ps.length, j < i ∧ ps[j].1.ownBlock = some g) ∧
      Own w' B 23 1 (f 4) ps.length (ps.map (·.1)) ∧ (∀ j (hj : j < ps.length), i ≤ j → Own w' B 64 1 ps[j].1 ps[j].2.length (flat enc ps[j].2)) ∧
      (∀ p ∈ ps, TRd w' B 64 1 p.1 p.2.length (flat enc p.2)) ∧ KO B (tys [64]) w w')
    ⟨[], rfl, Own.nil _ _ _ _, fun _ h => by simp at h, fun i h => by simp at h, fun _ h => by simp at h, fun _ h => by simp at h, hp.row, fun j hj _ => hp.get hj, fun p h => (hp.each p h).trd (Nat.le_refl _), KO.refl _ _ _⟩
    (fun i x w1 hi ⟨os, hos, ox, hor, hmo, hob, hof, hrow, hown, hrd, k1⟩ J hJ => ?_) (fun x w1 ⟨os, hos, ox, hor, hmo, hob, hof, hrow, hown, hrd, k1⟩ J => ?_)
  · intro _j
    have hi' : ((i : Int) < (ps.length : Int)) := by omega
    have hb1 := hb.ko k1 (fun _ => rfl)
    obtain ⟨g, o, c, e, _, hcr⟩ := hrow.rd.at (by omega)
    have hc : Sh.cel w1 g (o + i) = some ps[i].1 := by rw [hcr i (by omega), List.getElem?_map, List.getElem?_eq_getElem hi]; rfl
    have cF : Sh.cel w1 b 4 = some (.slice (some ⟨g, o, none⟩) ps.length c) := by rw [hb1.cel (by decide), e]
    have hli := hbd _ (List.getElem_mem hi)
    have ho := hown i hi (Nat.le_refl _)
    have hmi := hm i hi
    simp only [stp, Nat.reduceAdd, Int.reduceLT, Int.reduceLE, Int.reduceEq, Int.reduceNe, ne_eq, bne_self_eq_false, beq_self_eq_true, stm, cel_drew, cF, hi', Option.isSome_some, Option.getD_some]
    rw [ix_29 hi]
    simp only [stp, Nat.reduceAdd, Int.reduceLT, Int.reduceLE, Int.reduceEq, Int.reduceNe, ne_eq, bne_self_eq_false, beq_self_eq_true, stm, cel_drew, hc, Option.isSome_some, Option.getD_some]
    have s1 := k1.size
    -- one more piece
    have ext : ∀ {u : World} {y : Value} {m n : Nat} {K : Value → World → Prop}, n ≤ 60 → m ≤ 100 → Own u B 64 1 y (ps[i].2.length + m) (flat enc (mks i 0 (ps[i].2.length + m))) → Keep (fun g => ps[i].1.ownBlock = some g) w1 u → (∀ g, y.ownBlock = some g → ps[i].1.ownBlock = some g ∨ siz w1 ≤ g) → TRd u B 64 1 ps[i].1 ps[i].2.length (flat enc ps[i].2) →
        (∀ u' y', Own u' B 64 1 y' (ps[i].2.length + (m + n)) (flat enc (mks i 0 (ps[i].2.length + (m + n)))) → Keep (fun g => ps[i].1.ownBlock = some g) w1 u' → (∀ g, y'.ownBlock = some g → ps[i].1.ownBlock = some g ∨ siz w1 ≤ g) → TRd u' B 64 1 ps[i].1 ps[i].2.length (flat enc ps[i].2) → K y' u') → 0 < n →
        callS Tryz.prog 125 #[.int .i64 (i : Int), .int .i64 ((ps[i].2.length + m : Nat) : Int), .int .i64 (n : Int)] (fun t31 w_3 => act Tryz.prog (Builtin.append_ #[23, 23] 23 #[y, t31]) K w_3) u := by
      intro u y m n K hn hm oy ky hy ty hK hn0
      refine mark_c (by omega) (by omega) fun u1 vm om ku => ?_
      have oy1 := oy.keep ku fun _ _ => id
      have ty1 := ty.keep0 ku
      obtain ⟨gm, om', cm, rfl, _, hcm⟩ := om.rd.at hn0
      have su := ku.size
      have sk := ky.size
      refine act_append2 (i := Tryz.t64) (size := 1) (bytes := 8) Tryz.underlying23 (by kernel_rfl) rfl rfl rfl rfl (by decide) oy1 (b := gm) (o := om') (m := n) (c := cm) (news := flat enc (mks i (ps[i].2.length + m) n)) (by rw [flat_len enc_len, mks_len]) hcm flat_ones (by omega) (by unfold maxLen; omega) (by omega) fun v' u2 o2 hor2 => ?_
      rw [← flat_append, mks_add, Nat.add_assoc] at o2
      have nyb : ∀ q, q < siz w1 → y.ownBlock = some q → ps[i].1.ownBlock = some q := fun q hq e => (hy q e).resolve_right (by omega)
      rcases hor2 with ⟨ev, k2⟩ | ⟨k2, hv⟩
      · refine hK u2 v' o2 ((ky.trans ku.none).trans' k2 fun q hq e => nyb q hq e) (fun q e => hy q (by rw [← ev]; exact e)) ?_
        by_cases hsame : ∃ q, ps[i].1.ownBlock = some q ∧ y.ownBlock = some q
        · obtain ⟨q, hq1, hq2⟩ := hsame
          rw [← ev] at hq2
          rcases ho.2 with ⟨hnil, _⟩ | ⟨g0, cap0, cur0, hs0, _, _, hcap0, _⟩
          · rw [hnil] at hq1; cases hq1
          · rw [hs0] at hq1
            injection hq1 with hq1
            subst hq1
            have := Own.under enc_len o2 (mks_len _ _ _) hq2 (n0 := ps[i].2.length) (c0 := cap0) (by omega) hcap0
            rw [show (mks i 0 (ps[i].2.length + (m + n))).take ps[i].2.length = ps[i].2 by
              rw [← mks_add, List.take_append_of_le_length (by rw [mks_len]; exact Nat.le_refl _), List.take_of_length_le (by rw [mks_len]; exact Nat.le_refl _), ← hmi]] at this
            rw [hs0]; exact this
        · exact ty1.keepF k2 fun q hq e => hsame ⟨q, hq, e⟩
      · refine hK u2 v' o2 ((ky.trans ku.none).trans k2.none) (fun q e => .inr (by have := hv q e; omega)) (ty1.keep0 k2)
    have ho' : Own w1 B 64 1 ps[i].1 (ps[i].2.length + 0) (flat enc (mks i 0 (ps[i].2.length + 0))) := by rw [Nat.add_zero, ← hmi]; exact ho
    refine lpc2 12 (by omega) (fun m y u => Own u B 64 1 y (ps[i].2.length + m) (flat enc (mks i 0 (ps[i].2.length + m))) ∧ Keep (fun g => ps[i].1.ownBlock = some g) w1 u ∧ (∀ g, y.ownBlock = some g → ps[i].1.ownBlock = some g ∨ siz w1 ≤ g) ∧ TRd u B 64 1 ps[i].1 ps[i].2.length (flat enc ps[i].2))
      ⟨ho'.keep ((K0.refl w1)) (fun _ _ => id), Keep.refl _ _, fun g h => .inl h, hrd _ (List.getElem_mem hi)⟩ (fun m y u hm12 ⟨oy, ky, hy, ty⟩ J' hJ' => ?_) (fun y u ⟨oy, ky, hy, ty⟩ J' => ?_)
    · intro _j
      have hm' : ((m : Int) < 12) := by omega
      obtain ⟨py, cy, rfl⟩ := oy.form
      simp only [stp, Nat.reduceAdd, Int.reduceLT, Int.reduceLE, Int.reduceEq, Int.reduceNe, ne_eq, bne_self_eq_false, beq_self_eq_true, hm']
      refine ext (m := m) (n := 1) (by omega) (by omega) oy ky hy ty (fun u' y' a1 a2 a3 a4 => ?_) (by omega)
      exact hJ' _ _ ⟨a1, a2, a3, a4⟩
    · intro _j
      have hm' : ¬ (((12 : Nat) : Int) < 12) := by omega
      obtain ⟨py, cy, rfl⟩ := oy.form
      simp only [stp, Nat.reduceAdd, Int.reduceLT, Int.reduceLE, Int.reduceEq, Int.reduceNe, ne_eq, bne_self_eq_false, beq_self_eq_true, hm']
      refine ext (m := 12) (n := 60) (by omega) (by omega) oy ky hy ty (fun u' y' a1 a2 a3 a4 => ?_) (by omega)
      obtain ⟨py', cy', rfl⟩ := a1.form
      simp only [stp, Nat.reduceAdd, Int.reduceLT, Int.reduceLE, Int.reduceEq, Int.reduceNe, ne_eq, bne_self_eq_false, beq_self_eq_true, stm]
      have nox : ∀ g, x.ownBlock = some g → ¬ ps[i].1.ownBlock = some g := fun g hg e => by
        have := (ox.lt hg).1
        have h2 := (hp.get hi).lt e
        omega
      have ox2 := ox.keep a2 nox
      have sk := a2.size
      refine pu_29 ox2 (fun q hq => by rw [List.mem_singleton.1 hq]; rfl) (by omega) (by omega) fun v3 w3 o3 k3 r3 => ?_
      have nx : ∀ g, fts (f 4) ps g → ¬ x.ownBlock = some g := fun g hg e => by
        have := (ox.lt e).1
        have := (hp.lt hg).2
        omega
      have nty : ∀ {n : Nat} {v : Value} {xs : List Value}, TRd u' B 64 1 v n xs → TRd w3 B 64 1 v n xs := fun {n v xs} h => h.keepF k3 fun g hg e => by
        obtain ⟨_, cs, hc⟩ := h.2 g hg
        obtain ⟨_, cs', hc'⟩ := ox2.ty e
        rw [hc'] at hc; injection hc with hc; injection hc with _ hc; cases hc
      have nfi : ∀ {j : Nat} (hj : j < ps.length), j ≠ i → ∀ g, ps[j].1.ownBlock = some g → ¬ ps[i].1.ownBlock = some g := fun {j} hj hji g hg e => hp.ne hj hi hji hg e
      refine hJ _ _ ⟨os ++ [(.slice py' (ps[i].2.length + (12 + 60)) cy', mks i 0 (ps[i].2.length + (12 + 60)))], by simp [hos], by simpa using o3, fun q hq => ?_, fun j hj => ?_, fun q hq => ?_, fun q hq g hg => ?_, ?_, fun j hj hji => ?_, fun p hpm => ?_, ?_⟩
      · rcases List.mem_append.1 hq with hq | hq
        · refine nty ((hor q hq).keepF a2 fun g hg e => ?_)
          rcases hof q hq g hg with h1 | ⟨j, hj, hji, h1⟩
          · have := (hp.get hi).lt e; omega
          · exact nfi hj (by omega) g h1 e
        · rw [List.mem_singleton.1 hq]
          have := a1.trd (Nat.le_refl B)
          refine nty ?_
          dsimp only
          rw [mks_len]; exact this
      · rw [List.length_append, List.length_singleton] at hj
        by_cases hji : j < os.length
        · rw [List.getElem_append_left hji]; exact hmo j hji
        · have : j = i := by omega
          subst this
          rw [List.getElem_append_right (by omega)]
          simp [hos, mks_len]
      · rcases List.mem_append.1 hq with hq | hq
        · exact hob q hq
        · rw [List.mem_singleton.1 hq]; dsimp only; rw [mks_len]; omega
      · rcases List.mem_append.1 hq with hq | hq
        · rcases hof q hq g hg with h1 | ⟨j, hj, hji, h1⟩
          · exact .inl h1
          · exact .inr ⟨j, hj, by omega, h1⟩
        · rw [List.mem_singleton.1 hq] at hg
          rcases a3 g hg with h1 | h1
          · exact .inr ⟨i, hi, by omega, h1⟩
          · exact .inl (by omega)
      · refine (hrow.keep a2 fun g hg e => ?_).keep k3 fun g hg e => nx g (.inl hg) e
        obtain ⟨_, cs, hc⟩ := hrow.ty hg
        obtain ⟨_, cs', hc'⟩ := ho.ty e
        rw [hc'] at hc; injection hc with hc; injection hc with _ hc; cases hc
      · exact ((hown j hj (by omega)).keep a2 fun g hg e => nfi hj (by omega) g hg e).keep k3 fun g hg e => nx g (.inr ⟨_, List.getElem_mem hj, hg⟩) e
      · obtain ⟨j, hj, rfl⟩ := List.getElem_of_mem hpm
        by_cases hji : j = i
        · subst hji; exact nty a4
        · exact nty ((hrd _ hpm).keepF a2 fun g hg e => nfi hj hji g hg e)
      · refine (k1.trans (KO.ofB a2 fun q e => ?_)).trans' k3 fun q hq e => ?_
        · obtain ⟨h1, cs, hc⟩ := ho.ty e
          exact ⟨h1, _, hc, rfl⟩
        · have := (ox.lt e).1; omega
  · intro _j
    obtain ⟨pa, c, e⟩ := hrow.rd.form
    have cF : Sh.cel w1 b 4 = some (.slice pa ps.length c) := by rw [(hb.ko k1 (fun _ => rfl)).cel (by decide), e]
    have hi' : ¬ ((ps.length : Int) < (ps.length : Int)) := by omega
    simp only [stp, Nat.reduceAdd, Int.reduceLT, Int.reduceLE, Int.reduceEq, Int.reduceNe, ne_eq, bne_self_eq_false, beq_self_eq_true, stm, cF, hi', Option.isSome_some, Option.getD_some]
    exact hq w1 x os ⟨by rw [hos]; exact ox.trd hB, hor⟩ hos hmo hob ⟨hrow.trd (Nat.le_refl _), hrd⟩ k1
end
end Go.Proofs.YtmmnifbponhhfaaGreatT.BkNums
