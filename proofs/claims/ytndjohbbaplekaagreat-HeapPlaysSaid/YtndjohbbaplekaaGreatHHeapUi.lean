/- The heap of values of type int: what going up and going down do. Conditions: the heap lies in memory as 'Mem' says. -/
import Derived.Test.YtndjohbbaplekaaGreatHHeapOi
set_option linter.unusedSimpArgs false
set_option linter.unusedVariables false
namespace Go.Proofs.YtndjohbbaplekaaGreatH.Hi
open Go.Sh Go.Sh.Hp
section
variable {F : Nat → Prop} {w : World} {h : Nat} {sl : Value} {mo : Option Nat} {last n : Nat} {f : Nat → It} {Q : Value → World → Prop}

theorem half {i : Nat} (h0 : 0 < i) (hi : i < 1000000) : IntKind.i64.wrap ((i : Int) - 1) = ((i - 1 : Nat) : Int) ∧ IntKind.i64.wrap (((i - 1 : Nat) : Int).tdiv 2) = (((i - 1) / 2 : Nat) : Int) := by
  refine ⟨by rw [wrap_id (by omega) (by omega)]; omega, ?_⟩
  rw [Int.tdiv_eq_ediv_of_nonneg (by omega), wrap_id (by omega) (by omega)]
  omega

theorem up_c {g cap i : Nat} (hm : Mem 155 F w h (.slice (some ⟨g, 0, none⟩) n cap) mo last n f) (hi : i < n)
    (hq : ∀ w' f', Mem 155 F w' h (.slice (some ⟨g, 0, none⟩) n cap) mo last n f' → (items n f').Perm (items n f) → Keep F w w' → (UpPre n f i → Heap n f') → (i = 0 ∨ ¬ lt (f i) (f ((i - 1) / 2)) → f' = f) → Q (.tuple #[]) w') :
    callS Tryz.prog 95 #[.pointer (some ⟨h, 0, none⟩), .int .i64 (i : Int)] Q w := by
  refine ref95 ?_
  unfold S95
  refine lp1 (fun m v w' => ∃ (j : Nat) (f' : Nat → It), v = .int .i64 (j : Int) ∧ m = j ∧ j < n ∧ Mem 155 F w' h (.slice (some ⟨g, 0, none⟩) n cap) mo last n f' ∧ (items n f').Perm (items n f) ∧ Keep F w w' ∧
    (UpPre n f i → UpPre n f' j) ∧ (i = 0 ∨ ¬ lt (f i) (f ((i - 1) / 2)) → f' = f ∧ j = i)) i ⟨i, f, rfl, rfl, hi, hm, List.Perm.refl _, Keep.refl _ _, id, fun _ => ⟨rfl, rfl⟩⟩ ?_
  rintro m v w1 ⟨j, f1, rfl, hmj, hj, m1, p1, k1, hup, hst⟩ J hJ _
  subst hmj
  have hbig := m1.big
  rcases Nat.eq_zero_or_pos m with h0 | h0
  · subst h0
    have : ¬ (0 : Int) < ((0 : Nat) : Int) := by omega
    simp only [stp, Nat.reduceAdd, Int.reduceLT, Int.reduceLE, Int.reduceEq, Int.reduceNe, ne_eq, bne_self_eq_false, beq_self_eq_true, this, decide_false]
    exact hq _ f1 m1.drew p1 k1.drew (fun hu => up_end (hup hu) (.inl rfl)) (fun hs => (hst hs).1)
  · obtain ⟨g', cap', he, _, hgs, _, _, hgf, hgc⟩ := m1.own.at (by omega)
    injection he with e1 _ e2
    injection e1 with e1
    injection e1 with e1 _ _
    subst e1 e2
    have hp : (m - 1) / 2 < n := by omega
    have ci : cel w1 g m = some (ptr (f1 m)) := by rw [hgc m (by omega), List.getElem?_map, List.getElem?_range hj]; rfl
    have cp : cel w1 g ((m - 1) / 2) = some (ptr (f1 ((m - 1) / 2))) := by rw [hgc _ (by omega), List.getElem?_map, List.getElem?_range hp]; rfl
    have hpos : (0 : Int) < (m : Int) := by omega
    obtain ⟨x1, x2⟩ := half h0 (by omega)
    have q2 : ∀ {t : TypeId} {x y : Bool} {a : Int} {k : Value → Prop}, pur Tryz.prog (binS .quo t x y (.int .i64 a) (.int .i64 2)) k = k (.int .i64 (IntKind.i64.wrap (a.tdiv 2))) := pur_quo (by decide)
    simp only [stp, Nat.reduceAdd, Int.reduceLT, Int.reduceLE, Int.reduceEq, Int.reduceNe, ne_eq, bne_self_eq_false, beq_self_eq_true, hpos, cel_drew, m1.l, Option.isSome_some, Option.getD_some, hj, hp, ci, cp, x1, q2, x2]
    refine cmp_c (m1.drew.it m hj) (m1.drew.it _ hp) fun w2 c k2 hc => ?_
    have m2 := m1.drew.still k2
    have k12 : Keep F w1 w2 := (Keep.refl F w1).drew.trans k2.none
    by_cases hl : lt (f1 m) (f1 ((m - 1) / 2))
    · have : c < 0 := hc.2 hl
      simp only [stp, Nat.reduceAdd, Int.reduceLT, Int.reduceLE, Int.reduceEq, Int.reduceNe, ne_eq, bne_self_eq_false, beq_self_eq_true, this, x1, q2, x2]
      refine swap_c m2 hj hp fun w3 m3 k3 => ?_
      try simp only [stp, Nat.reduceAdd, Int.reduceLT, Int.reduceLE, Int.reduceEq, Int.reduceNe, ne_eq, bne_self_eq_false, beq_self_eq_true, x1, q2, x2]
      refine hJ ((m - 1) / 2) _ _ (by omega) ⟨(m - 1) / 2, _, rfl, rfl, hp, m3, (items_swp hj hp).trans p1, (k1.trans k12).trans k3, fun hu => up_step hj h0 hl (hup hu), fun hs => ?_⟩
      obtain ⟨e1, e2⟩ := hst hs
      subst e1 e2
      rcases hs with hs | hs
      · omega
      · exact absurd hl hs
    · have : ¬ c < 0 := fun hcc => hl (hc.1 hcc)
      simp only [stp, Nat.reduceAdd, Int.reduceLT, Int.reduceLE, Int.reduceEq, Int.reduceNe, ne_eq, bne_self_eq_false, beq_self_eq_true, this, decide_false]
      exact hq _ f1 m2 p1 (k1.trans k12) (fun hu => up_end (hup hu) (.inr hl)) (fun hs => (hst hs).1)

theorem down_c {g cap i : Nat} (hm : Mem 155 F w h (.slice (some ⟨g, 0, none⟩) n cap) mo last n f) (hi : i < n)
    (hq : ∀ w' f', Mem 155 F w' h (.slice (some ⟨g, 0, none⟩) n cap) mo last n f' → (items n f').Perm (items n f) → Keep F w w' → (DnPre n f i → Heap n f') → Q (.tuple #[]) w') :
    callS Tryz.prog 97 #[.pointer (some ⟨h, 0, none⟩), .int .i64 (i : Int)] Q w := by
  refine ref97 ?_
  unfold S97
  refine lp1 (fun m v w' => ∃ (j : Nat) (f' : Nat → It), v = .int .i64 (j : Int) ∧ m = n - j ∧ j < n ∧ Mem 155 F w' h (.slice (some ⟨g, 0, none⟩) n cap) mo last n f' ∧ (items n f').Perm (items n f) ∧ Keep F w w' ∧
    (DnPre n f i → DnPre n f' j)) (n - i) ⟨i, f, rfl, rfl, hi, hm, List.Perm.refl _, Keep.refl _ _, id⟩ ?_
  rintro m v w1 ⟨j, f1, rfl, hmj, hj, m1, p1, k1, hdn⟩ J hJ _
  have hbig := m1.big
  have y1 : IntKind.i64.wrap ((2 : Int) * (j : Int)) = ((2 * j : Nat) : Int) := by rw [wrap_id (by omega) (by omega)]; omega
  have y2 : IntKind.i64.wrap (((2 * j : Nat) : Int) + 1) = ((2 * j + 1 : Nat) : Int) := by rw [wrap_id (by omega) (by omega)]; omega
  have y3 : IntKind.i64.wrap (((2 * j : Nat) : Int) + 2) = ((2 * j + 2 : Nat) : Int) := by rw [wrap_id (by omega) (by omega)]; omega
  simp only [stp, Nat.reduceAdd, Int.reduceLT, Int.reduceLE, Int.reduceEq, Int.reduceNe, ne_eq, bne_self_eq_false, beq_self_eq_true, y1, y2, y3]
  generalize hw2 : w1.alloc _ = w2
  have k2 : Keep (fun _ => False) w1 w2 := hw2 ▸ (Keep.refl _ w1).alloc _
  have a0 : cel w2 (siz w1) 0 = some (.int .i64 ((2 * j + 1 : Nat) : Int)) := by rw [← hw2, cel_alloc_new]; rfl
  have a1 : cel w2 (siz w1) 1 = some (.int .i64 ((2 * j + 2 : Nat) : Int)) := by rw [← hw2, cel_alloc_new]; rfl
  have m2 := m1.still k2
  have s2 : siz w1 < siz w2 := by rw [← hw2, siz_alloc]; omega
  refine lp2 (fun r x y w' => ∃ (q s : Nat), x = .int .i64 (s : Int) ∧ y = .int .i64 (q : Int) ∧ r = 2 - q ∧ q ≤ 2 ∧ s < n ∧ (s = j ∨ (0 < s ∧ (s - 1) / 2 = j ∧ lt (f1 s) (f1 j))) ∧ Keep (fun _ => False) w2 w' ∧
    (1 ≤ q → 2 * j + 1 < n → ¬ lt (f1 (2 * j + 1)) (f1 s)) ∧ (2 ≤ q → 2 * j + 2 < n → ¬ lt (f1 (2 * j + 2)) (f1 s))) 2 ⟨0, j, rfl, rfl, rfl, by omega, hj, .inl rfl, Keep.refl _ _, by omega, by omega⟩ ?_
  rintro r x y w3 ⟨q, s, rfl, rfl, hr, hq2, hs, hsj, k3, b1, b2⟩ J1 hJ1 _
  have m3 := m2.still k3
  have lts : ∀ {x : It}, lt x (f1 s) → lt x (f1 j) := fun {x} hx => by
    rcases hsj with rfl | ⟨_, _, h3⟩
    · exact hx
    · exact lt_trans hx h3
  by_cases hq3 : q < 2
  · have hql : (q : Int) < ((2 : Nat) : Int) := by omega
    -- the child that is looked at
    have hc0 : cel w3 (siz w1) q = some (.int .i64 ((2 * j + 1 + q : Nat) : Int)) := by
      have : q = 0 ∨ q = 1 := by omega
      rcases this with rfl | rfl
      · exact k3.cel a0 id
      · exact k3.cel a1 id
    simp only [stp, Nat.reduceAdd, Int.reduceLT, Int.reduceLE, Int.reduceEq, Int.reduceNe, ne_eq, bne_self_eq_false, beq_self_eq_true, hql]
    refine jn1 (fun x w' => ∃ s' : Nat, x = .int .i64 (s' : Int) ∧ s' < n ∧ (s' = j ∨ (0 < s' ∧ (s' - 1) / 2 = j ∧ lt (f1 s') (f1 j))) ∧ Keep (fun _ => False) w2 w' ∧ ¬ lt (f1 s) (f1 s') ∧ (2 * j + 1 + q < n → ¬ lt (f1 (2 * j + 1 + q)) (f1 s'))) (fun J2 hJ2 => ?_) ?_
    · simp only [stp, Nat.reduceAdd, Int.reduceLT, Int.reduceLE, Int.reduceEq, Int.reduceNe, ne_eq, bne_self_eq_false, beq_self_eq_true, hq3, hc0, cel_drew, m3.l, Option.isSome_some, Option.getD_some]
      by_cases hcn : 2 * j + 1 + q < n
      · have hcl : ((2 * j + 1 + q : Nat) : Int) < (n : Int) := by omega
        obtain ⟨g', cap', he, _, hgs, _, _, hgf, hgc⟩ := m3.own.at (by omega)
        injection he with e1 _ e2
        injection e1 with e1
        injection e1 with e1 _ _
        subst e1 e2
        have cc : cel w3 g (2 * j + 1 + q) = some (ptr (f1 (2 * j + 1 + q))) := by rw [hgc _ (by omega), List.getElem?_map, List.getElem?_range hcn]; rfl
        have cs : cel w3 g s = some (ptr (f1 s)) := by rw [hgc _ (by omega), List.getElem?_map, List.getElem?_range hs]; rfl
        simp only [stp, Nat.reduceAdd, Int.reduceLT, Int.reduceLE, Int.reduceEq, Int.reduceNe, ne_eq, bne_self_eq_false, beq_self_eq_true, hcl, hcn, hs, cc, cs, cel_drew, m3.l, Option.isSome_some, Option.getD_some]
        refine cmp_c (m3.drew.it _ hcn) (m3.drew.it _ hs) fun w4 c k4 hc => ?_
        have k4' : Keep (fun _ => False) w2 w4 := k3.drew.trans k4
        by_cases hl : lt (f1 (2 * j + 1 + q)) (f1 s)
        · have : c < 0 := hc.2 hl
          simp only [stp, Nat.reduceAdd, Int.reduceLT, Int.reduceLE, Int.reduceEq, Int.reduceNe, ne_eq, bne_self_eq_false, beq_self_eq_true, this]
          exact hJ2 _ _ ⟨_, rfl, hcn, .inr ⟨by omega, by omega, lts hl⟩, k4', lt_asymm hl, fun _ => by unfold lt; omega⟩
        · have : ¬ c < 0 := fun hcc => hl (hc.1 hcc)
          simp only [stp, Nat.reduceAdd, Int.reduceLT, Int.reduceLE, Int.reduceEq, Int.reduceNe, ne_eq, bne_self_eq_false, beq_self_eq_true, this, decide_false]
          exact hJ2 _ _ ⟨s, rfl, hs, hsj, k4', by unfold lt; omega, fun _ => hl⟩
      · have hcl : ¬ ((2 * j + 1 + q : Nat) : Int) < (n : Int) := by omega
        simp only [stp, Nat.reduceAdd, Int.reduceLT, Int.reduceLE, Int.reduceEq, Int.reduceNe, ne_eq, bne_self_eq_false, beq_self_eq_true, hcl, decide_false]
        exact hJ2 _ _ ⟨s, rfl, hs, hsj, k3.drew, by unfold lt; omega, fun h => absurd h hcn⟩
    · rintro x w4 ⟨s', rfl, hs', hsj', k4, hle, hnew⟩ _
      try simp only [stp, Nat.reduceAdd, Int.reduceLT, Int.reduceLE, Int.reduceEq, Int.reduceNe, ne_eq, bne_self_eq_false, beq_self_eq_true]
      rw [wrap_id (by omega) (by omega)]
      refine hJ1 (2 - (q + 1)) _ _ _ (by omega) ⟨q + 1, s', rfl, by rw [Int.natCast_add]; rfl, rfl, by omega, hs', hsj', k4, fun _ hn => ?_, fun hq4 hn => ?_⟩
      · by_cases e : q = 0
        · subst e; exact hnew hn
        · exact nlt_trans (b1 (by omega) hn) hle
      · have : q = 1 := by omega
        subst this; exact hnew hn
  · have hql : ¬ (q : Int) < ((2 : Nat) : Int) := by omega
    have hmin : ∀ c, 0 < c → c < n → (c - 1) / 2 = j → ¬ lt (f1 c) (f1 s) := fun c hc hcn hcj => by
      have : c = 2 * j + 1 ∨ c = 2 * j + 2 := by omega
      rcases this with rfl | rfl
      · exact b1 (by omega) hcn
      · exact b2 (by omega) hcn
    have k13 : Keep F w1 w3 := k2.none.trans k3.none
    by_cases hsj' : s = j
    · subst hsj'
      simp only [stp, Nat.reduceAdd, Int.reduceLT, Int.reduceLE, Int.reduceEq, Int.reduceNe, ne_eq, bne_self_eq_false, beq_self_eq_true, hql, decide_false]
      exact hq _ f1 m3 p1 (k1.trans k13) (fun hd => dn_end (hdn hd) hmin)
    · have hne : ¬ ((s : Int) = (j : Int)) := by omega
      obtain ⟨hs0, hsp, hsl⟩ : 0 < s ∧ (s - 1) / 2 = j ∧ lt (f1 s) (f1 j) := by
        rcases hsj with h | h
        · exact absurd h hsj'
        · exact h
      simp only [stp, Nat.reduceAdd, Int.reduceLT, Int.reduceLE, Int.reduceEq, Int.reduceNe, ne_eq, bne_self_eq_false, beq_self_eq_true, hql, hne, decide_false]
      refine swap_c m3 hj hs fun w4 m4 k4 => ?_
      exact hJ (n - s) _ _ (by omega) ⟨s, _, rfl, rfl, hs, m4, (items_swp hj hs).trans p1, (k1.trans k13).trans k4, fun hd => dn_step hs ⟨hs0, hsp⟩ hsl hmin (hdn hd)⟩
end
end Go.Proofs.YtndjohbbaplekaaGreatH.Hi
