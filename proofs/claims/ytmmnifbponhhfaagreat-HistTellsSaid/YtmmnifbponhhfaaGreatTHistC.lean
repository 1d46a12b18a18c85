/- Histories in memory: the bounds of a cut, and all cuts. Conditions: as each says. -/
import Derived.Test.YtmmnifbponhhfaaGreatTHistB
set_option linter.unusedSimpArgs false
set_option linter.unusedVariables false
namespace Go.Proofs.YtmmnifbponhhfaaGreatT
open Go.Sh Go.Sh.Hi
set_option maxRecDepth 100000
abbrev encN (n : Int) : List Value := [.int .u64 n]
theorem encN_len (n : Int) : (encN n).length = 1 := rfl
/-- Rows of numbers, all one's own and apart. -/
structure RC (w : World) (B : Nat) (v : Value) (vs : List Value) (cs : List (List Int)) : Prop where
  o : Sh.Own w B 23 1 v vs.length vs
  n : vs.length = cs.length
  each : ∀ i (h : i < vs.length) (h' : i < cs.length), Sh.Own w B 64 1 vs[i] cs[i].length (flat encN cs[i])
  dis : ∀ i j (hi : i < vs.length) (hj : j < vs.length) g, i < j → vs[i].ownBlock = some g → vs[j].ownBlock ≠ some g
section
variable {w w' : World} {Q : Value → World → Prop} {e : Ev} {A : Ar} {m B : Nat} {v : Value} {l : List Ev}
theorem RC.nil : RC w B (.slice none 0 0) [] [] := ⟨Sh.Own.nil _ _ _ _, rfl, fun i h => by simp at h, fun i j hi => by simp at hi⟩
theorem RC.keep0 {vs : List Value} {cs : List (List Int)} (h : RC w B v vs cs) (k : K0 w w') : RC w' B v vs cs :=
  ⟨h.o.keep k fun _ _ => id, h.n, fun i h1 h2 => (h.each i h1 h2).keep k fun _ _ => id, h.dis⟩
theorem RC.le {B' : Nat} {vs : List Value} {cs : List (List Int)} (h : RC w B v vs cs) (hB : B' ≤ B) : RC w B' v vs cs :=
  ⟨h.o.le hB, h.n, fun i h1 h2 => (h.each i h1 h2).le hB, h.dis⟩
set_option maxHeartbeats 1000000 in
theorem bounds_c {k : Nat} (hr : Rd 6 w v l.length (flat encE l)) (hl : l.length ≤ 100000) (ho : ∀ x ∈ l, EvR w x) (hk : k < l.length)
    (hq : ∀ w', K0 w w' → Q (.tuple #[.int .u64 (leastF (l.take k) l[k]), .int .u64 (mostF (l.take k) l[k])]) w') :
    callS Tryz.prog 22 #[v, .int .i64 (k : Int)] Q w := by
  refine ref22 ?_
  unfold S22
  obtain ⟨g, o, c, rfl, hnc, hc⟩ := hr.at (by omega)
  obtain ⟨p0, p1, p2, p3, p4, p5⟩ := ev_at hc (List.getElem?_eq_getElem hk)
  have hok := (ho _ (List.getElem_mem hk)).ones
  have hkc : k ≤ c := by omega
  rw [ix_22 hk]
  simp only [stp, Nat.reduceAdd, Int.reduceLT, Int.reduceLE, Int.reduceEq, Int.reduceNe, ne_eq, bne_self_eq_false, beq_self_eq_true, stm, p0, p1, p2, p3, p4, p5, hok.1, hok.2, hkc, Option.isSome_some, Option.getD_some]
  have k1 := (K0.refl w).alloc (.cells #[.int .i64 l[k].kind, .int .i64 l[k].node, .int .u64 l[k].epoch, .int .u64 l[k].lsn, l[k].rv, l[k].wv] tEv)
  have y1 : Sh.cel (w.alloc (.cells #[.int .i64 l[k].kind, .int .i64 l[k].node, .int .u64 l[k].epoch, .int .u64 l[k].lsn, l[k].rv, l[k].wv] tEv)) (siz w) 1 = some (.int .i64 l[k].node) := cel_alloc_new
  have y2 : Sh.cel (w.alloc (.cells #[.int .i64 l[k].kind, .int .i64 l[k].node, .int .u64 l[k].epoch, .int .u64 l[k].lsn, l[k].rv, l[k].wv] tEv)) (siz w) 2 = some (.int .u64 l[k].epoch) := cel_alloc_new
  generalize w.alloc (.cells #[.int .i64 l[k].kind, .int .i64 l[k].node, .int .u64 l[k].epoch, .int .u64 l[k].lsn, l[k].rv, l[k].wv] tEv) = w1 at k1 y1 y2
  generalize siz w = bx at y1 y2
  generalize hg : l[k] = ge at y1 y2 hq
  refine lpc3 k (by omega) (fun i x y u => K0 w1 u ∧ x = .int .u64 (maxL (fun x => same x ge && decide (x.kind = 2)) 0 (l.take i)) ∧ y = .int .u64 (maxL (fun x => same x ge && decide (x.kind = 1)) 0 (l.take i))) ⟨K0.refl _, rfl, rfl⟩ (fun i x y u hi ⟨ku, hx, hy⟩ J hJ => ?_) (fun x y u ⟨ku, hx, hy⟩ J => ?_)
  · intro _j
    subst hx hy
    have hil : i < l.length := by omega
    have hi' : ((i : Int) < (k : Int)) := by omega
    have hcu : ∀ j, j < l.length * 6 → Sh.cel u g (o + j) = (flat encE l)[j]? := fun j hj => by
      have := hc j hj
      rw [List.getElem?_eq_getElem (by rw [flat_len encE_len]; omega)] at this ⊢
      exact ku.cel (k1.cel this id) id
    obtain ⟨p0, p1, p2, p3, p4, p5⟩ := ev_at hcu (List.getElem?_eq_getElem hil)
    have ho1 := (ho _ (List.getElem_mem hil)).ones
    have ht : l.take (i + 1) = l.take i ++ [l[i]] := by rw [List.take_add_one, List.getElem?_eq_getElem hil]; rfl
    simp only [stp, Nat.reduceAdd, Int.reduceLT, Int.reduceLE, Int.reduceEq, Int.reduceNe, ne_eq, bne_self_eq_false, beq_self_eq_true, hi']
    refine jn2 (fun x y u' => K0 w1 u' ∧ x = .int .u64 (maxL (fun x => same x ge && decide (x.kind = 2)) 0 (l.take (i + 1))) ∧ y = .int .u64 (maxL (fun x => same x ge && decide (x.kind = 1)) 0 (l.take (i + 1)))) (fun J1 hJ1 => ?_) ?_
    · rw [ix_22 hi]
      simp only [stp, Nat.reduceAdd, Int.reduceLT, Int.reduceLE, Int.reduceEq, Int.reduceNe, ne_eq, bne_self_eq_false, beq_self_eq_true, stm, p0, p1, p2, p3, p4, p5, ho1.1, ho1.2, Option.isSome_some, Option.getD_some]
      have k3 := (K0.refl u).alloc (.cells #[.int .i64 l[i].kind, .int .i64 l[i].node, .int .u64 l[i].epoch, .int .u64 l[i].lsn, l[i].rv, l[i].wv] tEv)
      have x0 : Sh.cel (u.alloc (.cells #[.int .i64 l[i].kind, .int .i64 l[i].node, .int .u64 l[i].epoch, .int .u64 l[i].lsn, l[i].rv, l[i].wv] tEv)) (siz u) 0 = some (.int .i64 l[i].kind) := cel_alloc_new
      have x1 : Sh.cel (u.alloc (.cells #[.int .i64 l[i].kind, .int .i64 l[i].node, .int .u64 l[i].epoch, .int .u64 l[i].lsn, l[i].rv, l[i].wv] tEv)) (siz u) 1 = some (.int .i64 l[i].node) := cel_alloc_new
      have x2 : Sh.cel (u.alloc (.cells #[.int .i64 l[i].kind, .int .i64 l[i].node, .int .u64 l[i].epoch, .int .u64 l[i].lsn, l[i].rv, l[i].wv] tEv)) (siz u) 2 = some (.int .u64 l[i].epoch) := cel_alloc_new
      have x3 : Sh.cel (u.alloc (.cells #[.int .i64 l[i].kind, .int .i64 l[i].node, .int .u64 l[i].epoch, .int .u64 l[i].lsn, l[i].rv, l[i].wv] tEv)) (siz u) 3 = some (.int .u64 l[i].lsn) := cel_alloc_new
      generalize u.alloc (.cells #[.int .i64 l[i].kind, .int .i64 l[i].node, .int .u64 l[i].epoch, .int .u64 l[i].lsn, l[i].rv, l[i].wv] tEv) = u3 at k3 x0 x1 x2 x3
      generalize siz u = bz at x0 x1 x2 x3
      have y1 := k3.cel (ku.cel y1 id) id
      have y2 := k3.cel (ku.cel y2 id) id
      have ku3 := ku.trans k3
      rw [ht, maxL_snoc, maxL_snoc] at hJ1
      by_cases e1 : l[i].node = ge.node
      · by_cases e2 : l[i].epoch = ge.epoch
        · by_cases e3 : l[i].kind = 2
          · simp only [stp, Nat.reduceAdd, Int.reduceLT, Int.reduceLE, Int.reduceEq, Int.reduceNe, ne_eq, bne_self_eq_false, beq_self_eq_true, stm, x0, x1, x2, x3, y1, y2, e1, e2, e3, pur_max, Option.isSome_some, Option.getD_some]
            exact hJ1 _ _ _ ⟨ku3, by simp [same, e1, e2, e3], by simp [same, e1, e2, e3]⟩
          · by_cases e4 : l[i].kind = 1
            · simp only [stp, Nat.reduceAdd, Int.reduceLT, Int.reduceLE, Int.reduceEq, Int.reduceNe, ne_eq, bne_self_eq_false, beq_self_eq_true, stm, x0, x1, x2, x3, y1, y2, e1, e2, e3, e4, pur_max, Option.isSome_some, Option.getD_some]
              exact hJ1 _ _ _ ⟨ku3, by simp [same, e1, e2, e4], by simp [same, e1, e2, e4]⟩
            · simp only [stp, Nat.reduceAdd, Int.reduceLT, Int.reduceLE, Int.reduceEq, Int.reduceNe, ne_eq, bne_self_eq_false, beq_self_eq_true, stm, x0, x1, x2, x3, y1, y2, e1, e2, e3, e4, Option.isSome_some, Option.getD_some]
              exact hJ1 _ _ _ ⟨ku3, by simp [same, e1, e2, e3], by simp [same, e1, e2, e4]⟩
        · simp only [stp, Nat.reduceAdd, Int.reduceLT, Int.reduceLE, Int.reduceEq, Int.reduceNe, ne_eq, bne_self_eq_false, beq_self_eq_true, stm, x0, x1, x2, x3, y1, y2, e1, e2, Option.isSome_some, Option.getD_some]
          exact hJ1 _ _ _ ⟨ku3, by simp [same, e1, e2], by simp [same, e1, e2]⟩
      · simp only [stp, Nat.reduceAdd, Int.reduceLT, Int.reduceLE, Int.reduceEq, Int.reduceNe, ne_eq, bne_self_eq_false, beq_self_eq_true, stm, x0, x1, x2, x3, y1, y2, e1, Option.isSome_some, Option.getD_some]
        exact hJ1 _ _ _ ⟨ku3, by simp [same, e1], by simp [same, e1]⟩
    · rintro x' y' u' ⟨h1, h2, h3⟩ _j
      try simp only [stp, Nat.reduceAdd, Int.reduceLT, Int.reduceLE, Int.reduceEq, Int.reduceNe, ne_eq, bne_self_eq_false, beq_self_eq_true]
      exact hJ _ _ _ ⟨h1, h2, h3⟩
  · intro _j
    subst hx hy
    have hi' : ¬ ((k : Int) < (k : Int)) := by omega
    simp only [stp, Nat.reduceAdd, Int.reduceLT, Int.reduceLE, Int.reduceEq, Int.reduceNe, ne_eq, bne_self_eq_false, beq_self_eq_true, hi', pur_max]
    exact hq u (k1.trans ku)
set_option maxHeartbeats 2000000 in
theorem cuts_c (hr : Rd 6 w v l.length (flat encE l)) (hl : l.length ≤ 100000) (ho : ∀ x ∈ l, EvR w x)
    (hq0 : ∀ w' v' vs, errF l = 0 → K0 w w' → RC w' (siz w) v' vs (choicesF l) → Q (.tuple #[v', .int .i64 0]) w') (hq1 : ∀ w', errF l ≠ 0 → K0 w w' → Q (.tuple #[.slice none 0 0, .int .i64 (errF l)]) w') :
    callS Tryz.prog 8 #[v] Q w := by
  refine ref8 ?_
  unfold S8
  obtain ⟨pa, ca, rfl⟩ := hr.form
  have hlsn : ∀ x ∈ l, x.lsn < 18446744073709551616 := fun x hx => by have := (ho x hx).ls; omega
  have hb : ∀ k (hk : k < l.length), 0 ≤ leastF (l.take k) l[k] ∧ leastF (l.take k) l[k] ≤ mostF (l.take k) l[k] ∧ mostF (l.take k) l[k] ≤ 18446744073709551615 := fun k hk => by
    have hs : ∀ x ∈ l.take k, x.lsn < 18446744073709551616 := fun x hx => hlsn x (List.mem_of_mem_take hx)
    have h1 := leastF_b (g := l[k]) (by omega) hs
    have h2 := mostF_b (g := l[k]) (by omega) hs
    omega
  by_cases hbig : (200 : Int) < (l.length : Int)
  · have he : errF l = 2 := if_pos (by omega)
    simp only [stp, Nat.reduceAdd, Int.reduceLT, Int.reduceLE, Int.reduceEq, Int.reduceNe, ne_eq, bne_self_eq_false, beq_self_eq_true, hbig]
    have := hq1 w (by rw [he]; decide) (K0.refl _)
    rw [he] at this
    exact this
  have hbig2 : ¬ 200 < l.length := by omega
  have toolong : waysF (cutsR [] l) = none → ∀ u, K0 w u → Q (.tuple #[.slice none 0 0, .int .i64 2]) u := fun h u ku => by
    have he : errF l = 2 := by unfold errF; rw [if_neg hbig2, if_pos h]
    have := hq1 u (by rw [he]; decide) ku
    rw [he] at this
    exact this
  have badkind : waysF (cutsR [] l) ≠ none → kindsF l = false → ∀ u, K0 w u → Q (.tuple #[.slice none 0 0, .int .i64 1]) u := fun h h2 u ku => by
    have he : errF l = 1 := by unfold errF; rw [if_neg hbig2, if_neg h, h2]; rfl
    have := hq1 u (by rw [he]; decide) ku
    rw [he] at this
    exact this
  have good : waysF (cutsR [] l) ≠ none → kindsF l = true → errF l = 0 := fun h h2 => by unfold errF; rw [if_neg hbig2, if_neg h, h2]; rfl
  clear hq1
  simp only [stp, Nat.reduceAdd, Int.reduceLT, Int.reduceLE, Int.reduceEq, Int.reduceNe, ne_eq, bne_self_eq_false, beq_self_eq_true, hbig]
  refine lpc2 l.length (by omega) (fun i y u => ∃ n : Int, y = .int .u64 n ∧ waysF (cutsR [] (l.take i)) = some n ∧ K0 w u) ⟨1, rfl, rfl, K0.refl _⟩ (fun i y u hi ⟨n, hy, hn, ku⟩ J hJ => ?_) (fun y u ⟨n, hy, hn, ku⟩ J => ?_)
  · intro _j
    subst hy
    have hi' : ((i : Int) < (l.length : Int)) := by omega
    obtain ⟨g, o, c, ee, _, hc⟩ := (hr.keep0 ku).at (by omega)
    injection ee with e1 _ e2
    subst e1 e2
    obtain ⟨p0, p1, p2, p3, p4, p5⟩ := ev_at hc (List.getElem?_eq_getElem hi)
    have ho1 := (ho _ (List.getElem_mem hi)).ones
    have hct := cutsR_take hi
    have hbi := hb i hi
    obtain ⟨n1, n2, _⟩ := waysF_pos _ (cutsR_le _ _) hn
    simp only [stp, Nat.reduceAdd, Int.reduceLT, Int.reduceLE, Int.reduceEq, Int.reduceNe, ne_eq, bne_self_eq_false, beq_self_eq_true, hi']
    refine jn1 (fun y u' => ∃ n : Int, y = .int .u64 n ∧ waysF (cutsR [] (l.take (i + 1))) = some n ∧ K0 w u') (fun J1 hJ1 => ?_) ?_
    · rw [ix_22 hi]
      simp only [stp, Nat.reduceAdd, Int.reduceLT, Int.reduceLE, Int.reduceEq, Int.reduceNe, ne_eq, bne_self_eq_false, beq_self_eq_true, stm, p0, p1, p2, p3, p4, p5, ho1.1, ho1.2, Option.isSome_some, Option.getD_some]
      have k3 := (K0.refl u).alloc (.cells #[.int .i64 l[i].kind, .int .i64 l[i].node, .int .u64 l[i].epoch, .int .u64 l[i].lsn, l[i].rv, l[i].wv] tEv)
      have x0 : Sh.cel (u.alloc (.cells #[.int .i64 l[i].kind, .int .i64 l[i].node, .int .u64 l[i].epoch, .int .u64 l[i].lsn, l[i].rv, l[i].wv] tEv)) (siz u) 0 = some (.int .i64 l[i].kind) := cel_alloc_new
      generalize u.alloc (.cells #[.int .i64 l[i].kind, .int .i64 l[i].node, .int .u64 l[i].epoch, .int .u64 l[i].lsn, l[i].rv, l[i].wv] tEv) = u3 at k3 x0
      generalize siz u = bz at x0
      have ku3 := ku.trans k3
      by_cases e3 : l[i].kind = 3
      · simp only [stp, Nat.reduceAdd, Int.reduceLT, Int.reduceLE, Int.reduceEq, Int.reduceNe, ne_eq, bne_self_eq_false, beq_self_eq_true, stm, x0, e3, Option.isSome_some, Option.getD_some]
        refine bounds_c (hr.keep0 ku3) hl (fun x hx => (ho x hx).keep0 ku3) hi fun u4 k4 => ?_
        rw [if_pos e3] at hct
        generalize leastF (l.take i) l[i] = a at hbi hct
        generalize mostF (l.take i) l[i] = b at hbi hct
        have hws : IntKind.u64.wrap (b - a) = b - a := wrap_u (by omega) (by omega)
        have hw := waysF_snoc (l := cutsR [] (l.take i)) (p := (a, b))
        rw [hn, ← hct] at hw
        dsimp only at hw
        by_cases hg : 3000 ≤ b - a
        · simp only [stp, Nat.reduceAdd, Int.reduceLT, Int.reduceLE, Int.reduceEq, Int.reduceNe, ne_eq, bne_self_eq_false, beq_self_eq_true, stm, hws, hg, Option.isSome_some, Option.getD_some]
          rw [if_pos (.inl hg)] at hw
          exact toolong (ways_take hw) u4 (ku3.trans k4)
        · have hm1 : IntKind.u64.wrap (b - a + 1) = b - a + 1 := wrap_u (by omega) (by omega)
          have hpr : 0 ≤ n * (b - a + 1) ∧ n * (b - a + 1) ≤ 3000 * 3000 := by
            refine ⟨Int.mul_nonneg (by omega) (by omega), ?_⟩
            have h1 : n * (b - a + 1) ≤ 3000 * (b - a + 1) := Int.mul_le_mul_of_nonneg_right n2 (by omega)
            omega
          have hm2 : IntKind.u64.wrap (n * (b - a + 1)) = n * (b - a + 1) := wrap_u hpr.1 (by omega)
          by_cases hg2 : 3000 < n * (b - a + 1)
          · simp only [stp, Nat.reduceAdd, Int.reduceLT, Int.reduceLE, Int.reduceEq, Int.reduceNe, ne_eq, bne_self_eq_false, beq_self_eq_true, stm, hws, hg, hm1, hm2, hg2, Option.isSome_some, Option.getD_some]
            rw [if_pos (.inr hg2)] at hw
            exact toolong (ways_take hw) u4 (ku3.trans k4)
          · simp only [stp, Nat.reduceAdd, Int.reduceLT, Int.reduceLE, Int.reduceEq, Int.reduceNe, ne_eq, bne_self_eq_false, beq_self_eq_true, stm, hws, hg, hm1, hm2, hg2, Option.isSome_some, Option.getD_some]
            rw [if_neg (by omega)] at hw
            exact hJ1 _ _ ⟨_, rfl, hw, ku3.trans k4⟩
      · simp only [stp, Nat.reduceAdd, Int.reduceLT, Int.reduceLE, Int.reduceEq, Int.reduceNe, ne_eq, bne_self_eq_false, beq_self_eq_true, stm, x0, e3, Option.isSome_some, Option.getD_some]
        rw [if_neg e3, List.append_nil] at hct
        exact hJ1 _ _ ⟨n, rfl, by rw [hct]; exact hn, ku3⟩
    · rintro y' u' h' _j
      try simp only [stp, Nat.reduceAdd, Int.reduceLT, Int.reduceLE, Int.reduceEq, Int.reduceNe, ne_eq, bne_self_eq_false, beq_self_eq_true]
      exact hJ _ _ h'
  · intro _j
    subst hy
    have hi' : ¬ ((l.length : Int) < (l.length : Int)) := by omega
    rw [List.take_length] at hn
    have hwn : waysF (cutsR [] l) ≠ none := by rw [hn]; exact fun h => by cases h
    obtain ⟨n1, n2, hsmall⟩ := waysF_pos _ (cutsR_le _ _) hn
    simp only [stp, Nat.reduceAdd, Int.reduceLT, Int.reduceLE, Int.reduceEq, Int.reduceNe, ne_eq, bne_self_eq_false, beq_self_eq_true, hi']
    refine lpc2 l.length (by omega) (fun i y u => ∃ vs, K0 w u ∧ RC u (siz w) y vs (choicesF (l.take i)) ∧ kindsF (l.take i) = true) ⟨[], ku, RC.nil, rfl⟩ (fun i y u hi ⟨vs, ku, hy, hkd⟩ J hJ => ?_) (fun y u ⟨vs, ku, hy, hkd⟩ J => ?_)
    · intro _j
      have hi' : ((i : Int) < (l.length : Int)) := by omega
      obtain ⟨g, o, c, ee, _, hc⟩ := (hr.keep0 ku).at (by omega)
      injection ee with e1 _ e2
      subst e1 e2
      obtain ⟨p0, p1, p2, p3, p4, p5⟩ := ev_at hc (List.getElem?_eq_getElem hi)
      have ho1 := (ho _ (List.getElem_mem hi)).ones
      have hct := cutsR_take hi
      have hbi := hb i hi
      have ht : l.take (i + 1) = l.take i ++ [l[i]] := by rw [List.take_add_one, List.getElem?_eq_getElem hi]; rfl
      have hk1 : kindsF (l.take (i + 1)) = (decide (1 ≤ l[i].kind) && decide (l[i].kind ≤ 4)) := by
        rw [ht]; unfold kindsF at hkd ⊢; rw [List.all_append, hkd]; simp
      have kall : kindsF (l.take (i + 1)) = false → kindsF l = false := fun h => by
        have e : kindsF l = kindsF (l.take (i + 1) ++ l.drop (i + 1)) := by rw [List.take_append_drop]
        rw [e]; unfold kindsF at h ⊢; rw [List.all_append, h]; rfl
      have hsz := ku.size
      simp only [stp, Nat.reduceAdd, Int.reduceLT, Int.reduceLE, Int.reduceEq, Int.reduceNe, ne_eq, bne_self_eq_false, beq_self_eq_true, hi']
      refine jn1 (fun y u' => ∃ vs, K0 w u' ∧ RC u' (siz w) y vs (choicesF (l.take (i + 1))) ∧ kindsF (l.take (i + 1)) = true) (fun J1 hJ1 => ?_) ?_
      · rw [ix_22 hi]
        simp only [stp, Nat.reduceAdd, Int.reduceLT, Int.reduceLE, Int.reduceEq, Int.reduceNe, ne_eq, bne_self_eq_false, beq_self_eq_true, stm, p0, p1, p2, p3, p4, p5, ho1.1, ho1.2, Option.isSome_some, Option.getD_some]
        have k3 := (K0.refl u).alloc (.cells #[.int .i64 l[i].kind, .int .i64 l[i].node, .int .u64 l[i].epoch, .int .u64 l[i].lsn, l[i].rv, l[i].wv] tEv)
        have x0 : Sh.cel (u.alloc (.cells #[.int .i64 l[i].kind, .int .i64 l[i].node, .int .u64 l[i].epoch, .int .u64 l[i].lsn, l[i].rv, l[i].wv] tEv)) (siz u) 0 = some (.int .i64 l[i].kind) := cel_alloc_new
        generalize u.alloc (.cells #[.int .i64 l[i].kind, .int .i64 l[i].node, .int .u64 l[i].epoch, .int .u64 l[i].lsn, l[i].rv, l[i].wv] tEv) = u3 at k3 x0
        generalize siz u = bz at x0
        have ku3 := ku.trans k3
        have hy3 := hy.keep0 k3
        by_cases c1 : l[i].kind < 1
        · simp only [stp, Nat.reduceAdd, Int.reduceLT, Int.reduceLE, Int.reduceEq, Int.reduceNe, ne_eq, bne_self_eq_false, beq_self_eq_true, stm, x0, c1, Option.isSome_some, Option.getD_some]
          refine badkind hwn (kall ?_) u3 ku3
          rw [hk1]; simp; omega
        by_cases c2 : (4 : Int) < l[i].kind
        · simp only [stp, Nat.reduceAdd, Int.reduceLT, Int.reduceLE, Int.reduceEq, Int.reduceNe, ne_eq, bne_self_eq_false, beq_self_eq_true, stm, x0, c1, c2, Option.isSome_some, Option.getD_some]
          refine badkind hwn (kall ?_) u3 ku3
          rw [hk1]; simp; omega
        have hk2 : kindsF (l.take (i + 1)) = true := by rw [hk1]; simp; omega
        by_cases e3 : l[i].kind = 3
        · simp only [stp, Nat.reduceAdd, Int.reduceLT, Int.reduceLE, Int.reduceEq, Int.reduceNe, ne_eq, bne_self_eq_false, beq_self_eq_true, stm, x0, c1, c2, e3, Option.isSome_some, Option.getD_some]
          refine bounds_c (hr.keep0 ku3) hl (fun x hx => (ho x hx).keep0 ku3) hi fun u4 k4 => ?_
          rw [if_pos e3] at hct
          have hab : mostF (l.take i) l[i] - leastF (l.take i) l[i] < 3000 := by
            refine hsmall (leastF (l.take i) l[i], mostF (l.take i) l[i]) ?_
            have e : cutsR [] l = cutsR [] (l.take (i + 1) ++ l.drop (i + 1)) := by rw [List.take_append_drop]
            rw [e, cutsR_append, hct]; simp
          generalize leastF (l.take i) l[i] = a at hbi hct hab
          generalize mostF (l.take i) l[i] = b at hbi hct hab
          have hws : IntKind.u64.wrap (b - a) = b - a := wrap_u (by omega) (by omega)
          obtain ⟨nn, hnn⟩ : ∃ nn : Nat, (nn : Int) = b - a + 1 := ⟨(b - a + 1).toNat, by omega⟩
          have hm1 : IntKind.u64.wrap (nn : Int) = (nn : Int) := wrap_u (by omega) (by omega)
          have hm3 : IntKind.i64.wrap (nn : Int) = (nn : Int) := wrap_id (by omega) (by omega)
          simp only [stp, Nat.reduceAdd, Int.reduceLT, Int.reduceLE, Int.reduceEq, Int.reduceNe, ne_eq, bne_self_eq_false, beq_self_eq_true, stm, hws, hm1, hm3, ← hnn]
          have s4 := (ku3.trans k4).size
          have hrl : rangeF (a, b) = (List.range nn).map fun k => a + (k : Nat) := by
            unfold rangeF
            rw [show (b - a + 1).toNat = nn by omega]
          refine lpc2 nn (by omega) (fun j y u5 => K0 u4 u5 ∧ Sh.Own u5 (siz u4) 64 1 y j (flat encN ((rangeF (a, b)).take j))) ⟨K0.refl _, Sh.Own.nil _ _ _ _⟩ (fun j y u5 hj ⟨k5, o5⟩ J5 hJ5 => ?_) (fun y u5 ⟨k5, o5⟩ J5 => ?_)
          · intro _j
            have hj' : ((j : Int) < (nn : Int)) := by omega
            have hc1 : IntKind.u64.wrap (j : Int) = (j : Int) := wrap_u (by omega) (by omega)
            have hc2 : IntKind.u64.wrap (a + (j : Int)) = a + (j : Int) := wrap_u (by omega) (by omega)
            simp only [stp, Nat.reduceAdd, Int.reduceLT, Int.reduceLE, Int.reduceEq, Int.reduceNe, ne_eq, bne_self_eq_false, beq_self_eq_true, stm, hj', hc1, hc2]
            refine pu_23 o5 (fun y hy => by rw [List.mem_singleton.1 hy]; rfl) (by omega) k5.size fun v' u6 o6 k6 _ => ?_
            try simp only [stp, Nat.reduceAdd, Int.reduceLT, Int.reduceLE, Int.reduceEq, Int.reduceNe, ne_eq, bne_self_eq_false, beq_self_eq_true]
            refine hJ5 _ _ ⟨k5.trans' k6 fun q hq e => by have := (Sh.Own.lt o5 e).1; omega, ?_⟩
            rw [List.take_add_one, hrl, List.getElem?_map, List.getElem?_range hj, flat_append, ← hrl]
            exact o6
          · intro _j
            have hj' : ¬ ((nn : Int) < (nn : Int)) := by omega
            have hrn : (rangeF (a, b)).length = nn := by rw [hrl]; simp
            rw [List.take_of_length_le (by omega)] at o5
            obtain ⟨pv, cv, rfl⟩ := o5.form
            simp only [stp, Nat.reduceAdd, Int.reduceLT, Int.reduceLE, Int.reduceEq, Int.reduceNe, ne_eq, bne_self_eq_false, beq_self_eq_true, stm, hj']
            have k45 := k4.trans k5
            have hy5 := hy3.keep0 k45
            have hvl : vs.length ≤ l.length := by
              rw [hy5.n]
              have : (cutsR [] (l.take i)).length ≤ i := by
                clear hct hk1 kall hJ hJ1
                have gen : ∀ (l' pre : List Ev), (cutsR pre l').length ≤ l'.length := by
                  intro l'
                  induction l' with
                  | nil => intro pre; simp [cutsR]
                  | cons x l' ih => intro pre; have := ih (pre ++ [x]); simp only [cutsR, List.length_append, List.length_cons]; split <;> simp <;> omega
                have := gen (l.take i) []
                rw [List.length_take] at this
                omega
              simp only [choicesF, List.length_map]
              omega
            have s5 := k5.size
            refine pu_29 hy5.o (fun y hy => by rw [List.mem_singleton.1 hy]; rfl) (by omega) (by omega) fun v' u6 o6 k6 _ => ?_
            have hch : choicesF (l.take (i + 1)) = choicesF (l.take i) ++ [rangeF (a, b)] := by unfold choicesF; rw [hct]; simp
            have hne : ∀ {n : Nat} {z : Value} {xs : List Value} {B' : Nat}, Sh.Own u5 B' 64 1 z n xs → Sh.Own u6 B' 64 1 z n xs := fun {n z xs B'} oz => oz.keep k6 fun q hq e => by
              obtain ⟨_, cs1, h1⟩ := oz.ty hq
              obtain ⟨_, cs2, h2⟩ := hy5.o.ty e
              rw [h1] at h2
              injection h2 with h2
              injection h2 with _ h2
              exact absurd h2 (by decide)
            refine hJ1 _ _ ⟨vs ++ [.slice pv nn cv], (ku3.trans k45).trans' k6 fun q hq e => by have := (hy5.o.lt e).1; omega, ⟨by rw [List.length_append]; exact o6, by rw [hch]; simp [hy5.n], fun j h1 h2 => ?_, fun j j' h1 h2 q hjj hq => ?_⟩, hk2⟩
            · simp only [hch]
              rcases Nat.lt_or_ge j vs.length with hjv | hjv
              · rw [List.getElem_append_left hjv, List.getElem_append_left (by rw [← hy5.n]; exact hjv)]
                exact hne (hy5.each j hjv (by rw [← hy5.n]; exact hjv))
              · have hje : j = vs.length := by simp at h1; omega
                subst hje
                rw [List.getElem_append_right (Nat.le_refl _), List.getElem_append_right (by rw [hy5.n]; exact Nat.le_refl _)]
                simp only [Nat.sub_self, hy5.n, List.getElem_cons_zero]
                rw [hrn]
                exact (hne o5).le (by omega)
            · rcases Nat.lt_or_ge j' vs.length with hjv | hjv
              · rw [List.getElem_append_left (by omega)] at hq
                rw [List.getElem_append_left hjv]
                exact hy5.dis j j' (by omega) hjv q hjj hq
              · have hje : j' = vs.length := by simp at h2; omega
                subst hje
                rw [List.getElem_append_left (by omega)] at hq
                rw [List.getElem_append_right (Nat.le_refl _)]
                simp only [Nat.sub_self, List.getElem_cons_zero]
                intro e
                have h7 := ((hy3.keep0 k4).each j (by omega) (by rw [← hy5.n]; omega)).lt hq
                have h8 := (o5.lt e).1
                omega
        · simp only [stp, Nat.reduceAdd, Int.reduceLT, Int.reduceLE, Int.reduceEq, Int.reduceNe, ne_eq, bne_self_eq_false, beq_self_eq_true, stm, x0, c1, c2, e3, Option.isSome_some, Option.getD_some]
          rw [if_neg e3, List.append_nil] at hct
          refine hJ1 _ _ ⟨vs, ku3, ?_, hk2⟩
          unfold choicesF at hy3 ⊢
          rw [hct]; exact hy3
      · rintro y' u' h' _j
        try simp only [stp, Nat.reduceAdd, Int.reduceLT, Int.reduceLE, Int.reduceEq, Int.reduceNe, ne_eq, bne_self_eq_false, beq_self_eq_true]
        exact hJ _ _ h'
    · intro _j
      have hi' : ¬ ((l.length : Int) < (l.length : Int)) := by omega
      simp only [stp, Nat.reduceAdd, Int.reduceLT, Int.reduceLE, Int.reduceEq, Int.reduceNe, ne_eq, bne_self_eq_false, beq_self_eq_true, hi']
      rw [List.take_length] at hy hkd
      exact hq0 u y vs (good hwn hkd) ku hy
end
end Go.Proofs.YtmmnifbponhhfaaGreatT
