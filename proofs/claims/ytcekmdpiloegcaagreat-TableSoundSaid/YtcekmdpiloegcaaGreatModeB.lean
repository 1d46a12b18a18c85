/- Locks: raised, asked for, as few as it takes; what of them is not held. Conditions: as each says. -/
import Derived.Test.YtcekmdpiloegcaaGreatModeA
set_option linter.unusedSimpArgs false
set_option linter.unusedVariables false
namespace Go.Proofs.YtcekmdpiloegcaaGreat
open Go.Sh Go.Proofs.YtcekmdpiloegcaaGreat.Mi
set_option maxRecDepth 100000
section
variable {w : World} {Q : Value → World → Prop} {m : Nat} {l : List (Pt Int)}

theorem set_any {a b v : Int} (hm : IM w m l) (hl : l.length ≤ 300000)
    (hq : ∀ w' l' r, IM w' m l' → (∀ x, valB l' x = if hasB (a, b) x then some v else valB l x) → l'.length ≤ l.length + 2 → Keep (fun b => b = m) w w' → Q (.bool r) w') :
    callS Tryz.prog 25 #[.pointer (some ⟨m, 0, none⟩), .agg #[.int .i64 a, .int .i64 b], .int .i64 v] Q w := by
  by_cases h0 : ok (a, b)
  · exact set_ok hm h0 hl fun w' l' h1 h2 h3 h4 => hq w' l' _ h1 h2 h3 h4
  · exact set_no (v := v) h0 fun w' k => hq w' l _ (hm.keep0 k) (fun x => by rw [if_neg (fun h => h0 h.1)]) (by omega) k.none

theorem raise_c {a b md : Int} (hm : IM w m l) (hl : l.length ≤ 50000)
    (hq : ∀ w' l', IM w' m l' → (∀ x, valB l' x = updM (valB l) (a, b) md x) → Keep (fun b => b = m) w w' → Q (.tuple #[]) w') :
    callS Tryz.prog 20 #[.pointer (some ⟨m, 0, none⟩), .agg #[.int .i64 a, .int .i64 b, .int .i64 md]] Q w := by
  refine ref20 ?_
  unfold S20
  have hcan := hm.canon
  have hmlt := hm.lt
  simp only [act_box, agg_cells]
  have x0 : cel (w.alloc (.cells #[.int .i64 a, .int .i64 b, .int .i64 md] 29)) (siz w) 0 = some (.int .i64 a) := cel_alloc_new
  have x1 : cel (w.alloc (.cells #[.int .i64 a, .int .i64 b, .int .i64 md] 29)) (siz w) 1 = some (.int .i64 b) := cel_alloc_new
  have x2 : cel (w.alloc (.cells #[.int .i64 a, .int .i64 b, .int .i64 md] 29)) (siz w) 2 = some (.int .i64 md) := cel_alloc_new
  have k1 := (Keep.refl (fun _ => False) w).alloc (.cells #[.int .i64 a, .int .i64 b, .int .i64 md] 29)
  have s1 : siz (w.alloc (.cells #[.int .i64 a, .int .i64 b, .int .i64 md] 29)) = siz w + 1 := siz_alloc
  generalize w.alloc (.cells #[.int .i64 a, .int .i64 b, .int .i64 md] 29) = w1 at x0 x1 x2 k1 s1
  have m1 := hm.keep0 k1
  try simp only [stp, Nat.reduceAdd, Int.reduceLT, Int.reduceLE, Int.reduceEq, Int.reduceNe, ne_eq, bne_self_eq_false, beq_self_eq_true, stm, x0, x1]
  refine parts_c m1 (by omega) fun w2 v2 o2 k2 => ?_
  have m2 := m1.keep0 k2
  have y0 := k2.cel x0 id
  have y1 := k2.cel x1 id
  have y2 := k2.cel x2 id
  have hPl := partsL_len (a, b) l
  have hPc := partsL_canon (s := (a, b)) hcan
  have hPv := partsL_val (a, b) l hcan.1
  have hPi : ∀ p ∈ partsL (a, b) l, ∀ x, hasB p.1 x → hasB (a, b) x := fun p hp x hx => by
    have hv := valB_mem hPc.apart hp hx
    rw [hPv] at hv
    by_cases h : hasB (a, b) x
    · exact h
    · rw [if_neg h] at hv; cases hv
  generalize partsL (a, b) l = P at o2 hPl hPc hPv hPi
  obtain ⟨pa, ca, rfl⟩ := o2.form
  try simp only [stp, Nat.reduceAdd, Int.reduceLT, Int.reduceLE, Int.reduceEq, Int.reduceNe, ne_eq, bne_self_eq_false, beq_self_eq_true, stm, y0, y1, y2]
  refine set_any m2 (by omega) fun w3 l3 _ m3 hv3 hl3 k3 => ?_
  try simp only [stp, Nat.reduceAdd, Int.reduceLT, Int.reduceLE, Int.reduceEq, Int.reduceNe, ne_eq, bne_self_eq_false, beq_self_eq_true]
  have o3 := m2.list o2 (by decide) k3
  have s2 := k2.size
  have z2 : cel w3 (siz w) 2 = some (.int .i64 md) := k3.cel y2 (by omega)
  refine lp1 (fun mm y w' => Keep (fun b => b = m) w3 w' ∧ ∃ (i : Nat) (l' : List (Pt Int)), y = .int .i64 (i : Int) ∧ i ≤ P.length ∧ mm = P.length - i ∧ IM w' m l' ∧ l'.length ≤ l.length + 2 + 2 * i ∧
    (∀ x, valB l' x = if hasB (a, b) x then some (match valB (P.take i) x with | some v => max v md | none => md) else valB l x)) P.length
    ⟨Keep.refl _ _, 0, l3, rfl, Nat.zero_le _, by omega, m3, by omega, fun x => by rw [hv3]; simp [valB]⟩ ?_
  rintro mm y w4 ⟨k4, i, l4, rfl, hi, rfl, m4, hl4, hv4⟩ J hJ _
  have hwi := wrap_succ (i := i) (by omega)
  by_cases hlt : i < P.length
  · have hlt' : ((i : Int) < (P.length : Int)) := by omega
    have hsi : P[i]? = some P[i] := List.getElem?_eq_getElem hlt
    have hokp := hPc.1 _ (List.getElem_mem hlt)
    obtain ⟨g, cg, e, _, _, _, _, _, hcel⟩ := (m3.list o3 (by decide) k4).at (by omega)
    injection e with e1 _ e2
    subst e1 e2
    obtain ⟨p0, p1, p2⟩ := parts_at (ev := ev) (b := g) (o := 0) (l := P) (fun j hj => by rw [Nat.zero_add]; exact hcel j hj) hsi
    rw [Nat.zero_add] at p0 p1 p2
    simp only [stp, Nat.reduceAdd, Int.reduceLT, Int.reduceLE, Int.reduceEq, Int.reduceNe, ne_eq, bne_self_eq_false, beq_self_eq_true, hlt']
    rw [ix_62 hlt]
    simp only [stp, Nat.reduceAdd, Int.reduceLT, Int.reduceLE, Int.reduceEq, Int.reduceNe, ne_eq, bne_self_eq_false, beq_self_eq_true, stm, p0, p1, p2]
    have k5 := (Keep.refl (fun _ => False) w4).alloc (.cells #[.int .i64 P[i].1.1, .int .i64 P[i].1.2, .int .i64 P[i].2] 65)
    have u0 : cel (w4.alloc (.cells #[.int .i64 P[i].1.1, .int .i64 P[i].1.2, .int .i64 P[i].2] 65)) (siz w4) 0 = some (.int .i64 P[i].1.1) := cel_alloc_new
    have u1 : cel (w4.alloc (.cells #[.int .i64 P[i].1.1, .int .i64 P[i].1.2, .int .i64 P[i].2] 65)) (siz w4) 1 = some (.int .i64 P[i].1.2) := cel_alloc_new
    have u2 : cel (w4.alloc (.cells #[.int .i64 P[i].1.1, .int .i64 P[i].1.2, .int .i64 P[i].2] 65)) (siz w4) 2 = some (.int .i64 P[i].2) := cel_alloc_new
    have m5 := m4.keep0 k5
    have s45 := k5.size
    have s34 := k4.size
    have s23 := k3.size
    have z5 : cel (w4.alloc (.cells #[.int .i64 P[i].1.1, .int .i64 P[i].1.2, .int .i64 P[i].2] 65)) (siz w) 2 = some (.int .i64 md) := k5.cel (k4.cel z2 (by omega)) id
    generalize w4.alloc (.cells #[.int .i64 P[i].1.1, .int .i64 P[i].1.2, .int .i64 P[i].2] 65) = w5 at k5 u0 u1 u2 m5 s45 z5
    refine ⟨fun w' => Keep (fun b => b = m) w5 w', (Keep.refl _ w5).drew, ?_⟩
    have hS0 : ∀ w', Keep (fun b => b = m) w5 w' → cel w' (siz w4) 0 = some (.int .i64 P[i].1.1) ∧ cel w' (siz w4) (0 + 1) = some (.int .i64 P[i].1.2) := fun w' k => ⟨k.cel u0 (by omega), k.cel u1 (by omega)⟩
    have ld1 : ∀ {g o : Nat} {v : Value} {k : Value → Prop}, (∀ w', Keep (fun b => b = m) w5 w' → cel w' g o = some v) → k v → hld Tryz.prog (fun w' => Keep (fun b => b = m) w5 w') (Instr.loadAt 3 (.pointer (some ⟨g, o, none⟩))) k := fun h hk => hld_of _ (fun w' hw' => rl_3 (h w' hw')) hk
    refine hl_span hS0 ?_
    try simp only [stp, Nat.reduceAdd, Int.reduceLT, Int.reduceLE, Int.reduceEq, Int.reduceNe, ne_eq, bne_self_eq_false, beq_self_eq_true]
    refine ld1 (fun w' k => k.cel u2 (by omega)) ?_
    try simp only [stp, Nat.reduceAdd, Int.reduceLT, Int.reduceLE, Int.reduceEq, Int.reduceNe, ne_eq, bne_self_eq_false, beq_self_eq_true]
    refine ld1 (fun w' k => k.cel z5 (by omega)) ?_
    refine mjoin_c ⟨(Keep.refl _ w5).drew, ?_⟩
    refine set_any (m5.keep0 (Keep.refl _ w5).drew) (by omega) fun w6 l6 _ m6 hv6 hl6 k6 => ⟨(Keep.refl _ w5).drew.trans k6, ?_⟩
    simp only [stp, Nat.reduceAdd, Int.reduceLT, Int.reduceLE, Int.reduceEq, Int.reduceNe, ne_eq, bne_self_eq_false, beq_self_eq_true, hwi]
    refine hJ (P.length - (i + 1)) _ _ (by omega) ⟨(k4.trans k5.none).trans ((Keep.refl _ w5).drew.trans k6), i + 1, l6, rfl, by omega, rfl, m6, by omega, fun x => ?_⟩
    rw [hv6, hv4, List.take_add_one, hsi, Option.toList_some, valB_append]
    have hdis : hasB P[i].1 x → valB (P.take i) x = none := fun hx => by
      have ha := hPc.apart
      have e : P.take i ++ [P[i]] = P.take (i + 1) := by rw [List.take_add_one, hsi]; rfl
      have : Apart (P.take i ++ [P[i]]) := by
        rw [e]
        exact ⟨fun p hp => ha.1 p (List.mem_of_mem_take hp), ha.2.sublist (List.take_sublist _ _)⟩
      exact valB_none.2 fun p hp hh => (List.pairwise_append.1 this.2).2.2 p hp P[i] (by simp) x ⟨hh, hx⟩
    by_cases hx : hasB P[i].1 x
    · have h1 : hasB (P[i].1.1, P[i].1.2) x := hx
      rw [if_pos h1, if_pos (hPi _ (List.getElem_mem hlt) x hx), hdis hx]
      simp [valB, hx]
    · have h1 : ¬ hasB (P[i].1.1, P[i].1.2) x := hx
      rw [if_neg h1]; simp [valB, hx]
  · have hlt' : ¬ ((i : Int) < (P.length : Int)) := by omega
    have hil : i = P.length := by omega
    simp only [stp, Nat.reduceAdd, Int.reduceLT, Int.reduceLE, Int.reduceEq, Int.reduceNe, ne_eq, bne_self_eq_false, beq_self_eq_true, hlt']
    rw [hil, List.take_length] at hv4
    refine hq _ l4 m4 (fun x => ?_) (((k1.trans k2).none.trans k3).trans k4)
    rw [hv4]
    unfold updM
    by_cases hx : hasB (a, b) x
    · rw [if_pos hx, if_pos hx, hPv, if_pos hx]
      cases valB l x <;> rfl
    · rw [if_neg hx, if_neg hx]

theorem locks_at {b o : Nat} {L : List I3} (hc : ∀ j, j < L.length * 3 → cel w b (o + j) = (flat enc3 L)[j]?) {i : Nat} {p : I3} (h : L[i]? = some p) :
    cel w b (o + i * 3) = some (.int .i64 p.1) ∧ cel w b (o + i * 3 + 1) = some (.int .i64 p.2.1) ∧ cel w b (o + i * 3 + 2) = some (.int .i64 p.2.2) := by
  have hi := (List.getElem?_eq_some_iff.1 h).1
  refine ⟨?_, ?_, ?_⟩
  · rw [hc _ (by omega)]; exact flat_get (enc := enc3) enc3_len h (j := 0) (by omega)
  · rw [Nat.add_assoc, hc _ (by omega)]; exact flat_get (enc := enc3) enc3_len h (j := 1) (by omega)
  · rw [Nat.add_assoc, hc _ (by omega)]; exact flat_get (enc := enc3) enc3_len h (j := 2) (by omega)

theorem asked_c {v : Value} {L : List I3} (h : Rd 3 w v L.length (flat enc3 L)) (hL : L.length ≤ 10000)
    (hq : ∀ w' m' l', siz w ≤ m' → IM w' m' l' → (∀ x, valB l' x = askF L x) → l'.length ≤ 2 * L.length → Keep (fun b => siz w ≤ b) w w' → Q (.pointer (some ⟨m', 0, none⟩)) w') :
    callS Tryz.prog 52 #[v] Q w := by
  refine ref52 ?_
  unfold S52
  refine new_c fun w1 m1 k1 => ?_
  obtain ⟨pa, ca, rfl⟩ := h.form
  simp only [stp, Nat.reduceAdd, Int.reduceLT, Int.reduceLE, Int.reduceEq, Int.reduceNe, ne_eq, bne_self_eq_false, beq_self_eq_true]
  refine lp1 (fun mm y w' => Keep (fun b => siz w ≤ b) w w' ∧ ∃ (i : Nat) (l' : List (Pt Int)), y = .int .i64 (i : Int) ∧ i ≤ L.length ∧ mm = L.length - i ∧ IM w' (siz w) l' ∧ ∀ x, valB l' x = askF (L.take i) x) L.length
    ⟨k1.none, 0, [], rfl, Nat.zero_le _, by omega, m1, fun x => rfl⟩ ?_
  rintro mm y w2 ⟨k2, i, l2, rfl, hi, rfl, m2, hv2⟩ J hJ _
  have hwi := wrap_succ (i := i) (by omega)
  have hl2 : l2.length ≤ 2 * i := by
    have := chg_len m2.canon (E := ends (L.take i)) (by rw [show valB l2 = askF (L.take i) from funext hv2]; exact askF_chg _)
    rw [ends_len, List.length_take] at this
    omega
  by_cases hlt : i < L.length
  · have hlt' : ((i : Int) < (L.length : Int)) := by omega
    have hsi : L[i]? = some L[i] := List.getElem?_eq_getElem hlt
    have hA : askF (L.take (i + 1)) = ask1 (askF (L.take i)) L[i] := by rw [List.take_add_one, hsi, Option.toList_some, askF_snoc]
    obtain ⟨b, o, c', e, _, hcel⟩ := (h.keep k2 fun _ _ hs => Nat.not_le.2 hs).at (by omega)
    injection e with e1 _ e2
    subst e1 e2
    obtain ⟨c0, c1, c2⟩ := locks_at hcel hsi
    simp only [stp, Nat.reduceAdd, Int.reduceLT, Int.reduceLE, Int.reduceEq, Int.reduceNe, ne_eq, bne_self_eq_false, beq_self_eq_true, hlt']
    refine jn0 (fun w' => Keep (fun b => siz w ≤ b) w w' ∧ ∃ l' : List (Pt Int), IM w' (siz w) l' ∧ ∀ x, valB l' x = askF (L.take (i + 1)) x) (fun J' hJ' => ?_) ?_
    · rw [ix_69 hlt]
      simp only [stp, Nat.reduceAdd, Int.reduceLT, Int.reduceLE, Int.reduceEq, Int.reduceNe, ne_eq, bne_self_eq_false, beq_self_eq_true, stm, c0, c1, c2]
      have k3 := (Keep.refl (fun _ => False) w2).alloc (.cells #[.int .i64 L[i].1, .int .i64 L[i].2.1, .int .i64 L[i].2.2] 29)
      have k23 := k2.trans k3.none
      have m3 := m2.keep0 k3
      have yes : isM L[i] → callS Tryz.prog 20 #[.pointer (some ⟨siz w, 0, none⟩), .agg #[.int .i64 L[i].1, .int .i64 L[i].2.1, .int .i64 L[i].2.2]] (fun _ w_11 => J' w_11) (w2.alloc (.cells #[.int .i64 L[i].1, .int .i64 L[i].2.1, .int .i64 L[i].2.2] 29)) := fun hM =>
        raise_c m3 (by omega) fun w4 l4 m4 hv4 k4 => hJ' _ ⟨k23.trans (k4.mono fun b _ e => by subst e; exact Nat.le_refl _), l4, m4, fun x => by
          rw [hv4, hA]
          unfold ask1
          rw [if_pos hM]
          unfold updM
          rw [hv2]⟩
      by_cases h1 : L[i].2.2 = 1
      · have := yes (.inl h1)
        rw [h1] at this ⊢
        simp only [stp, Nat.reduceAdd, Int.reduceLT, Int.reduceLE, Int.reduceEq, Int.reduceNe, ne_eq, bne_self_eq_false, beq_self_eq_true, stm]
        exact this
      · by_cases h2 : L[i].2.2 = 2
        · have := yes (.inr h2)
          rw [h2] at this ⊢
          simp only [stp, Nat.reduceAdd, Int.reduceLT, Int.reduceLE, Int.reduceEq, Int.reduceNe, ne_eq, bne_self_eq_false, beq_self_eq_true, stm]
          exact this
        · simp only [stp, Nat.reduceAdd, Int.reduceLT, Int.reduceLE, Int.reduceEq, Int.reduceNe, ne_eq, bne_self_eq_false, beq_self_eq_true, stm, h1, h2]
          refine hJ' _ ⟨k23, l2, m3, fun x => ?_⟩
          rw [hv2, hA]
          unfold ask1
          rw [if_neg (fun h => h.elim h1 h2)]
    · rintro w4 ⟨k4, l4, m4, hv4⟩ _
      simp only [stp, Nat.reduceAdd, Int.reduceLT, Int.reduceLE, Int.reduceEq, Int.reduceNe, ne_eq, bne_self_eq_false, beq_self_eq_true, hwi]
      exact hJ (L.length - (i + 1)) _ _ (by omega) ⟨k4, i + 1, l4, rfl, by omega, rfl, m4, hv4⟩
  · have hlt' : ¬ ((i : Int) < (L.length : Int)) := by omega
    have hil : i = L.length := by omega
    simp only [stp, Nat.reduceAdd, Int.reduceLT, Int.reduceLE, Int.reduceEq, Int.reduceNe, ne_eq, bne_self_eq_false, beq_self_eq_true, hlt']
    rw [hil, List.take_length] at hv2
    exact hq _ _ l2 (Nat.le_refl _) m2 hv2 (by omega) k2

theorem locks_c (hm : IM w m l) (hl : l.length ≤ 1000000) (hq : ∀ w' v', Own w' (siz w) 29 3 v' (asLocks l).length (flat enc3 (asLocks l)) → Keep (fun _ => False) w w' → Q v' w') :
    callS Tryz.prog 53 #[.pointer (some ⟨m, 0, none⟩)] Q w := by
  refine ref53 ?_
  unfold S53
  refine all_c hm hl fun w1 v1 o1 k1 => ?_
  have s1 := k1.size
  obtain ⟨pa, ca, rfl⟩ := o1.form
  simp only [stp, Nat.reduceAdd, Int.reduceLT, Int.reduceLE, Int.reduceEq, Int.reduceNe, ne_eq, bne_self_eq_false, beq_self_eq_true]
  refine lp2 (fun mm x y w' => Keep (fun _ => False) w1 w' ∧ ∃ i : Nat, y = .int .i64 (i : Int) ∧ i ≤ l.length ∧ mm = l.length - i ∧ Own w' (siz w1) 29 3 x i (flat enc3 (asLocks (l.take i)))) l.length
    ⟨Keep.refl _ _, 0, rfl, Nat.zero_le _, by omega, Own.nil _ _ _ _⟩ ?_
  rintro mm x y w2 ⟨k2, i, rfl, hi, rfl, o2⟩ J hJ _
  have hwi := wrap_succ (i := i) (by omega)
  have s12 := k2.size
  by_cases hlt : i < l.length
  · have hlt' : ((i : Int) < (l.length : Int)) := by omega
    have hsi : l[i]? = some l[i] := List.getElem?_eq_getElem hlt
    obtain ⟨g, cg, e, _, _, _, _, _, hcel⟩ := (o1.keep k2 fun _ _ => id).at (by omega)
    injection e with e1 _ e2
    subst e1 e2
    obtain ⟨p0, p1, p2⟩ := parts_at (ev := ev) (b := g) (o := 0) (l := l) (fun j hj => by rw [Nat.zero_add]; exact hcel j hj) hsi
    rw [Nat.zero_add] at p0 p1 p2
    simp only [stp, Nat.reduceAdd, Int.reduceLT, Int.reduceLE, Int.reduceEq, Int.reduceNe, ne_eq, bne_self_eq_false, beq_self_eq_true, hlt']
    rw [ix_62 hlt]
    simp only [stp, Nat.reduceAdd, Int.reduceLT, Int.reduceLE, Int.reduceEq, Int.reduceNe, ne_eq, bne_self_eq_false, beq_self_eq_true, stm, p0, p1, p2]
    have k3 := (Keep.refl (fun _ => False) w2).alloc (.cells #[.int .i64 l[i].1.1, .int .i64 l[i].1.2, ev l[i].2] 65)
    have o3 := o2.keep k3 fun _ _ => id
    have s23 := k3.size
    refine pu_69 o3 (by intro u hu; simp only [List.mem_cons, List.not_mem_nil, or_false] at hu; rcases hu with rfl | rfl | rfl <;> exact one_int) (by omega) (by omega) fun v' w' ho hk hr => ?_
    simp only [hwi]
    refine hJ (l.length - (i + 1)) _ _ _ (by omega) ⟨(k2.trans k3).trans' hk fun b hb e => by have := (o3.lt e).1; omega, i + 1, rfl, by omega, rfl, ?_⟩
    have e9 : asLocks (l.take (i + 1)) = asLocks (l.take i) ++ [(l[i].1.1, l[i].1.2, l[i].2)] := by
      rw [List.take_add_one, hsi, Option.toList_some]; unfold asLocks; rw [List.map_append]; rfl
    rw [e9, flat_append]
    exact ho
  · have hlt' : ¬ ((i : Int) < (l.length : Int)) := by omega
    have hil : i = l.length := by omega
    simp only [stp, Nat.reduceAdd, Int.reduceLT, Int.reduceLE, Int.reduceEq, Int.reduceNe, ne_eq, bne_self_eq_false, beq_self_eq_true, hlt']
    rw [hil, List.take_length] at o2
    exact hq _ _ (by rw [asLocks_len]; exact o2.le s1) (k1.trans k2)

end
end Go.Proofs.YtcekmdpiloegcaaGreat
