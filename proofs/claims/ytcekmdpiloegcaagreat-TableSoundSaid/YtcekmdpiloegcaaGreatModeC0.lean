/- Locks: what of them is not held; the first call whose answer the document fixes. Conditions: as each says. -/
import Derived.Test.YtcekmdpiloegcaaGreatModeB
import Derived.Test.YtcekmdpiloegcaaGreatBlkX
set_option linter.unusedSimpArgs false
set_option linter.unusedVariables false
namespace Go.Proofs.YtcekmdpiloegcaaGreat
open Go.Sh Go.Proofs.YtcekmdpiloegcaaGreat.Mi
set_option maxRecDepth 100000
section
variable {w : World} {Q : Value → World → Prop} {m : Nat} {l : List (Pt Int)}
theorem im_keepB {w' : World} (h : IM w m l) (k : Keep (fun b => siz w ≤ b) w w') : IM w' m l := by
  obtain ⟨sl, h1, h2, h3⟩ := h
  exact ⟨sl, by rw [k.block m (blk_lt h1) (Nat.not_le.2 (blk_lt h1))]; exact h1, h2.keep k fun g hg e => by have := (h2.lt hg).2; omega, h3⟩
/-- What is held: nothing, or a map. -/
def Held (w : World) (hv : Value) (lh : List (Pt Int)) : Prop := (hv = .pointer none ∧ lh = []) ∨ ∃ m, hv = .pointer (some ⟨m, 0, none⟩) ∧ IM w m lh
theorem Held.keepB {w' : World} {hv : Value} {lh : List (Pt Int)} (h : Held w hv lh) (k : Keep (fun b => siz w ≤ b) w w') : Held w' hv lh := by
  rcases h with h | ⟨m, e, h⟩
  · exact .inl h
  · exact .inr ⟨m, e, im_keepB h k⟩
theorem Held.canon {hv : Value} {lh : List (Pt Int)} (h : Held w hv lh) : Canon lh := by
  rcases h with ⟨_, rfl⟩ | ⟨m, _, h⟩
  · exact Canon.nil
  · exact h.canon
theorem hparts_c {hv : Value} {lh : List (Pt Int)} {a b : Int} (h : Held w hv lh) (hl : lh.length ≤ 1000000)
    (hq : ∀ w' v', Own w' (siz w) 65 3 v' (partsL (a, b) lh).length (flat enc (partsL (a, b) lh)) → Keep (fun _ => False) w w' → Q v' w') :
    callS Tryz.prog 23 #[hv, .agg #[.int .i64 a, .int .i64 b]] Q w := by
  rcases h with ⟨rfl, rfl⟩ | ⟨m, rfl, h⟩
  · exact nparts_c fun w' k => hq w' _ (Own.nil _ _ _ _) k
  · exact parts_c h hl hq
def cov (hv md : Int) : Prop := isMd hv ∧ isMd md ∧ md ≤ hv
instance (a b : Int) : Decidable (cov a b) := by unfold cov; infer_instance
def needF (A H : Option Int) : Option Int :=
  match A, H with
  | some md, some hv => if cov hv md then none else some md
  | a, _ => a
theorem needF_none (A : Option Int) : needF A none = A := by cases A <;> rfl
theorem needF_some (md hv : Int) : needF (some md) (some hv) = if cov hv md then none else some md := rfl
theorem clear_any {a b : Int} (hm : IM w m l) (hl : l.length ≤ 300000)
    (hq : ∀ w' l' r, IM w' m l' → (∀ x, valB l' x = if hasB (a, b) x then none else valB l x) → l'.length ≤ l.length + 1 → Keep (fun b => b = m) w w' → Q (.bool r) w') :
    callS Tryz.prog 24 #[.pointer (some ⟨m, 0, none⟩), .agg #[.int .i64 a, .int .i64 b]] Q w := by
  by_cases h0 : ok (a, b)
  · exact clear_ok hm h0 hl fun w' l' h1 h2 h3 h4 => hq w' l' _ h1 h2 h3 h4
  · exact clear_no h0 fun w' k => hq w' l _ (hm.keep0 k) (fun x => by rw [if_neg (fun h => h0 h.1)]) (by omega) k.none
theorem needs_c {hv v : Value} {lh : List (Pt Int)} {L : List I3} (hh : Held w hv lh) (hlh : lh.length ≤ 5000) (h : Rd 3 w v L.length (flat enc3 L)) (hL : L.length ≤ 5000)
    (hq : ∀ w' v' l', Canon l' → (∀ x, valB l' x = needF (askF L x) (valB lh x)) → l'.length ≤ 200000 → Own w' (siz w) 29 3 v' (asLocks l').length (flat enc3 (asLocks l')) → Keep (fun b => siz w ≤ b) w w' → Q v' w') :
    callS Tryz.prog 36 #[hv, v] Q w := by
  refine ref36 ?_
  unfold S36
  refine asked_c h (by omega) fun w1 m l1 hmw m1 hv1 hl1 k1 => ?_
  refine locks_c m1 (by omega) fun w2 v2 o2 k2 => ?_
  have m2 := m1.keep0 k2
  have k02 := k1.trans k2.none
  have hc1 := m1.canon
  have hmode : ∀ p ∈ l1, p.2 = 1 ∨ p.2 = 2 := fun p hp => by
    have ho := hc1.1 p hp
    have := valB_mem hc1.apart hp ⟨ho, Int.le_refl _, ho.2⟩
    rw [hv1] at this
    exact askF_mode this
  have len2 := asLocks_len l1
  have ag : ∀ i (hi : i < l1.length), (asLocks l1)[i]? = some (l1[i].1.1, l1[i].1.2, l1[i].2) := fun i hi => by
    unfold asLocks; rw [List.getElem?_map, List.getElem?_eq_getElem hi]; rfl
  obtain ⟨pa, ca, rfl⟩ := o2.form
  have lnv : ∀ {k : Value → Prop}, pur Tryz.prog (Builtin.len_ #[69] 3 #[.slice pa (asLocks l1).length ca]) k = k (.int .i64 (l1.length : Int)) := by intro k; rw [ln_69, len2]
  rw [lnv]
  have s1 := k1.size
  have s2 := k2.size
  refine lp1 (fun mm y w' => Keep (fun b => b = m) w2 w' ∧ ∃ (i : Nat) (l' : List (Pt Int)), y = .int .i64 (i : Int) ∧ i ≤ l1.length ∧ mm = l1.length - i ∧ IM w' m l' ∧
    (∀ x, valB l' x = if valB (l1.take i) x = none then valB l1 x else needF (valB l1 x) (valB lh x))) l1.length
    ⟨Keep.refl _ _, 0, l1, rfl, Nat.zero_le _, by omega, m2, fun x => by simp [valB]⟩ ?_
  rintro mm y w3 ⟨k3, i, l3, rfl, hi, rfl, m3, hv3⟩ J hJ _
  have hl3 : l3.length ≤ 60000 := by
    have := chg_len m3.canon (chg_two (fun a b => if a = none then b.1 else needF b.1 b.2) (f := valB (l1.take i)) (g := fun x => (valB l1 x, valB lh x)) chg_canon (chg_pair chg_canon chg_canon) hv3)
    rw [List.length_append, List.length_append, flat2_len, flat2_len, flat2_len, List.length_take] at this
    omega
  have hwi := wrap_succ (i := i) (by omega)
  have k03 : Keep (fun b => siz w ≤ b) w w3 := k02.trans' k3 fun b _ e => by subst e; exact hmw
  by_cases hlt : i < l1.length
  · have hlt' : ((i : Int) < (l1.length : Int)) := by omega
    have hmi := hmode _ (List.getElem_mem hlt)
    obtain ⟨g, cg, e, _, _, _, _, _, hcel⟩ := (m2.list o2 (by decide) k3).at (by omega)
    injection e with e1 _ e2
    subst e1 e2
    obtain ⟨p0, p1, p2⟩ := locks_at (b := g) (o := 0) (L := asLocks l1) (fun j hj => by rw [Nat.zero_add]; exact hcel j hj) (ag i hlt)
    rw [Nat.zero_add] at p0 p1 p2
    simp only [stp, Nat.reduceAdd, Int.reduceLT, Int.reduceLE, Int.reduceEq, Int.reduceNe, ne_eq, bne_self_eq_false, beq_self_eq_true, hlt']
    rw [ix_69 (show i < (asLocks l1).length by omega)]
    simp only [stp, Nat.reduceAdd, Int.reduceLT, Int.reduceLE, Int.reduceEq, Int.reduceNe, ne_eq, bne_self_eq_false, beq_self_eq_true, stm, p0, p1, p2]
    have k4 := (Keep.refl (fun _ => False) w3).alloc (.cells #[.int .i64 l1[i].1.1, .int .i64 l1[i].1.2, .int .i64 l1[i].2] 29)
    have y2 : cel (w3.alloc (.cells #[.int .i64 l1[i].1.1, .int .i64 l1[i].1.2, .int .i64 l1[i].2] 29)) (siz w3) 2 = some (.int .i64 l1[i].2) := cel_alloc_new
    have m4 := m3.keep0 k4
    have s34 := k4.size
    generalize w3.alloc (.cells #[.int .i64 l1[i].1.1, .int .i64 l1[i].1.2, .int .i64 l1[i].2] 29) = w4 at k4 y2 m4 s34
    have k04 := k03.trans k4.none
    refine hparts_c (hh.keepB k04) (by omega) fun w5 v5 o5 k5 => ?_
    have m5 := m4.keep0 k5
    have s23 := k3.size
    have y2' := k5.cel y2 id
    have hPc := partsL_canon (s := l1[i].1) hh.canon
    have hPv := partsL_val l1[i].1 lh hh.canon.1
    have hPl := partsL_len l1[i].1 lh
    change Own w5 (siz w4) 65 3 v5 (partsL l1[i].1 lh).length (flat enc (partsL l1[i].1 lh)) at o5
    generalize partsL l1[i].1 lh = P at o5 hPc hPv hPl
    obtain ⟨pb, cb, rfl⟩ := o5.form
    have hm3lt := m3.lt
    simp only [stp, Nat.reduceAdd, Int.reduceLT, Int.reduceLE, Int.reduceEq, Int.reduceNe, ne_eq, bne_self_eq_false, beq_self_eq_true]
    refine lp1 (fun mm y w' => Keep (fun b => b = m) w5 w' ∧ ∃ (j : Nat) (l' : List (Pt Int)), y = .int .i64 (j : Int) ∧ j ≤ P.length ∧ mm = P.length - j ∧ IM w' m l' ∧ l'.length ≤ l3.length + j ∧
      (∀ x, valB l' x = match valB (P.take j) x with | some hv => if cov hv l1[i].2 then none else valB l3 x | none => valB l3 x)) P.length
      ⟨Keep.refl _ _, 0, l3, rfl, Nat.zero_le _, by omega, m5, by omega, fun x => by simp [valB]⟩ ?_
    rintro mm y w6 ⟨k6, j, l6, rfl, hj, rfl, m6, hl6, hv6⟩ J' hJ' _
    have hwj := wrap_succ (i := j) (by omega)
    by_cases hjt : j < P.length
    · have hjt' : ((j : Int) < (P.length : Int)) := by omega
      have hsj : P[j]? = some P[j] := List.getElem?_eq_getElem hjt
      obtain ⟨g6, cg6, e, _, _, _, _, _, hcel6⟩ := (m5.list o5 (by decide) k6).at (by omega)
      injection e with e1 _ e2
      subst e1 e2
      obtain ⟨q0, q1, q2⟩ := parts_at (ev := ev) (b := g6) (o := 0) (l := P) (fun j hj => by rw [Nat.zero_add]; exact hcel6 j hj) hsj
      rw [Nat.zero_add] at q0 q1 q2
      have hT := fun x => take_val hPc.apart hjt x
      simp only [stp, Nat.reduceAdd, Int.reduceLT, Int.reduceLE, Int.reduceEq, Int.reduceNe, ne_eq, bne_self_eq_false, beq_self_eq_true, hjt']
      refine jn0 (fun w' => Keep (fun b => b = m) w5 w' ∧ ∃ l' : List (Pt Int), IM w' m l' ∧ l'.length ≤ l3.length + (j + 1) ∧ (∀ x, valB l' x = match valB (P.take (j + 1)) x with | some hv => if cov hv l1[i].2 then none else valB l3 x | none => valB l3 x)) (fun J2 hJ2 => ?_) ?_
      · rw [ix_62 hjt]
        simp only [stp, Nat.reduceAdd, Int.reduceLT, Int.reduceLE, Int.reduceEq, Int.reduceNe, ne_eq, bne_self_eq_false, beq_self_eq_true, stm, q0, q1, q2]
        have k7 := (Keep.refl (fun _ => False) w6).alloc (.cells #[.int .i64 P[j].1.1, .int .i64 P[j].1.2, .int .i64 P[j].2] 65)
        have u0 : cel (w6.alloc (.cells #[.int .i64 P[j].1.1, .int .i64 P[j].1.2, .int .i64 P[j].2] 65)) (siz w6) 0 = some (.int .i64 P[j].1.1) := cel_alloc_new
        have u1 : cel (w6.alloc (.cells #[.int .i64 P[j].1.1, .int .i64 P[j].1.2, .int .i64 P[j].2] 65)) (siz w6) 1 = some (.int .i64 P[j].1.2) := cel_alloc_new
        have u2 : cel (w6.alloc (.cells #[.int .i64 P[j].1.1, .int .i64 P[j].1.2, .int .i64 P[j].2] 65)) (siz w6) 2 = some (.int .i64 P[j].2) := cel_alloc_new
        have y7 := k7.cel (k6.cel y2' (by omega)) id
        have m7 := m6.keep0 k7
        generalize w6.alloc (.cells #[.int .i64 P[j].1.1, .int .i64 P[j].1.2, .int .i64 P[j].2] 65) = w7 at k7 u0 u1 u2 y7 m7
        try simp only [stp, Nat.reduceAdd, Int.reduceLT, Int.reduceLE, Int.reduceEq, Int.reduceNe, ne_eq, bne_self_eq_false, beq_self_eq_true, stm, u2, y7]
        refine mcovers_c ?_
        have k57 := k6.trans k7.none
        by_cases hcv : cov P[j].2 l1[i].2
        · have hcv' : isMd P[j].2 ∧ isMd l1[i].2 ∧ l1[i].2 ≤ P[j].2 := hcv
          simp only [stp, Nat.reduceAdd, Int.reduceLT, Int.reduceLE, Int.reduceEq, Int.reduceNe, ne_eq, bne_self_eq_false, beq_self_eq_true, stm, hcv', and_self, u0, u1]
          refine clear_any m7 (by omega) fun w8 l8 _ m8 hv8 hl8 k8 => hJ2 _ ⟨k57.trans k8, l8, m8, by omega, fun x => ?_⟩
          obtain ⟨t1, t2⟩ := hT x
          rw [hv8, t1]
          by_cases hx : hasB P[j].1 x
          · have : hasB (P[j].1.1, P[j].1.2) x := hx
            rw [if_pos this, if_pos hx]
            simp only [hcv, if_true]
          · have : ¬ hasB (P[j].1.1, P[j].1.2) x := hx
            rw [if_neg this, if_neg hx, hv6]
        · have hcv' : ¬ (isMd P[j].2 ∧ isMd l1[i].2 ∧ l1[i].2 ≤ P[j].2) := hcv
          simp only [stp, Nat.reduceAdd, Int.reduceLT, Int.reduceLE, Int.reduceEq, Int.reduceNe, ne_eq, bne_self_eq_false, beq_self_eq_true, stm, hcv']
          refine hJ2 _ ⟨k57, l6, m7, by omega, fun x => ?_⟩
          obtain ⟨t1, t2⟩ := hT x
          rw [hv6, t1]
          by_cases hx : hasB P[j].1 x
          · rw [if_pos hx, t2 hx]
            simp only [hcv, if_false]
          · rw [if_neg hx]
      · rintro w8 ⟨k8, l8, m8, hl8, hv8⟩ _
        simp only [stp, Nat.reduceAdd, Int.reduceLT, Int.reduceLE, Int.reduceEq, Int.reduceNe, ne_eq, bne_self_eq_false, beq_self_eq_true, hwj]
        exact hJ' (P.length - (j + 1)) _ _ (by omega) ⟨k8, j + 1, l8, rfl, by omega, rfl, m8, hl8, hv8⟩
    · have hjt' : ¬ ((j : Int) < (P.length : Int)) := by omega
      have hjl : j = P.length := by omega
      simp only [stp, Nat.reduceAdd, Int.reduceLT, Int.reduceLE, Int.reduceEq, Int.reduceNe, ne_eq, bne_self_eq_false, beq_self_eq_true, hjt', hwi]
      rw [hjl, List.take_length] at hv6
      have hT := fun x => take_val hc1.apart hlt x
      refine hJ (l1.length - (i + 1)) _ _ (by omega) ⟨((k3.trans k4.none).trans k5.none).trans k6, i + 1, l6, rfl, by omega, rfl, m6, fun x => ?_⟩
      obtain ⟨t1, t2⟩ := hT x
      rw [hv6, hPv, t1]
      by_cases hx : hasB l1[i].1 x
      · have hval := valB_mem hc1.apart (List.getElem_mem hlt) hx
        have e3 : valB l3 x = some l1[i].2 := by rw [hv3, if_pos (t2 hx), hval]
        rw [if_pos hx, if_pos hx, if_neg (by simp), e3, hval]
        cases hH : valB lh x with
        | none => rw [needF_none]
        | some u => rw [needF_some]
      · rw [if_neg hx, if_neg hx]
        exact hv3 x
  · have hlt' : ¬ ((i : Int) < (l1.length : Int)) := by omega
    have hil : i = l1.length := by omega
    simp only [stp, Nat.reduceAdd, Int.reduceLT, Int.reduceLE, Int.reduceEq, Int.reduceNe, ne_eq, bne_self_eq_false, beq_self_eq_true, hlt']
    rw [hil, List.take_length] at hv3
    refine locks_c m3 (by omega) fun w4 v4 o4 k4 => ?_
    refine hq _ _ l3 m3.canon (fun x => ?_) (by omega) (o4.le k03.size) (k03.trans k4.none)
    rw [hv3, ← hv1]
    cases hA : valB l1 x with
    | none => simp [needF]
    | some a => simp

theorem mhas_c {hv v : Value} {lh : List (Pt Int)} {L : List I3} (hh : Held w hv lh) (hlh : lh.length ≤ 5000) (h : Rd 3 w v L.length (flat enc3 L)) (hL : L.length ≤ 5000)
    (hq : ∀ w' r, (r = true ↔ ∀ x, needF (askF L x) (valB lh x) = none) → Keep (fun b => siz w ≤ b) w w' → Q (.bool r) w') :
    callS Tryz.prog 18 #[hv, v] Q w := by
  refine ref18 ?_
  unfold S18
  refine needs_c hh hlh h hL fun w1 v1 l1 hc hv1 hl1 o1 k1 => ?_
  obtain ⟨pa, ca, rfl⟩ := o1.form
  simp only [stp, Nat.reduceAdd, Int.reduceLT, Int.reduceLE, Int.reduceEq, Int.reduceNe, ne_eq, bne_self_eq_false, beq_self_eq_true]
  refine hq _ _ ?_ k1
  rw [decide_eq_true_eq, asLocks_len]
  constructor
  · intro h0 x
    have : l1 = [] := List.length_eq_zero_iff.1 (by omega)
    rw [← hv1, this]; rfl
  · intro h0
    have : l1 = [] := canon_unique _ _ hc Canon.nil fun x => by rw [hv1, h0]; rfl
    rw [this]; rfl
end
end Go.Proofs.YtcekmdpiloegcaaGreat
