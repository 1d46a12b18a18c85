/- Parts as locks; what of the locks is not held; a map and the document's. Conditions: as each says. -/
import Derived.Test.YtndjohbbaplekaaGreatVRefI
import Derived.Test.YtndjohbbaplekaaGreatVKeep
set_option linter.unusedSimpArgs false
set_option linter.unusedVariables false
namespace Go.Proofs.YtndjohbbaplekaaGreatV
open Go.Sh Go.Proofs.YtndjohbbaplekaaGreatV.Mi
set_option maxRecDepth 100000
section
variable {w : World} {Q : Value → World → Prop} {B : Nat} {l : List (Pt Int)} {v : Value}
theorem rpart_at {i : Nat} {pa : Option Addr} {ca : Nat} (ho : RM w B (.slice pa l.length ca) l) (hi : i < l.length) : ∃ g, pa = some ⟨g, 0, none⟩ ∧
    Sh.cel w g (i * 3) = some (.int .i64 l[i].1.1) ∧ Sh.cel w g (i * 3 + 1) = some (.int .i64 l[i].1.2) ∧ Sh.cel w g (i * 3 + 2) = some (.int .i64 l[i].2) := by
  obtain ⟨g, cg, e, _, _, _, _, _, hcel⟩ := Own.at ho (by omega)
  injection e with e1 _ e2
  subst e1 e2
  obtain ⟨p0, p1, p2⟩ := parts_at (ev := fun v : Int => Value.int .i64 v) (b := g) (o := 0) (l := l) (fun j hj => by rw [Nat.zero_add]; exact hcel j hj) (List.getElem?_eq_getElem hi)
  rw [Nat.zero_add] at p0 p1 p2
  exact ⟨g, rfl, p0, p1, p2⟩
theorem rlocks_c (ho : RM w B v l) (hl : l.length ≤ 100000) (hq : ∀ w' v', Own w' (siz w) 143 3 v' (asLocks l).length (flat enc3 (asLocks l)) → Keep (fun _ => False) w w' → Q v' w') :
    callS Tryz.prog 70 #[v] Q w := by
  refine ref70 ?_
  unfold S70
  obtain ⟨pa, ca, rfl⟩ := Own.form ho
  refine lpc2 l.length (by omega) (fun i x w' => K0 w w' ∧ Own w' (siz w) 143 3 x i (flat enc3 (asLocks (l.take i)))) ⟨K0.refl _, Own.nil _ _ _ _⟩ (fun i x w2 hlt ⟨k2, o2⟩ J hJ => ?_) (fun x w2 ⟨k2, o2⟩ J => ?_)
  · intro _j
    have s12 := k2.size
    have hlt' : ((i : Int) < (l.length : Int)) := by omega
    have hsi : l[i]? = some l[i] := List.getElem?_eq_getElem hlt
    obtain ⟨g, rfl, p0, p1, p2⟩ := rpart_at (RM.keep0 ho k2) hlt
    have kd := (K0.refl w2).drew
    have sd : siz w2.drew = siz w2 := rfl
    have o3 := o2.keep kd fun _ _ => id
    simp only [stp, Nat.reduceAdd, Int.reduceLT, Int.reduceLE, Int.reduceEq, Int.reduceNe, ne_eq, bne_self_eq_false, beq_self_eq_true, stm, cel_drew, hlt', ix_92 hlt, p0, p1, p2, Option.isSome_some, Option.getD_some]
    refine pu_109 o3 (by intro u hu; simp only [List.mem_cons, List.not_mem_nil, or_false] at hu; rcases hu with rfl | rfl | rfl <;> exact one_int) (by omega) (by omega) fun v' w' ho hk hr => ?_
    refine hJ _ _ ⟨(k2.trans kd).trans' hk fun b hb e => by have := (o3.lt e).1; omega, ?_⟩
    have e9 : asLocks (l.take (i + 1)) = asLocks (l.take i) ++ [(l[i].1.1, l[i].1.2, l[i].2)] := by
      rw [List.take_add_one, hsi, Option.toList_some]; unfold asLocks; rw [List.map_append]; rfl
    rw [e9, flat_append]
    exact ho
  · intro _j
    have hlt' : ¬ ((l.length : Int) < (l.length : Int)) := by omega
    simp only [stp, Nat.reduceAdd, Int.reduceLT, Int.reduceLE, Int.reduceEq, Int.reduceNe, ne_eq, bne_self_eq_false, beq_self_eq_true, hlt']
    rw [List.take_length] at o2
    exact hq _ _ (by rw [asLocks_len]; exact o2) k2
theorem mem_val {p : Pt Int} (hc : Canon l) (hp : p ∈ l) : valB l p.1.1 = some p.2 := valB_mem hc.apart hp ⟨hc.1 p hp, Int.le_refl _, (hc.1 p hp).2⟩
theorem rneeds_c {vh : Value} {lh : List (Pt Int)} {L : List I3} (oh : RM w B vh lh) (hch : Canon lh) (hlh : lh.length ≤ 500) (hmd : ∀ p ∈ lh, isMd p.2) (h : Rd 3 w v L.length (flat enc3 L)) (hL : L.length ≤ 100)
    (hq : ∀ w' v' l', Canon l' → (∀ x, valB l' x = needF (askF L x) (valB lh x)) → l'.length ≤ 10000 → Own w' (siz w) 143 3 v' (asLocks l').length (flat enc3 (asLocks l')) → K0 w w' → Q v' w') :
    callS Tryz.prog 68 #[vh, v] Q w := by
  refine ref68 ?_
  unfold S68
  refine rnorm_c h hL fun w1 v1 l1 o1 hc1 hv1 hl1 k1 => ?_
  have s1 := k1.size
  have hmode : ∀ p ∈ l1, p.2 = 1 ∨ p.2 = 2 := fun p hp => by
    have := mem_val hc1 hp
    rw [hv1] at this
    exact askF_mode this
  obtain ⟨pa, ca, rfl⟩ := Own.form o1
  refine lpc2 l1.length (by omega) (fun i y w' => K0 w1 w' ∧ ∃ l' : List (Pt Int), RM w' (siz w) y l' ∧ Canon l' ∧ (∀ x, valB l' x = if valB (l1.take i) x = none then valB l1 x else needF (valB l1 x) (valB lh x)))
    ⟨K0.refl _, l1, o1, hc1, fun x => by simp [valB]⟩ (fun i y w3 hlt ⟨k3, l3, m3, hc3, hv3⟩ J hJ => ?_) (fun y w3 ⟨k3, l3, m3, hc3, hv3⟩ J => ?_)
  · intro _j
    have hl3 : l3.length ≤ 8000 := by
      have := chg_len hc3 (chg_two (fun a b => if a = none then b.1 else needF b.1 b.2) (f := valB (l1.take i)) (g := fun x => (valB l1 x, valB lh x)) chg_canon (chg_pair chg_canon chg_canon) hv3)
      rw [List.length_append, List.length_append, flat2_len, flat2_len, flat2_len, List.length_take] at this
      omega
    have hlt' : ((i : Int) < (l1.length : Int)) := by omega
    have hmi := hmode _ (List.getElem_mem hlt)
    have s3 := k3.size
    obtain ⟨g, rfl, p0, p1, p2⟩ := rpart_at (RM.keep0 o1 k3) hlt
    have kd := K0.refl w3
    simp only [stp, Nat.reduceAdd, Int.reduceLT, Int.reduceLE, Int.reduceEq, Int.reduceNe, ne_eq, bne_self_eq_false, beq_self_eq_true, stm, cel_drew, hlt', ix_92 hlt, p0, p1, p2, Option.isSome_some, Option.getD_some]
    refine rparts_c (((RM.keep0 oh k1).keep0 k3).keep0 kd) (by omega) fun w5 v5 o5 k5 => ?_
    have hPc := partsL_canon (s := l1[i].1) hch
    have hPv := partsL_val l1[i].1 lh hch.1
    have hPl := partsL_len l1[i].1 lh
    change RM w5 (siz w3) v5 (partsL l1[i].1 lh) at o5
    generalize partsL l1[i].1 lh = P at o5 hPc hPv hPl
    have hPm : ∀ p ∈ P, isMd p.2 := fun p hp => by
      have := mem_val hPc hp
      rw [hPv] at this
      split at this
      · obtain ⟨q, hq, _, e⟩ := valB_some this
        rw [← e]; exact hmd q hq
      · cases this
    obtain ⟨pb, cb, rfl⟩ := Own.form o5
    have k35 := kd.trans k5
    have s5 := k35.size
    refine lpc2 P.length (by omega) (fun j y w' => K0 w5 w' ∧ ∃ l' : List (Pt Int), RM w' (siz w) y l' ∧ Canon l' ∧ (∀ x, valB l' x = match valB (P.take j) x with | some hv => if cov hv l1[i].2 then none else valB l3 x | none => valB l3 x))
      ⟨K0.refl _, l3, RM.keep0 m3 k35, hc3, fun x => by simp [valB]⟩ (fun j y w6 hjt ⟨k6, l6, m6, hc6, hv6⟩ J' hJ' => ?_) (fun y w6 ⟨k6, l6, m6, hc6, hv6⟩ J' => ?_)
    · intro _j
      have hjt' : ((j : Int) < (P.length : Int)) := by omega
      have hl6 : l6.length ≤ 30000 := by
        have := chg_len hc6 (chg_two (fun a b => match a with | some hv => if cov hv l1[i].2 then none else b | none => b) (f := valB (P.take j)) (g := valB l3) chg_canon chg_canon hv6)
        rw [List.length_append, flat2_len, flat2_len, List.length_take] at this
        omega
      obtain ⟨g6, rfl, q0, q1, q2⟩ := rpart_at (RM.keep0 o5 k6) hjt
      have p2' := (k35.trans k6).cel p2 id
      have hT := fun x => take_val hPc.apart hjt x
      have hmj := hPm _ (List.getElem_mem hjt)
      have kd6 := (K0.refl w6).drew
      have sd6 : siz w6.drew = siz w6 := rfl
      have s6 := k6.size
      simp only [stp, Nat.reduceAdd, Int.reduceLT, Int.reduceLE, Int.reduceEq, Int.reduceNe, ne_eq, bne_self_eq_false, beq_self_eq_true, hjt']
      refine jn1 (fun y' w' => K0 w5 w' ∧ ∃ l' : List (Pt Int), RM w' (siz w) y' l' ∧ Canon l' ∧ (∀ x, valB l' x = match valB (P.take (j + 1)) x with | some hv => if cov hv l1[i].2 then none else valB l3 x | none => valB l3 x)) (fun J2 hJ2 => ?_) ?_
      · have hcvi : cov P[j].2 l1[i].2 ↔ l1[i].2 ≤ P[j].2 := ⟨fun h => h.2.2, fun h => ⟨hmj, by unfold isMd; omega, h⟩⟩
        by_cases hcv : l1[i].2 ≤ P[j].2
        · have hcv' := hcvi.2 hcv
          simp only [stp, Nat.reduceAdd, Int.reduceLT, Int.reduceLE, Int.reduceEq, Int.reduceNe, ne_eq, bne_self_eq_false, beq_self_eq_true, stm, cel_drew, ix_92 hjt, ix_92 hlt, q0, q1, q2, p2', hcv, Option.isSome_some, Option.getD_some]
          refine rclear_c (RM.keep0 m6 kd6) (by omega) hc6 (by omega) fun w8 v8 l8 m8 hc8 hv8 _ k8 => hJ2 _ _ ⟨(k6.trans kd6).trans k8, l8, m8, hc8, fun x => ?_⟩
          obtain ⟨t1, t2⟩ := hT x
          rw [hv8, t1]
          by_cases hx : hasB P[j].1 x
          · have : hasB (P[j].1.1, P[j].1.2) x := hx
            rw [if_pos this, if_pos hx]
            simp only [hcv', if_true]
          · have : ¬ hasB (P[j].1.1, P[j].1.2) x := hx
            rw [if_neg this, if_neg hx, hv6]
        · have hcv' : ¬ cov P[j].2 l1[i].2 := fun h => hcv (hcvi.1 h)
          simp only [stp, Nat.reduceAdd, Int.reduceLT, Int.reduceLE, Int.reduceEq, Int.reduceNe, ne_eq, bne_self_eq_false, beq_self_eq_true, stm, cel_drew, ix_92 hjt, ix_92 hlt, q0, q1, q2, p2', hcv, Option.isSome_some, Option.getD_some]
          refine hJ2 _ _ ⟨k6.trans kd6, l6, RM.keep0 m6 kd6, hc6, fun x => ?_⟩
          obtain ⟨t1, t2⟩ := hT x
          rw [hv6, t1]
          by_cases hx : hasB P[j].1 x
          · rw [if_pos hx, t2 hx]
            simp only [hcv', if_false]
          · rw [if_neg hx]
      · rintro y' w8 ⟨k8, l8, m8, hc8, hv8⟩ _j
        try simp only [stp, Nat.reduceAdd, Int.reduceLT, Int.reduceLE, Int.reduceEq, Int.reduceNe, ne_eq, bne_self_eq_false, beq_self_eq_true]
        exact hJ' _ _ ⟨k8, l8, m8, hc8, hv8⟩
    · intro _j
      have hjt' : ¬ ((P.length : Int) < (P.length : Int)) := by omega
      simp only [stp, Nat.reduceAdd, Int.reduceLT, Int.reduceLE, Int.reduceEq, Int.reduceNe, ne_eq, bne_self_eq_false, beq_self_eq_true, hjt']
      rw [List.take_length] at hv6
      have hT := fun x => take_val hc1.apart hlt x
      refine hJ _ _ ⟨(k3.trans k35).trans k6, l6, m6, hc6, fun x => ?_⟩
      obtain ⟨t1, t2⟩ := hT x
      rw [hv6, hPv, t1]
      by_cases hx : hasB l1[i].1 x
      · have hval := valB_mem hc1.apart (List.getElem_mem hlt) hx
        have e3 : valB l3 x = some l1[i].2 := by rw [hv3, if_pos (t2 hx), hval]
        rw [if_pos hx, if_pos hx, if_neg (by simp), e3, hval]
        cases hH : valB lh x with
        | none => rw [needF_none]
        | some u => rw [needF_some]
      · rw [if_neg hx, if_neg hx]
        exact hv3 x
  · intro _j
    have hlt' : ¬ ((l1.length : Int) < (l1.length : Int)) := by omega
    have hl3 : l3.length ≤ 8000 := by
      have := chg_len hc3 (chg_two (fun a b => if a = none then b.1 else needF b.1 b.2) (f := valB (l1.take l1.length)) (g := fun x => (valB l1 x, valB lh x)) chg_canon (chg_pair chg_canon chg_canon) hv3)
      rw [List.length_append, List.length_append, flat2_len, flat2_len, flat2_len, List.length_take] at this
      omega
    simp only [stp, Nat.reduceAdd, Int.reduceLT, Int.reduceLE, Int.reduceEq, Int.reduceNe, ne_eq, bne_self_eq_false, beq_self_eq_true, hlt']
    rw [List.take_length] at hv3
    have s3 := k3.size
    refine rlocks_c m3 (by omega) fun w4 v4 o4 k4 => ?_
    refine hq _ _ l3 hc3 (fun x => ?_) (by omega) (o4.le (by omega)) ((k1.trans k3).trans k4)
    rw [hv3, ← hv1]
    cases hA : valB l1 x with
    | none => simp [needF]
    | some a => simp

theorem mset_any {m : Nat} {a b u : Int} (hm : IM w m l) (hl : l.length ≤ 300000)
    (hq : ∀ w' l' r, IM w' m l' → (∀ x, valB l' x = if hasB (a, b) x then some u else valB l x) → l'.length ≤ l.length + 2 → Keep (fun b => b = m) w w' → Q (.bool r) w') :
    callS Tryz.prog 47 #[.pointer (some ⟨m, 0, none⟩), .agg #[.int .i64 a, .int .i64 b], .int .i64 u] Q w := by
  by_cases h0 : ok (a, b)
  · exact set_ok hm h0 hl fun w' l' h1 h2 h3 h4 => hq w' l' _ h1 h2 h3 h4
  · exact set_no (v := u) h0 fun w' k => hq w' l _ (hm.keep0 k) (fun x => by rw [if_neg (fun h => h0 h.1)]) (by omega) k.none
theorem held_c {L : List I3} (h : Rd 3 w v L.length (flat enc3 L)) (hL : L.length ≤ 100)
    (hq : ∀ w' m lm vr, siz w ≤ m → IM w' m lm → RM w' (siz w) vr lm → lm.length ≤ 2 * L.length → (∀ p ∈ lm, isMd p.2) → Keep (fun b => siz w ≤ b) w w' → Q (.tuple #[.pointer (some ⟨m, 0, none⟩), vr]) w') :
    callS Tryz.prog 63 #[v] Q w := by
  refine ref63 ?_
  unfold S63
  obtain ⟨pa, ca, rfl⟩ := h.form
  refine new_c fun w1 m1 k1 => ?_
  generalize hm : siz w = m at m1
  have s01 := k1.size
  have hm1 := m1.lt
  try simp only [stp, Nat.reduceAdd, Int.reduceLT, Int.reduceLE, Int.reduceEq, Int.reduceNe, ne_eq, bne_self_eq_false, beq_self_eq_true]
  have kB : ∀ {w' : World}, Keep (fun b => b = m) w1 w' → Keep (fun b => siz w ≤ b) w w' := fun {w'} k => k1.none.trans' k fun b _ e => by subst e; omega
  have hkp : ∀ {u u' : World}, Keep (fun b => siz w ≤ b) w u → Rd 3 u (.slice pa L.length ca) L.length (flat enc3 L) := fun {u u'} k => h.keepB k fun g _ hg => hg
  refine lpc2 L.length (by omega) (fun i y w' => Keep (fun b => b = m) w1 w' ∧ ∃ lm : List (Pt Int), IM w' m lm ∧ ChgN lm (2 * i) ∧ RM w' (siz w1) y lm ∧ ∀ p ∈ lm, isMd p.2)
    ⟨Keep.refl _ _, [], m1, by simpa using ChgN.nil, Own.nil _ _ _ _, fun p hp => by simp at hp⟩ (fun i y w2 hlt ⟨k2, lm, m2, hcm, o2, hmd⟩ J hJ => ?_) (fun y w2 ⟨k2, lm, m2, hcm, o2, hmd⟩ J => ?_)
  · intro _j
    have hlt' : ((i : Int) < (L.length : Int)) := by omega
    have hsi : L[i]? = some L[i] := List.getElem?_eq_getElem hlt
    have hlm := hcm.len m2.canon
    obtain ⟨g, o, c', e, _, hcel⟩ := (hkp (u' := w) (kB k2)).at (by omega)
    injection e with e1 _ e2
    subst e1 e2
    obtain ⟨c0, c1, c2⟩ := locks_at hcel hsi
    simp only [stp, Nat.reduceAdd, Int.reduceLT, Int.reduceLE, Int.reduceEq, Int.reduceNe, ne_eq, bne_self_eq_false, beq_self_eq_true, hlt']
    refine jn1 (fun x' w' => Keep (fun b => b = m) w1 w' ∧ ∃ lm' : List (Pt Int), IM w' m lm' ∧ ChgN lm' (2 * (i + 1)) ∧ RM w' (siz w1) x' lm' ∧ ∀ p ∈ lm', isMd p.2) (fun J2 hJ2 => ?_) ?_
    · simp only [stp, Nat.reduceAdd, Int.reduceLT, Int.reduceLE, Int.reduceEq, Int.reduceNe, ne_eq, bne_self_eq_false, beq_self_eq_true, stm, cel_drew, ix_109 hlt, c2, Option.isSome_some, Option.getD_some]
      refine rmode_c ?_
      by_cases hmo : isMd L[i].2.2
      · simp only [stp, Nat.reduceAdd, Int.reduceLT, Int.reduceLE, Int.reduceEq, Int.reduceNe, ne_eq, bne_self_eq_false, beq_self_eq_true, stm, hmo, cel_drew, ix_109 hlt, c0, c1, c2, decide_true, Option.isSome_some, Option.getD_some]
        have kd := (Keep.refl (fun _ => False) w2).drew
        refine mset_any (m2.keep0 kd) (by omega) fun w3 l3 _ m3 hv3 hl3 k3 => ?_
        have k23 := (k2.trans kd.none).trans k3
        have o3 : RM w3 (siz w1) y lm := (m2.keep0 kd).list (o2.keep0 kd) (by decide) k3
        obtain ⟨g', o', c'', e, _, hcel'⟩ := (hkp (u' := w) (kB k23)).at (by omega)
        injection e with e1 _ e2
        injection e1 with e1
        injection e1 with e1 e3
        subst e1 e2 e3
        obtain ⟨d0, d1, d2⟩ := locks_at hcel' hsi
        simp only [stp, Nat.reduceAdd, Int.reduceLT, Int.reduceLE, Int.reduceEq, Int.reduceNe, ne_eq, bne_self_eq_false, beq_self_eq_true, stm, cel_drew, ix_109 hlt, d0, d1, d2, Option.isSome_some, Option.getD_some]
        have kd3 := (Keep.refl (fun _ => False) w3).drew
        have sd3 : siz w3.drew = siz w3 := rfl
        have s3 := k23.size
        refine rset_c (o3.keep0 kd3) (by omega) m2.canon (by omega) fun w4 v4 l4 o4 hc4 hv4 k4 => ?_
        have e34 : l4 = l3 := canon_unique _ _ hc4 m3.canon fun x => by rw [hv3, hv4]
        subst e34
        refine hJ2 _ _ ⟨(k23.trans kd3.none).trans k4.none, l4, (m3.keep0 kd3).keep0 k4, hcm.put hv3, o4, fun p hp => ?_⟩
        have := mem_val hc4 hp
        rw [hv4] at this
        split at this
        · injection this with this
          rw [← this]; exact hmo
        · obtain ⟨q, hq, _, e⟩ := valB_some this
          rw [← e]; exact hmd q hq
      · simp only [stp, Nat.reduceAdd, Int.reduceLT, Int.reduceLE, Int.reduceEq, Int.reduceNe, ne_eq, bne_self_eq_false, beq_self_eq_true, hmo, decide_false]
        obtain ⟨E, h1, h2⟩ := hcm
        exact hJ2 _ _ ⟨k2, lm, m2, ⟨E, h1, by omega⟩, o2, hmd⟩
    · rintro x' w3 ⟨k3, lm3, m3, hcm3, o3, hmd3⟩ _j
      try simp only [stp, Nat.reduceAdd, Int.reduceLT, Int.reduceLE, Int.reduceEq, Int.reduceNe, ne_eq, bne_self_eq_false, beq_self_eq_true]
      exact hJ _ _ ⟨k3, lm3, m3, hcm3, o3, hmd3⟩
  · intro _j
    have hlt' : ¬ ((L.length : Int) < (L.length : Int)) := by omega
    simp only [stp, Nat.reduceAdd, Int.reduceLT, Int.reduceLE, Int.reduceEq, Int.reduceNe, ne_eq, bne_self_eq_false, beq_self_eq_true, hlt']
    exact hq _ m lm y (by omega) m2 (o2.le (by omega)) (hcm.len m2.canon) hmd (kB k2)
end
end Go.Proofs.YtndjohbbaplekaaGreatV
