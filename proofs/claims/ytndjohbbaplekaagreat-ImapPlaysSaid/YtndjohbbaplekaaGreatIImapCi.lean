/- Maps of blocks to values of type int: the parts of a range; the ranges of a value; a swap. Conditions: as each says. -/
import Derived.Test.YtndjohbbaplekaaGreatIImapBi
set_option linter.unusedSimpArgs false
set_option linter.unusedVariables false
namespace Go.Proofs.YtndjohbbaplekaaGreatI.Mi
open Go.Sh Go.Proofs.YtndjohbbaplekaaGreatI
set_option maxRecDepth 100000
section
variable {w : World} {Q : Value → World → Prop} {m : Nat} {l : List (Pt Int)}

theorem nparts_c {s : Value} (hq : ∀ w', Keep (fun _ => False) w w' → Q (.slice none 0 0) w') : callS Tryz.prog 54 #[.pointer none, s] Q w := by
  refine ref54 ?_
  unfold S54
  simp only [stp, Nat.reduceAdd, Int.reduceLT, Int.reduceLE, Int.reduceEq, Int.reduceNe, ne_eq, bne_self_eq_false, beq_self_eq_true, stm]
  exact hq _ ((Keep.refl _ w).alloc _)
theorem parts_c {a b : Int} (hm : IM w m l) (hl : l.length ≤ 1000000)
    (hq : ∀ w' v', Own w' (siz w) 201 3 v' (partsL (a, b) l).length (flat enc (partsL (a, b) l)) → Keep (fun _ => False) w w' → Q v' w') :
    callS Tryz.prog 54 #[.pointer (some ⟨m, 0, none⟩), .agg #[.int .i64 a, .int .i64 b]] Q w := by
  refine ref54 ?_
  unfold S54
  obtain ⟨sl, hm1, hm2, hm3⟩ := hm
  have hmc := cel_of hm1
  simp only [act_box, agg_cells]
  have k1 := (Keep.refl (fun _ => False) w).alloc (.cells #[.int .i64 a, .int .i64 b] 72)
  have x0 : cel (w.alloc (.cells #[.int .i64 a, .int .i64 b] 72)) (siz w) 0 = some (.int .i64 a) := cel_alloc_new
  have x1 : cel (w.alloc (.cells #[.int .i64 a, .int .i64 b] 72)) (siz w) 1 = some (.int .i64 b) := cel_alloc_new
  have s1 : siz (w.alloc (.cells #[.int .i64 a, .int .i64 b] 72)) = siz w + 1 := siz_alloc
  generalize w.alloc (.cells #[.int .i64 a, .int .i64 b] 72) = w1 at k1 x0 x1 s1
  have c1 := k1.cel hmc id
  have o1 := hm2.keep k1 fun _ _ => id
  obtain ⟨pa, ca, rfl⟩ := o1.form
  simp only [stp, Nat.reduceAdd, Int.reduceLT, Int.reduceLE, Int.reduceEq, Int.reduceNe, ne_eq, bne_self_eq_false, beq_self_eq_true, stm, c1]
  refine lp2 (fun mm x y w' => Keep (fun _ => False) w1 w' ∧ ∃ (i : Nat) (L : List (Pt Int)), y = .int .i64 (i : Int) ∧ i ≤ l.length ∧ mm = l.length - i ∧ L = partsL (a, b) (l.take i) ∧ Own w' (siz w1) 201 3 x L.length (flat enc L)) l.length
    ⟨Keep.refl _ _, 0, [], rfl, Nat.zero_le _, by omega, rfl, Own.nil _ _ _ _⟩ ?_
  rintro mm x y w2 ⟨k2, i, L, rfl, hi, rfl, hL, o2⟩ J hJ _
  have hwi := wrap_succ (i := i) (by omega)
  have hLl : L.length ≤ i := by
    have := partsL_len (a, b) (l.take i)
    rw [← hL, List.length_take] at this
    omega
  have s12 := k2.size
  by_cases hlt : i < l.length
  · have hlt' : ((i : Int) < (l.length : Int)) := by omega
    have hsi : l[i]? = some l[i] := List.getElem?_eq_getElem hlt
    have hL1 : partsL (a, b) (l.take (i + 1)) = L ++ (if meetsB l[i].1 (a, b) then [((max l[i].1.1 a, min l[i].1.2 b), l[i].2)] else []) := by
      rw [List.take_add_one, hsi, Option.toList_some, partsL_snoc, ← hL]
    obtain ⟨g, cg, e, _, _, _, _, _, hcel⟩ := (o1.keep k2 fun _ _ => id).at (by omega)
    injection e with e1 _ e2
    subst e1 e2
    obtain ⟨p0, p1, p2⟩ := parts_at (ev := ev) (b := g) (o := 0) (l := l) (fun j hj => by rw [Nat.zero_add]; exact hcel j hj) hsi
    rw [Nat.zero_add] at p0 p1 p2
    simp only [stp, Nat.reduceAdd, Int.reduceLT, Int.reduceLE, Int.reduceEq, Int.reduceNe, ne_eq, bne_self_eq_false, beq_self_eq_true, hlt']
    refine jn1 (fun x' w' => Keep (fun _ => False) w1 w' ∧ Own w' (siz w1) 201 3 x' (partsL (a, b) (l.take (i + 1))).length (flat enc (partsL (a, b) (l.take (i + 1))))) (fun J' hJ' => ?_) ?_
    · rw [ix_93 hlt]
      simp only [stp, Nat.reduceAdd, Int.reduceLT, Int.reduceLE, Int.reduceEq, Int.reduceNe, ne_eq, bne_self_eq_false, beq_self_eq_true, stm, p0, p1, p2]
      have k3 := (Keep.refl (fun _ => False) w2).alloc (.cells #[.int .i64 l[i].1.1, .int .i64 l[i].1.2, ev l[i].2] 201)
      have y0 : cel (w2.alloc (.cells #[.int .i64 l[i].1.1, .int .i64 l[i].1.2, ev l[i].2] 201)) (siz w2) 0 = some (.int .i64 l[i].1.1) := cel_alloc_new
      have y1 : cel (w2.alloc (.cells #[.int .i64 l[i].1.1, .int .i64 l[i].1.2, ev l[i].2] 201)) (siz w2) 1 = some (.int .i64 l[i].1.2) := cel_alloc_new
      have y2 : cel (w2.alloc (.cells #[.int .i64 l[i].1.1, .int .i64 l[i].1.2, ev l[i].2] 201)) (siz w2) 2 = some (ev l[i].2) := cel_alloc_new
      generalize w2.alloc (.cells #[.int .i64 l[i].1.1, .int .i64 l[i].1.2, ev l[i].2] 201) = w3 at k3 y0 y1 y2
      have z0 := k3.cel (k2.cel x0 id) id
      have z1 := k3.cel (k2.cel x1 id) id
      try simp only [stp, Nat.reduceAdd, Int.reduceLT, Int.reduceLE, Int.reduceEq, Int.reduceNe, ne_eq, bne_self_eq_false, beq_self_eq_true, stm, y0, y1, z0, z1]
      refine meet_c fun w4 g4 => ?_
      have k14 := (k2.trans k3).trans g4.1
      have y2' := g4.1.cel y2 id
      have o4 := (o2.keep k3 fun _ _ => id).keep g4.1 fun _ _ => id
      have s34 := g4.1.size
      have s23 := k3.size
      by_cases hmt : meetsB l[i].1 (a, b)
      · have hmt' : ok (l[i].1.1, l[i].1.2) ∧ ok (a, b) ∧ ok (max l[i].1.1 a, min l[i].1.2 b) := hmt
        rw [if_pos hmt']
        rw [if_pos hmt] at hL1
        simp only [stp, Nat.reduceAdd, Int.reduceLT, Int.reduceLE, Int.reduceEq, Int.reduceNe, ne_eq, bne_self_eq_false, beq_self_eq_true, stm]
        have k5 := (Keep.refl (fun _ => False) w4).alloc (.cells #[.int .i64 (max l[i].1.1 a), .int .i64 (min l[i].1.2 b)] 72)
        have u0 : cel (w4.alloc (.cells #[.int .i64 (max l[i].1.1 a), .int .i64 (min l[i].1.2 b)] 72)) (siz w4) 0 = some (.int .i64 (max l[i].1.1 a)) := cel_alloc_new
        have u1 : cel (w4.alloc (.cells #[.int .i64 (max l[i].1.1 a), .int .i64 (min l[i].1.2 b)] 72)) (siz w4) 1 = some (.int .i64 (min l[i].1.2 b)) := cel_alloc_new
        have y2'' := k5.cel y2' id
        have o5 := o4.keep k5 fun _ _ => id
        generalize w4.alloc (.cells #[.int .i64 (max l[i].1.1 a), .int .i64 (min l[i].1.2 b)] 72) = w5 at k5 u0 u1 y2'' o5
        try simp only [stp, Nat.reduceAdd, Int.reduceLT, Int.reduceLE, Int.reduceEq, Int.reduceNe, ne_eq, bne_self_eq_false, beq_self_eq_true, stm, u0, u1, y2'']
        have s45 := k5.size
        refine pu_93 o5 (by intro u hu; exact encP_one (ev := ev) ev_one (p := ((max l[i].1.1 a, min l[i].1.2 b), l[i].2)) hu) (by omega) (by omega) fun v' w' ho hk hr => hJ' _ _ ⟨?_, ?_⟩
        · exact (k14.trans k5).trans' hk fun b hb e => by have := (o5.lt e).1; omega
        · rw [hL1, flat_append, flat_one, List.length_append]; exact ho
      · have hmt' : ¬ (ok (l[i].1.1, l[i].1.2) ∧ ok (a, b) ∧ ok (max l[i].1.1 a, min l[i].1.2 b)) := hmt
        rw [if_neg hmt']
        rw [if_neg hmt, List.append_nil] at hL1
        simp only [stp, Nat.reduceAdd, Int.reduceLT, Int.reduceLE, Int.reduceEq, Int.reduceNe, ne_eq, bne_self_eq_false, beq_self_eq_true, stm]
        have k5 := (Keep.refl (fun _ => False) w4).alloc (.cells #[.int .i64 0, .int .i64 0] 72)
        refine hJ' _ _ ⟨k14.trans k5, ?_⟩
        rw [hL1]; exact o4.keep k5 fun _ _ => id
    · rintro x' w6 ⟨k6, o6⟩ _
      simp only [stp, Nat.reduceAdd, Int.reduceLT, Int.reduceLE, Int.reduceEq, Int.reduceNe, ne_eq, bne_self_eq_false, beq_self_eq_true, hwi]
      exact hJ (l.length - (i + 1)) _ _ _ (by omega) ⟨k6, i + 1, _, rfl, by omega, rfl, rfl, o6⟩
  · have hlt' : ¬ ((i : Int) < (l.length : Int)) := by omega
    have hil : i = l.length := by omega
    rw [hil, List.take_length] at hL
    simp only [stp, Nat.reduceAdd, Int.reduceLT, Int.reduceLE, Int.reduceEq, Int.reduceNe, ne_eq, bne_self_eq_false, beq_self_eq_true, hlt']
    rw [hL] at o2
    exact hq _ _ (o2.le (by omega)) (k1.trans k2)

theorem nwith_c {v : Value} (hq : ∀ w', Keep (fun _ => False) w w' → Q (.slice none 0 0) w') : callS Tryz.prog 55 #[.pointer none, v] Q w := by
  refine ref55 ?_
  unfold S55
  refine nall_c ?_
  have z0 : ((0 : Nat) : Int) = 0 := rfl
  simp only [stp, Nat.reduceAdd, Int.reduceLT, Int.reduceLE, Int.reduceEq, Int.reduceNe, ne_eq, bne_self_eq_false, beq_self_eq_true, z0]
  refine lp2 (fun mm x y w' => x = .slice none 0 0 ∧ y = .int .i64 0 ∧ w' = w) 0 ⟨rfl, rfl, rfl⟩ ?_
  rintro mm x y w' ⟨rfl, rfl, rfl⟩ J hJ _
  simp only [stp, Nat.reduceAdd, Int.reduceLT, Int.reduceLE, Int.reduceEq, Int.reduceNe, ne_eq, bne_self_eq_false, beq_self_eq_true, show ¬ ((0 : Int) < 0) by omega]
  exact hq _ (Keep.refl _ _)
theorem with_c {v : Int} (hm : IM w m l) (hl : l.length ≤ 1000000)
    (hq : ∀ w' v', Own w' (siz w) 72 2 v' (withL v l).length (flat encS (withL v l)) → Keep (fun _ => False) w w' → Q v' w') :
    callS Tryz.prog 55 #[.pointer (some ⟨m, 0, none⟩), ev v] Q w := by
  refine ref55 ?_
  unfold S55
  refine all_c hm hl fun w1 v1 o1 k1 => ?_
  have s1 := k1.size
  obtain ⟨pa, ca, rfl⟩ := o1.form
  simp only [stp, Nat.reduceAdd, Int.reduceLT, Int.reduceLE, Int.reduceEq, Int.reduceNe, ne_eq, bne_self_eq_false, beq_self_eq_true]
  refine lp2 (fun mm x y w' => Keep (fun _ => False) w1 w' ∧ ∃ (i : Nat) (L : List Sp), y = .int .i64 (i : Int) ∧ i ≤ l.length ∧ mm = l.length - i ∧ L = withL v (l.take i) ∧ Own w' (siz w1) 72 2 x L.length (flat encS L)) l.length
    ⟨Keep.refl _ _, 0, [], rfl, Nat.zero_le _, by omega, rfl, Own.nil _ _ _ _⟩ ?_
  rintro mm x y w2 ⟨k2, i, L, rfl, hi, rfl, hL, o2⟩ J hJ _
  have hwi := wrap_succ (i := i) (by omega)
  have hLl : L.length ≤ i := by
    have := withL_len v (l.take i)
    rw [← hL, List.length_take] at this
    omega
  have s12 := k2.size
  by_cases hlt : i < l.length
  · have hlt' : ((i : Int) < (l.length : Int)) := by omega
    have hsi : l[i]? = some l[i] := List.getElem?_eq_getElem hlt
    have hL1 : withL v (l.take (i + 1)) = L ++ (if l[i].2 = v then [l[i].1] else []) := by
      rw [List.take_add_one, hsi, Option.toList_some, withL_snoc, ← hL]
    obtain ⟨g, cg, e, _, _, _, _, _, hcel⟩ := (o1.keep k2 fun _ _ => id).at (by omega)
    injection e with e1 _ e2
    subst e1 e2
    obtain ⟨p0, p1, p2⟩ := parts_at (ev := ev) (b := g) (o := 0) (l := l) (fun j hj => by rw [Nat.zero_add]; exact hcel j hj) hsi
    rw [Nat.zero_add] at p0 p1 p2
    simp only [stp, Nat.reduceAdd, Int.reduceLT, Int.reduceLE, Int.reduceEq, Int.reduceNe, ne_eq, bne_self_eq_false, beq_self_eq_true, hlt']
    refine jn1 (fun x' w' => Keep (fun _ => False) w1 w' ∧ Own w' (siz w1) 72 2 x' (withL v (l.take (i + 1))).length (flat encS (withL v (l.take (i + 1))))) (fun J' hJ' => ?_) ?_
    · rw [ix_93 hlt]
      simp only [stp, Nat.reduceAdd, Int.reduceLT, Int.reduceLE, Int.reduceEq, Int.reduceNe, ne_eq, bne_self_eq_false, beq_self_eq_true, stm, p0, p1, p2]
      have k3 := (Keep.refl (fun _ => False) w2).alloc (.cells #[.int .i64 l[i].1.1, .int .i64 l[i].1.2, ev l[i].2] 201)
      have y0 : cel (w2.alloc (.cells #[.int .i64 l[i].1.1, .int .i64 l[i].1.2, ev l[i].2] 201)) (siz w2) 0 = some (.int .i64 l[i].1.1) := cel_alloc_new
      have y1 : cel (w2.alloc (.cells #[.int .i64 l[i].1.1, .int .i64 l[i].1.2, ev l[i].2] 201)) (siz w2) 1 = some (.int .i64 l[i].1.2) := cel_alloc_new
      have o3 := o2.keep k3 fun _ _ => id
      have s23 := k3.size
      generalize w2.alloc (.cells #[.int .i64 l[i].1.1, .int .i64 l[i].1.2, ev l[i].2] 201) = w3 at k3 y0 y1 o3 s23
      have k13 := k2.trans k3
      by_cases hv : l[i].2 = v
      · rw [if_pos hv] at hL1
        simp only [stp, Nat.reduceAdd, Int.reduceLT, Int.reduceLE, Int.reduceEq, Int.reduceNe, ne_eq, bne_self_eq_false, beq_self_eq_true, stm, hv, y0, y1]
        refine pu_70 o3 (by intro u hu; exact encS_one (s := l[i].1) hu) (by omega) (by omega) fun v' w' ho hk hr => hJ' _ _ ⟨?_, ?_⟩
        · exact k13.trans' hk fun b hb e => by have := (o3.lt e).1; omega
        · rw [hL1, flat_append, flat_one, List.length_append]; exact ho
      · rw [if_neg hv, List.append_nil] at hL1
        simp only [stp, Nat.reduceAdd, Int.reduceLT, Int.reduceLE, Int.reduceEq, Int.reduceNe, ne_eq, bne_self_eq_false, beq_self_eq_true, stm, hv]
        refine hJ' _ _ ⟨k13, ?_⟩
        rw [hL1]; exact o3
    · rintro x' w6 ⟨k6, o6⟩ _
      simp only [stp, Nat.reduceAdd, Int.reduceLT, Int.reduceLE, Int.reduceEq, Int.reduceNe, ne_eq, bne_self_eq_false, beq_self_eq_true, hwi]
      exact hJ (l.length - (i + 1)) _ _ _ (by omega) ⟨k6, i + 1, _, rfl, by omega, rfl, rfl, o6⟩
  · have hlt' : ¬ ((i : Int) < (l.length : Int)) := by omega
    have hil : i = l.length := by omega
    rw [hil, List.take_length] at hL
    simp only [stp, Nat.reduceAdd, Int.reduceLT, Int.reduceLE, Int.reduceEq, Int.reduceNe, ne_eq, bne_self_eq_false, beq_self_eq_true, hlt']
    rw [hL] at o2
    exact hq _ _ (o2.le (by omega)) (k1.trans k2)

theorem nswap_c {a b : Int} {v u : Value} (hq : ∀ w', Keep (fun _ => False) w w' → Q (.int .i64 0) w') : callS Tryz.prog 52 #[.pointer none, .agg #[.int .i64 a, .int .i64 b], v, u] Q w := by
  refine ref52 ?_
  unfold S52
  simp only [stp, Nat.reduceAdd, Int.reduceLT, Int.reduceLE, Int.reduceEq, Int.reduceNe, ne_eq, bne_self_eq_false, beq_self_eq_true, stm]
  have k1 := (Keep.refl (fun _ => False) w).alloc (.cells #[.int .i64 a, .int .i64 b] 72)
  refine nparts_c fun w2 k2 => ?_
  have z0 : ((0 : Nat) : Int) = 0 := rfl
  simp only [stp, Nat.reduceAdd, Int.reduceLT, Int.reduceLE, Int.reduceEq, Int.reduceNe, ne_eq, bne_self_eq_false, beq_self_eq_true, z0]
  refine lp2 (fun mm x y w' => x = .int .i64 0 ∧ y = .int .i64 0 ∧ w' = w2) 0 ⟨rfl, rfl, rfl⟩ ?_
  rintro mm x y w' ⟨rfl, rfl, rfl⟩ J hJ _
  simp only [stp, Nat.reduceAdd, Int.reduceLT, Int.reduceLE, Int.reduceEq, Int.reduceNe, ne_eq, bne_self_eq_false, beq_self_eq_true, show ¬ ((0 : Int) < 0) by omega]
  exact hq _ (k1.trans k2)
/-- What a swap makes: the blocks of the range that have the one value have the other one. -/
theorem swap_c {a b : Int} {v u : Int} (hm : IM w m l) (hl : l.length ≤ 50000) (hM : ∀ p ∈ l, p.1.2 ≤ 9223372036854775807)
    (hq : ∀ w' l', IM w' m l' → (∀ x, valB l' x = if hasB (a, b) x ∧ valB l x = some v then some u else valB l x) → l'.length ≤ 3 * l.length → Keep (fun b => b = m) w w' → Q (.int .i64 (sumS (withL v (partsL (a, b) l)))) w') :
    callS Tryz.prog 52 #[.pointer (some ⟨m, 0, none⟩), .agg #[.int .i64 a, .int .i64 b], ev v, ev u] Q w := by
  refine ref52 ?_
  unfold S52
  have hcan := hm.canon
  simp only [stp, Nat.reduceAdd, Int.reduceLT, Int.reduceLE, Int.reduceEq, Int.reduceNe, ne_eq, bne_self_eq_false, beq_self_eq_true, stm]
  have k1 := (Keep.refl (fun _ => False) w).alloc (.cells #[.int .i64 a, .int .i64 b] 72)
  have m1 := hm.keep0 k1
  have s1 : siz (w.alloc (.cells #[.int .i64 a, .int .i64 b] 72)) = siz w + 1 := siz_alloc
  generalize w.alloc (.cells #[.int .i64 a, .int .i64 b] 72) = w1 at k1 m1 s1
  refine parts_c m1 (by omega) fun w2 v2 o2 k2 => ?_
  have m2 := m1.keep0 k2
  have hPl := partsL_len (a, b) l
  have hPc := partsL_canon (s := (a, b)) hcan
  have hPM : ∀ p ∈ partsL (a, b) l, p.1.2 ≤ 9223372036854775807 := fun p hp => by
    obtain ⟨r, hr, _, rfl⟩ := partsL_mem hp
    have := hM r hr
    simp only; omega
  have hPv := partsL_val (a, b) l hcan.1
  generalize partsL (a, b) l = P at o2 hPl hPc hPM hPv hq ⊢
  obtain ⟨pa, ca, rfl⟩ := o2.form
  simp only [stp, Nat.reduceAdd, Int.reduceLT, Int.reduceLE, Int.reduceEq, Int.reduceNe, ne_eq, bne_self_eq_false, beq_self_eq_true]
  have sumOk : ∀ i, 0 ≤ sumS (withL v (P.take i)) ∧ sumS (withL v (P.take i)) ≤ 9223372036854775807 := fun i => by
    have hc : Canon (P.take i) := ⟨fun p hp => hPc.1 p (List.mem_of_mem_take hp), hPc.2.sublist (List.take_sublist _ _)⟩
    have hn := withL_nrm (v := v) hc
    refine ⟨sumS_nonneg hn.1, sumS_max hn (by omega) fun s hs => ?_⟩
    obtain ⟨p, hp, rfl⟩ := List.mem_map.1 hs
    exact hPM p (List.mem_of_mem_take (List.mem_filter.1 hp).1)
  refine lp2 (fun mm x y w' => Keep (fun b => b = m) w2 w' ∧ ∃ (i : Nat) (l' : List (Pt Int)), x = .int .i64 (sumS (withL v (P.take i))) ∧ y = .int .i64 (i : Int) ∧ i ≤ P.length ∧ mm = P.length - i ∧ IM w' m l' ∧ (∀ x, valB l' x = if valB (P.take i) x = some v then some u else valB l x) ∧ l'.length ≤ l.length + 2 * i) P.length
    ⟨Keep.refl _ _, 0, l, by simp [withL, sumS], rfl, Nat.zero_le _, by omega, m2, fun x => by simp [valB], by omega⟩ ?_
  rintro mm x y w3 ⟨k3, i, l3, rfl, rfl, hi, rfl, m3, hv3, hl3⟩ J hJ _
  have hwi := wrap_succ (i := i) (by omega)
  by_cases hlt : i < P.length
  · have hlt' : ((i : Int) < (P.length : Int)) := by omega
    have hsi : P[i]? = some P[i] := List.getElem?_eq_getElem hlt
    have hokp := hPc.1 _ (List.getElem_mem hlt)
    have hmp := hPM _ (List.getElem_mem hlt)
    have o3 := m2.list o2 (by decide) k3
    obtain ⟨g, cg, e, _, _, _, _, _, hcel⟩ := o3.at (by omega)
    injection e with e1 _ e2
    subst e1 e2
    obtain ⟨p0, p1, p2⟩ := parts_at (ev := ev) (b := g) (o := 0) (l := P) (fun j hj => by rw [Nat.zero_add]; exact hcel j hj) hsi
    rw [Nat.zero_add] at p0 p1 p2
    have hW : withL v (P.take (i + 1)) = withL v (P.take i) ++ (if P[i].2 = v then [P[i].1] else []) := by
      rw [List.take_add_one, hsi, Option.toList_some, withL_snoc]
    have hval1 : ∀ x, valB (P.take (i + 1)) x = (valB (P.take i) x).or (if hasB P[i].1 x then some P[i].2 else none) := fun x => by
      rw [List.take_add_one, hsi, Option.toList_some, valB_append]; rfl
    have hdis : ∀ x, hasB P[i].1 x → valB (P.take i) x = none := fun x hx => by
      have ha := hPc.apart
      have : Apart (P.take i ++ [P[i]]) := by
        have e : P.take i ++ [P[i]] = P.take (i + 1) := by rw [List.take_add_one, hsi]; rfl
        rw [e]
        exact ⟨fun p hp => ha.1 p (List.mem_of_mem_take hp), ha.2.sublist (List.take_sublist _ _)⟩
      exact valB_none.2 fun p hp hh => (List.pairwise_append.1 this.2).2.2 p hp P[i] (by simp) x ⟨hh, hx⟩
    simp only [stp, Nat.reduceAdd, Int.reduceLT, Int.reduceLE, Int.reduceEq, Int.reduceNe, ne_eq, bne_self_eq_false, beq_self_eq_true, hlt']
    refine jn1 (fun x' w' => x' = .int .i64 (sumS (withL v (P.take (i + 1)))) ∧ Keep (fun b => b = m) w2 w' ∧ ∃ l', IM w' m l' ∧ (∀ x, valB l' x = if valB (P.take (i + 1)) x = some v then some u else valB l x) ∧ l'.length ≤ l.length + 2 * (i + 1)) (fun J' hJ' => ?_) ?_
    · rw [ix_93 hlt]
      simp only [stp, Nat.reduceAdd, Int.reduceLT, Int.reduceLE, Int.reduceEq, Int.reduceNe, ne_eq, bne_self_eq_false, beq_self_eq_true, stm, p0, p1, p2]
      have k4 := (Keep.refl (fun _ => False) w3).alloc (.cells #[.int .i64 P[i].1.1, .int .i64 P[i].1.2, ev P[i].2] 201)
      have y0 : cel (w3.alloc (.cells #[.int .i64 P[i].1.1, .int .i64 P[i].1.2, ev P[i].2] 201)) (siz w3) 0 = some (.int .i64 P[i].1.1) := cel_alloc_new
      have y1 : cel (w3.alloc (.cells #[.int .i64 P[i].1.1, .int .i64 P[i].1.2, ev P[i].2] 201)) (siz w3) 1 = some (.int .i64 P[i].1.2) := cel_alloc_new
      have m4 := m3.keep0 k4
      generalize w3.alloc (.cells #[.int .i64 P[i].1.1, .int .i64 P[i].1.2, ev P[i].2] 201) = w4 at k4 y0 y1 m4
      by_cases hv : P[i].2 = v
      · rw [if_pos hv] at hW
        simp only [stp, Nat.reduceAdd, Int.reduceLT, Int.reduceLE, Int.reduceEq, Int.reduceNe, ne_eq, bne_self_eq_false, beq_self_eq_true, stm, hv, y0, y1]
        refine Go.Proofs.YtndjohbbaplekaaGreatI.len_c hmp fun w5 g5 => ?_
        have y0' := g5.1.cel y0 id
        have y1' := g5.1.cel y1 id
        have hsum := sumOk (i + 1)
        rw [hW, sumS_snoc] at hsum
        have hw2 : IntKind.i64.wrap (sumS (withL v (P.take i)) + (if ok (P[i].1.1, P[i].1.2) then P[i].1.2 - P[i].1.1 else 0)) = sumS (withL v (P.take (i + 1))) := by
          rw [if_pos (show ok (P[i].1.1, P[i].1.2) from hokp), wrap_id (by omega) (by omega), hW, sumS_snoc]
        try simp only [stp, Nat.reduceAdd, Int.reduceLT, Int.reduceLE, Int.reduceEq, Int.reduceNe, ne_eq, bne_self_eq_false, beq_self_eq_true, stm, y0', y1', hw2]
        refine set_ok (m4.keep0 g5.1) hokp (by omega) fun w6 l6 m6 hv6 hl6 k6 => ?_
        refine hJ' _ _ ⟨rfl, (k3.trans (k4.trans g5.1).none).trans k6, l6, m6, fun x => ?_, by omega⟩
        rw [hv6, hv3, hval1]
        by_cases hx : hasB P[i].1 x
        · have : hasB (P[i].1.1, P[i].1.2) x := hx
          simp [this, hx, hdis x hx, hv]
        · have : ¬ hasB (P[i].1.1, P[i].1.2) x := hx
          simp [this, hx]
      · rw [if_neg hv, List.append_nil] at hW
        simp only [stp, Nat.reduceAdd, Int.reduceLT, Int.reduceLE, Int.reduceEq, Int.reduceNe, ne_eq, bne_self_eq_false, beq_self_eq_true, stm, hv]
        refine hJ' _ _ ⟨by rw [hW], k3.trans k4.none, l3, m4, fun x => ?_, by omega⟩
        rw [hv3, hval1]
        by_cases hx : hasB P[i].1 x
        · simp [hx, hdis x hx, hv]
        · simp [hx]
    · rintro x' w6 ⟨rfl, k6, l6, m6, hv6, hl6⟩ _
      simp only [stp, Nat.reduceAdd, Int.reduceLT, Int.reduceLE, Int.reduceEq, Int.reduceNe, ne_eq, bne_self_eq_false, beq_self_eq_true, hwi]
      exact hJ (P.length - (i + 1)) _ _ _ (by omega) ⟨k6, i + 1, l6, rfl, rfl, by omega, rfl, m6, hv6, hl6⟩
  · have hlt' : ¬ ((i : Int) < (P.length : Int)) := by omega
    have hil : i = P.length := by omega
    simp only [stp, Nat.reduceAdd, Int.reduceLT, Int.reduceLE, Int.reduceEq, Int.reduceNe, ne_eq, bne_self_eq_false, beq_self_eq_true, hlt']
    rw [hil, List.take_length] at hv3 ⊢
    refine hq _ l3 m3 (fun x => ?_) (by omega) ((k1.trans k2).none.trans k3)
    rw [hv3, hPv]
    by_cases h1 : hasB (a, b) x
    · simp [h1]
    · simp [h1]
end
end Go.Proofs.YtndjohbbaplekaaGreatI.Mi
