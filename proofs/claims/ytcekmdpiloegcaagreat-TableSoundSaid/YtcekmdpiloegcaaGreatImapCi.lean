/- Maps of blocks to values of type int: the parts of a range; the ranges of a value; a swap. Conditions: as each says. -/
import Derived.Test.YtcekmdpiloegcaaGreatImapBi
set_option linter.unusedSimpArgs false
set_option linter.unusedVariables false
namespace Go.Proofs.YtcekmdpiloegcaaGreat.Mi
open Go.Sh Go.Proofs.YtcekmdpiloegcaaGreat
set_option maxRecDepth 100000
section
variable {w : World} {Q : Value → World → Prop} {m : Nat} {l : List (Pt Int)}

theorem nparts_c {s : Value} (hq : ∀ w', Keep (fun _ => False) w w' → Q (.slice none 0 0) w') : callS Tryz.prog 23 #[.pointer none, s] Q w := by
  refine ref23 ?_
  unfold S23
  simp only [stp, Nat.reduceAdd, Int.reduceLT, Int.reduceLE, Int.reduceEq, Int.reduceNe, ne_eq, bne_self_eq_false, beq_self_eq_true, stm]
  exact hq _ ((Keep.refl _ w).alloc _)
theorem parts_c {a b : Int} (hm : IM w m l) (hl : l.length ≤ 1000000)
    (hq : ∀ w' v', Own w' (siz w) 65 3 v' (partsL (a, b) l).length (flat enc (partsL (a, b) l)) → Keep (fun _ => False) w w' → Q v' w') :
    callS Tryz.prog 23 #[.pointer (some ⟨m, 0, none⟩), .agg #[.int .i64 a, .int .i64 b]] Q w := by
  refine ref23 ?_
  unfold S23
  obtain ⟨sl, hm1, hm2, hm3⟩ := hm
  have hmc := cel_of hm1
  simp only [act_box, agg_cells]
  have k1 := (Keep.refl (fun _ => False) w).alloc (.cells #[.int .i64 a, .int .i64 b] 27)
  have x0 : cel (w.alloc (.cells #[.int .i64 a, .int .i64 b] 27)) (siz w) 0 = some (.int .i64 a) := cel_alloc_new
  have x1 : cel (w.alloc (.cells #[.int .i64 a, .int .i64 b] 27)) (siz w) 1 = some (.int .i64 b) := cel_alloc_new
  have s1 : siz (w.alloc (.cells #[.int .i64 a, .int .i64 b] 27)) = siz w + 1 := siz_alloc
  generalize w.alloc (.cells #[.int .i64 a, .int .i64 b] 27) = w1 at k1 x0 x1 s1
  have c1 := k1.cel hmc id
  have o1 := hm2.keep k1 fun _ _ => id
  obtain ⟨pa, ca, rfl⟩ := o1.form
  simp only [stp, Nat.reduceAdd, Int.reduceLT, Int.reduceLE, Int.reduceEq, Int.reduceNe, ne_eq, bne_self_eq_false, beq_self_eq_true, stm, c1]
  refine lp2 (fun mm x y w' => Keep (fun _ => False) w1 w' ∧ ∃ (i : Nat) (L : List (Pt Int)), y = .int .i64 (i : Int) ∧ i ≤ l.length ∧ mm = l.length - i ∧ L = partsL (a, b) (l.take i) ∧ Own w' (siz w1) 65 3 x L.length (flat enc L)) l.length
    ⟨Keep.refl _ _, 0, [], rfl, Nat.zero_le _, by omega, rfl, Own.nil _ _ _ _⟩ ?_
  rintro mm x y w2 ⟨k2, i, L, rfl, hi, rfl, hL, o2⟩ J hJ _
  have hwi := wrap_succ (i := i) (by omega)
  have hLl : L.length ≤ i := by
    have := partsL_len (a, b) (l.take i)
    rw [← hL, List.length_take] at this
    omega
  have s12 := k2.size
  by_cases hlt : i < l.length
  · have hlt' : ((i : Int) < (l.length : Int)) := by omega
    have hsi : l[i]? = some l[i] := List.getElem?_eq_getElem hlt
    have hL1 : partsL (a, b) (l.take (i + 1)) = L ++ (if meetsB l[i].1 (a, b) then [((max l[i].1.1 a, min l[i].1.2 b), l[i].2)] else []) := by
      rw [List.take_add_one, hsi, Option.toList_some, partsL_snoc, ← hL]
    obtain ⟨g, cg, e, _, _, _, _, _, hcel⟩ := (o1.keep k2 fun _ _ => id).at (by omega)
    injection e with e1 _ e2
    subst e1 e2
    obtain ⟨p0, p1, p2⟩ := parts_at (ev := ev) (b := g) (o := 0) (l := l) (fun j hj => by rw [Nat.zero_add]; exact hcel j hj) hsi
    rw [Nat.zero_add] at p0 p1 p2
    simp only [stp, Nat.reduceAdd, Int.reduceLT, Int.reduceLE, Int.reduceEq, Int.reduceNe, ne_eq, bne_self_eq_false, beq_self_eq_true, hlt']
    refine jn1 (fun x' w' => Keep (fun _ => False) w1 w' ∧ Own w' (siz w1) 65 3 x' (partsL (a, b) (l.take (i + 1))).length (flat enc (partsL (a, b) (l.take (i + 1))))) (fun J' hJ' => ?_) ?_
    · rw [ix_62 hlt]
      simp only [stp, Nat.reduceAdd, Int.reduceLT, Int.reduceLE, Int.reduceEq, Int.reduceNe, ne_eq, bne_self_eq_false, beq_self_eq_true, stm, p0, p1, p2]
      have k3 := (Keep.refl (fun _ => False) w2).alloc (.cells #[.int .i64 l[i].1.1, .int .i64 l[i].1.2, ev l[i].2] 65)
      have y0 : cel (w2.alloc (.cells #[.int .i64 l[i].1.1, .int .i64 l[i].1.2, ev l[i].2] 65)) (siz w2) 0 = some (.int .i64 l[i].1.1) := cel_alloc_new
      have y1 : cel (w2.alloc (.cells #[.int .i64 l[i].1.1, .int .i64 l[i].1.2, ev l[i].2] 65)) (siz w2) 1 = some (.int .i64 l[i].1.2) := cel_alloc_new
      have y2 : cel (w2.alloc (.cells #[.int .i64 l[i].1.1, .int .i64 l[i].1.2, ev l[i].2] 65)) (siz w2) 2 = some (ev l[i].2) := cel_alloc_new
      generalize w2.alloc (.cells #[.int .i64 l[i].1.1, .int .i64 l[i].1.2, ev l[i].2] 65) = w3 at k3 y0 y1 y2
      have z0 := k3.cel (k2.cel x0 id) id
      have z1 := k3.cel (k2.cel x1 id) id
      try simp only [stp, Nat.reduceAdd, Int.reduceLT, Int.reduceLE, Int.reduceEq, Int.reduceNe, ne_eq, bne_self_eq_false, beq_self_eq_true, stm, y0, y1, z0, z1]
      refine meet_c fun w4 g4 => ?_
      have k14 := (k2.trans k3).trans g4.1
      have y2' := g4.1.cel y2 id
      have o4 := (o2.keep k3 fun _ _ => id).keep g4.1 fun _ _ => id
      have s34 := g4.1.size
      have s23 := k3.size
      by_cases hmt : meetsB l[i].1 (a, b)
      · have hmt' : ok (l[i].1.1, l[i].1.2) ∧ ok (a, b) ∧ ok (max l[i].1.1 a, min l[i].1.2 b) := hmt
        rw [if_pos hmt']
        rw [if_pos hmt] at hL1
        simp only [stp, Nat.reduceAdd, Int.reduceLT, Int.reduceLE, Int.reduceEq, Int.reduceNe, ne_eq, bne_self_eq_false, beq_self_eq_true, stm]
        have k5 := (Keep.refl (fun _ => False) w4).alloc (.cells #[.int .i64 (max l[i].1.1 a), .int .i64 (min l[i].1.2 b)] 27)
        have u0 : cel (w4.alloc (.cells #[.int .i64 (max l[i].1.1 a), .int .i64 (min l[i].1.2 b)] 27)) (siz w4) 0 = some (.int .i64 (max l[i].1.1 a)) := cel_alloc_new
        have u1 : cel (w4.alloc (.cells #[.int .i64 (max l[i].1.1 a), .int .i64 (min l[i].1.2 b)] 27)) (siz w4) 1 = some (.int .i64 (min l[i].1.2 b)) := cel_alloc_new
        have y2'' := k5.cel y2' id
        have o5 := o4.keep k5 fun _ _ => id
        generalize w4.alloc (.cells #[.int .i64 (max l[i].1.1 a), .int .i64 (min l[i].1.2 b)] 27) = w5 at k5 u0 u1 y2'' o5
        try simp only [stp, Nat.reduceAdd, Int.reduceLT, Int.reduceLE, Int.reduceEq, Int.reduceNe, ne_eq, bne_self_eq_false, beq_self_eq_true, stm, u0, u1, y2'']
        have s45 := k5.size
        refine pu_62 o5 (by intro u hu; exact encP_one (ev := ev) ev_one (p := ((max l[i].1.1 a, min l[i].1.2 b), l[i].2)) hu) (by omega) (by omega) fun v' w' ho hk hr => hJ' _ _ ⟨?_, ?_⟩
        · exact (k14.trans k5).trans' hk fun b hb e => by have := (o5.lt e).1; omega
        · rw [hL1, flat_append, flat_one, List.length_append]; exact ho
      · have hmt' : ¬ (ok (l[i].1.1, l[i].1.2) ∧ ok (a, b) ∧ ok (max l[i].1.1 a, min l[i].1.2 b)) := hmt
        rw [if_neg hmt']
        rw [if_neg hmt, List.append_nil] at hL1
        simp only [stp, Nat.reduceAdd, Int.reduceLT, Int.reduceLE, Int.reduceEq, Int.reduceNe, ne_eq, bne_self_eq_false, beq_self_eq_true, stm]
        have k5 := (Keep.refl (fun _ => False) w4).alloc (.cells #[.int .i64 0, .int .i64 0] 27)
        refine hJ' _ _ ⟨k14.trans k5, ?_⟩
        rw [hL1]; exact o4.keep k5 fun _ _ => id
    · rintro x' w6 ⟨k6, o6⟩ _
      simp only [stp, Nat.reduceAdd, Int.reduceLT, Int.reduceLE, Int.reduceEq, Int.reduceNe, ne_eq, bne_self_eq_false, beq_self_eq_true, hwi]
      exact hJ (l.length - (i + 1)) _ _ _ (by omega) ⟨k6, i + 1, _, rfl, by omega, rfl, rfl, o6⟩
  · have hlt' : ¬ ((i : Int) < (l.length : Int)) := by omega
    have hil : i = l.length := by omega
    rw [hil, List.take_length] at hL
    simp only [stp, Nat.reduceAdd, Int.reduceLT, Int.reduceLE, Int.reduceEq, Int.reduceNe, ne_eq, bne_self_eq_false, beq_self_eq_true, hlt']
    rw [hL] at o2
    exact hq _ _ (o2.le (by omega)) (k1.trans k2)


end
end Go.Proofs.YtcekmdpiloegcaaGreat.Mi
