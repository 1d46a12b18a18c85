/- Ranges: what one list has and the other one has not; what both have; whether one covers the other. Conditions: the lists are read off memory as 'Rd' says; together they are no longer than a million. -/
import Derived.Test.YtcekmdpiloegcaaGreatSpanB
set_option linter.unusedSimpArgs false
set_option linter.unusedVariables false
namespace Go.Proofs.YtcekmdpiloegcaaGreat
open Go.Sh
set_option maxRecDepth 100000
section
variable {w : World} {Q : Value → World → Prop}

theorem minus_c {va vb : Value} {a b : List Sp} (ha : Rd 2 w va a.length (flat encS a)) (hb : Rd 2 w vb b.length (flat encS b)) (hl : a.length + b.length ≤ 400000)
    (hq : ∀ w' v' out, Nrm out → (∀ y, memB out y ↔ memB a y ∧ ¬ memB b y) → out.length ≤ a.length + b.length → Own w' (siz w) 27 2 v' out.length (flat encS out) → Keep (fun _ => False) w w' → Q v' w') :
    callS Tryz.prog 59 #[va, vb] Q w := by
  refine ref59 ?_
  unfold S59
  refine norm_c ha (by omega) fun w1 v1 O1 hn1 hl1 o1 k1 => ?_
  refine norm_c (hb.keep0 k1) (by omega) fun w2 v2 B hnB hlB oB k2 => ?_
  have hO1 : O1.length ≤ a.length := Nat.le_trans hl1 (List.length_filter_le _ _)
  have hB : B.length ≤ b.length := Nat.le_trans hlB (List.length_filter_le _ _)
  obtain ⟨aB, cB, rfl⟩ := oB.form
  simp only [stp, Nat.reduceAdd, Int.reduceLT, Int.reduceLE, Int.reduceEq, Int.reduceNe, ne_eq, bne_self_eq_false, beq_self_eq_true]
  refine lp2 (fun m x y w' => Keep (fun _ => False) w2 w' ∧ ∃ (i : Nat) (O : List Sp), y = .int .i64 (i : Int) ∧ i ≤ B.length ∧ m = B.length - i ∧ Nrm O ∧ (∀ y, memB O y ↔ memB a y ∧ ¬ memB (B.take i) y) ∧ O.length ≤ a.length + i ∧ Own w' (siz w) 27 2 x O.length (flat encS O)) B.length
    ⟨Keep.refl _ _, 0, O1, rfl, Nat.zero_le _, by omega, hn1.1, fun y => by rw [hn1.2]; simp [memB], by omega, (o1.keep k2 fun _ _ => id)⟩ ?_
  rintro m x y w3 ⟨k3, i, O, rfl, hi, rfl, hO, hmO, hlO, o3⟩ J hJ _
  have hwi := wrap_succ (i := i) (by omega)
  have s3 := k3.size
  have s2 := k2.size
  have s1 := k1.size
  by_cases hlt : i < B.length
  · have hlt' : ((i : Int) < (B.length : Int)) := by omega
    have hs : B[i]? = some B[i] := List.getElem?_eq_getElem hlt
    have hokx : ok B[i] := hnB.1.1 _ (List.getElem_mem hlt)
    obtain ⟨g, cg, e, _, _, _, _, _, hcel⟩ := (oB.keep k3 fun _ _ => id).at (by omega)
    injection e with e1 _ e2
    subst e1 e2
    obtain ⟨c0, c1⟩ := spans_at (b := g) (o := 0) (l := B) (fun j hj => by rw [Nat.zero_add]; exact hcel j hj) hs
    rw [Nat.zero_add] at c0 c1
    simp only [stp, Nat.reduceAdd, Int.reduceLT, Int.reduceLE, Int.reduceEq, Int.reduceNe, ne_eq, bne_self_eq_false, beq_self_eq_true, hlt']
    rw [ix_94 hlt]
    simp only [stp, Nat.reduceAdd, Int.reduceLT, Int.reduceLE, Int.reduceEq, Int.reduceNe, ne_eq, bne_self_eq_false, beq_self_eq_true, stm, c0, c1]
    have k4 := (Keep.refl (fun _ => False) w3).alloc (.cells #[.int .i64 B[i].1, .int .i64 B[i].2] 27)
    have x0 : cel (w3.alloc (.cells #[.int .i64 B[i].1, .int .i64 B[i].2] 27)) (siz w3) 0 = some (.int .i64 B[i].1) := cel_alloc_new
    have x1 : cel (w3.alloc (.cells #[.int .i64 B[i].1, .int .i64 B[i].2] 27)) (siz w3) 1 = some (.int .i64 B[i].2) := cel_alloc_new
    generalize w3.alloc (.cells #[.int .i64 B[i].1, .int .i64 B[i].2] 27) = w4 at k4 x0 x1
    have o4 := o3.keep k4 fun _ _ => id
    have s4 := k4.size
    obtain ⟨aO, cO, rfl⟩ := o4.form
    simp only [stp, Nat.reduceAdd, Int.reduceLT, Int.reduceLE, Int.reduceEq, Int.reduceNe, ne_eq, bne_self_eq_false, beq_self_eq_true]
    refine lp2 (fun m x y w' => Keep (fun _ => False) w4 w' ∧ ∃ (j : Nat) (L : List Sp), y = .int .i64 (j : Int) ∧ j ≤ O.length ∧ m = O.length - j ∧ L = cutAll B[i] (O.take j) ∧ Own w' (siz w4) 27 2 x L.length (flat encS L)) O.length
      ⟨Keep.refl _ _, 0, [], rfl, Nat.zero_le _, by omega, rfl, Own.nil _ _ _ _⟩ ?_
    rintro m x y w5 ⟨k5, j, L, rfl, hj, rfl, hL, o5⟩ J' hJ' _
    have hwj := wrap_succ (i := j) (by omega)
    have hLl : L.length ≤ 2 * j := by
      have := cutAll_len B[i] (O.take j)
      rw [← hL, List.length_take] at this
      omega
    have s5 := k5.size
    by_cases hjt : j < O.length
    · have hjt' : ((j : Int) < (O.length : Int)) := by omega
      have hsO : O[j]? = some O[j] := List.getElem?_eq_getElem hjt
      have hokO : ok O[j] := hO.1 _ (List.getElem_mem hjt)
      have hL1 : cutAll B[i] (O.take (j + 1)) = L ++ cutS B[i] O[j] := by
        rw [List.take_add_one, hsO, Option.toList_some, cutAll_snoc, ← hL]
      obtain ⟨gO, cgO, e, _, _, _, _, _, hcelO⟩ := (o4.keep k5 fun _ _ => id).at (by omega)
      injection e with e1 _ e2
      subst e1 e2
      obtain ⟨d0, d1⟩ := spans_at (b := gO) (o := 0) (l := O) (fun j hj => by rw [Nat.zero_add]; exact hcelO j hj) hsO
      rw [Nat.zero_add] at d0 d1
      simp only [stp, Nat.reduceAdd, Int.reduceLT, Int.reduceLE, Int.reduceEq, Int.reduceNe, ne_eq, bne_self_eq_false, beq_self_eq_true, hjt']
      refine jn1 (fun x w' => Keep (fun _ => False) w4 w' ∧ Own w' (siz w4) 27 2 x (L ++ cutS B[i] O[j]).length (flat encS (L ++ cutS B[i] O[j]))) (fun J2 hJ2 => ?_) ?_
      · rw [ix_94 hjt]
        simp only [stp, Nat.reduceAdd, Int.reduceLT, Int.reduceLE, Int.reduceEq, Int.reduceNe, ne_eq, bne_self_eq_false, beq_self_eq_true, stm, d0, d1]
        have k6 := (Keep.refl (fun _ => False) w5).alloc (.cells #[.int .i64 O[j].1, .int .i64 O[j].2] 27)
        have y0 : cel (w5.alloc (.cells #[.int .i64 O[j].1, .int .i64 O[j].2] 27)) (siz w5) 0 = some (.int .i64 O[j].1) := cel_alloc_new
        have y1 : cel (w5.alloc (.cells #[.int .i64 O[j].1, .int .i64 O[j].2] 27)) (siz w5) 1 = some (.int .i64 O[j].2) := cel_alloc_new
        have z0 := k6.cel (k5.cel x0 id) id
        have z1 := k6.cel (k5.cel x1 id) id
        generalize w5.alloc (.cells #[.int .i64 O[j].1, .int .i64 O[j].2] 27) = w6 at k6 y0 y1 z0 z1
        have o6 := o5.keep k6 fun _ _ => id
        have s6 := k6.size
        try simp only [stp, Nat.reduceAdd, Int.reduceLT, Int.reduceLE, Int.reduceEq, Int.reduceNe, ne_eq, bne_self_eq_false, beq_self_eq_true, stm, z0, z1]
        refine meets_c fun w7 g7 => ?_
        have o7 := o6.keep g7.1 fun _ _ => id
        have k47 := (k5.trans k6).trans g7.1
        have s7 := g7.1.size
        have y0' := g7.1.cel y0 id
        have y1' := g7.1.cel y1 id
        have z0' := g7.1.cel z0 id
        have z1' := g7.1.cel z1 id
        by_cases hm : meetsB O[j] B[i]
        · have hm' : ok (O[j].1, O[j].2) ∧ ok (B[i].1, B[i].2) ∧ ok (max O[j].1 B[i].1, min O[j].2 B[i].2) := hm
          have hc : cutS B[i] O[j] = [(O[j].1, B[i].1), (B[i].2, O[j].2)] := by unfold cutS; rw [if_pos hm]
          simp only [stp, Nat.reduceAdd, Int.reduceLT, Int.reduceLE, Int.reduceEq, Int.reduceNe, ne_eq, bne_self_eq_false, beq_self_eq_true, stm, hm', y0', y1', z0', z1', and_self]
          have hsz : siz (w7.alloc (.cells #[.int .i64 O[j].1, .int .i64 B[i].1, .int .i64 B[i].2, .int .i64 O[j].2] 27)) = siz w7 + 1 := siz_alloc
          have k8 := (Keep.refl (fun _ => False) w7).alloc (.cells #[.int .i64 O[j].1, .int .i64 B[i].1, .int .i64 B[i].2, .int .i64 O[j].2] 27)
          have hnw : ∀ j', j' < 2 * 2 → cel (w7.alloc (.cells #[.int .i64 O[j].1, .int .i64 B[i].1, .int .i64 B[i].2, .int .i64 O[j].2] 27)) (siz w7) (0 + j') = (flat encS (cutS B[i] O[j]))[j']? := fun j' hj' => by
            rw [Nat.zero_add, cel_alloc_new, List.getElem?_toArray, hc]; rfl
          generalize w7.alloc (.cells #[.int .i64 O[j].1, .int .i64 B[i].1, .int .i64 B[i].2, .int .i64 O[j].2] 27) = w8 at hsz k8 hnw
          refine ap_94 (o7.keep k8 fun _ _ => id) (b := siz w7) (o := 0) (m := 2) (news := flat encS (cutS B[i] O[j])) (by rw [hc]; rfl) hnw flatS_one (by omega) (by omega) fun v' w' ho hg hr => hJ2 _ _ ⟨?_, ?_⟩
          · exact (k47.trans k8).grown hg fun g hg' => .inr (o7.lt hg').1
          · rw [flat_append, List.length_append]
            have : (cutS B[i] O[j]).length = 2 := by rw [hc]; rfl
            rw [this]; exact ho
        · have hm' : ¬ (ok (O[j].1, O[j].2) ∧ ok (B[i].1, B[i].2) ∧ ok (max O[j].1 B[i].1, min O[j].2 B[i].2)) := hm
          have hc : cutS B[i] O[j] = [O[j]] := by unfold cutS; rw [if_neg hm]
          simp only [stp, Nat.reduceAdd, Int.reduceLT, Int.reduceLE, Int.reduceEq, Int.reduceNe, ne_eq, bne_self_eq_false, beq_self_eq_true, stm, hm', y0', y1']
          refine pu_94 o7 (by intro u hu; exact encS_one (s := O[j]) hu) (by omega) (by omega) fun v' w' ho hk hr => hJ2 _ _ ⟨?_, ?_⟩
          · exact k47.trans' hk fun b hb e => by have := (o7.lt e).1; omega
          · rw [hc, flat_append, flat_one, List.length_append]; exact ho
      · rintro x w6 ⟨k6, o6⟩ _
        simp only [stp, Nat.reduceAdd, Int.reduceLT, Int.reduceLE, Int.reduceEq, Int.reduceNe, ne_eq, bne_self_eq_false, beq_self_eq_true, hwj]
        exact hJ' (O.length - (j + 1)) _ _ _ (by omega) ⟨k6, j + 1, _, rfl, by omega, rfl, hL1.symm, o6⟩
    · have hjt' : ¬ ((j : Int) < (O.length : Int)) := by omega
      have hjO : j = O.length := by omega
      rw [hjO, List.take_length] at hL
      simp only [stp, Nat.reduceAdd, Int.reduceLT, Int.reduceLE, Int.reduceEq, Int.reduceNe, ne_eq, bne_self_eq_false, beq_self_eq_true, hjt', hwi]
      refine norm_c o5.rd (by omega) fun w6 v6 O6 hn6 hl6 o6 k6 => ?_
      rw [hL] at hn6 hl6
      have hcm := cutAll_mem hokx O hO.1
      have hcc := (cutAll_count hokx O hO).1
      refine hJ (B.length - (i + 1)) _ _ _ (by omega) ⟨((k3.trans k4).trans k5).trans k6, i + 1, O6, rfl, by omega, rfl, hn6.1, fun y => ?_, by omega, o6.le (by omega)⟩
      rw [hn6.2, hcm, hmO, memB_take hs, and_assoc, not_or]
  · have hlt' : ¬ ((i : Int) < (B.length : Int)) := by omega
    have hiB : i = B.length := by omega
    rw [hiB, List.take_length] at hmO
    simp only [stp, Nat.reduceAdd, Int.reduceLT, Int.reduceLE, Int.reduceEq, Int.reduceNe, ne_eq, bne_self_eq_false, beq_self_eq_true, hlt']
    exact hq _ _ O hO (fun y => by rw [hmO, hnB.2]) (by omega) o3 ((k1.trans k2).trans k3)



end
end Go.Proofs.YtcekmdpiloegcaaGreat
