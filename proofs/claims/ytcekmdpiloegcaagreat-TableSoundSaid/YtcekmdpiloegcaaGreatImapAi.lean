/- Maps of blocks to values of type int: how they lie in memory; what the inner functions compute. Conditions: as each says. -/
import Derived.Test.YtcekmdpiloegcaaGreatSpanD
import Derived.Test.YtcekmdpiloegcaaGreatImapX
set_option linter.unusedSimpArgs false
set_option linter.unusedVariables false
namespace Go.Proofs.YtcekmdpiloegcaaGreat.Mi
open Go.Sh Go.Proofs.YtcekmdpiloegcaaGreat
set_option maxRecDepth 100000
abbrev ev (v : Int) : Value := Value.int .i64 v
theorem ev_one (v : Int) : Go.Sh.one (ev v) = true := one_int
abbrev enc : Pt Int → List Value := encP ev
/-- Block m is a map whose parts are l. -/
def IM (w : World) (m : Nat) (l : List (Pt Int)) : Prop := ∃ sl, blk w m = some (.cells #[sl] 76) ∧ Own w 0 65 3 sl l.length (flat enc l) ∧ Canon l
section
variable {w : World} {Q : Value → World → Prop} {m : Nat} {l : List (Pt Int)}

theorem IM.canon (h : IM w m l) : Canon l := by obtain ⟨_, _, _, h⟩ := h; exact h
theorem IM.lt (h : IM w m l) : m < siz w := by obtain ⟨_, h, _⟩ := h; exact blk_lt h
theorem cel_of {sl : Value} (h : blk w m = some (.cells #[sl] 76)) : cel w m 0 = some sl := by rw [cel, h]; rfl
theorem fre_of {sl : Value} (h : blk w m = some (.cells #[sl] 76)) : fre w m = true := by rw [fre, h]; rfl
theorem own_ne {w : World} {base n z : Nat} {e : TypeId} {v x : Value} {xs : List Value} {g : Nat} (h : Own w base e z v n xs) (hg : blk w g = some (.cells #[x] 76)) (he : e ≠ 76) : v.ownBlock ≠ some g := fun hv => by
  rcases h.2 with ⟨rfl, _⟩ | ⟨g', cap, cur, rfl, _, hb, _⟩
  · cases hv
  · injection hv with hv
    subst hv
    rw [show w.heap[g']? = blk w g' from rfl, hg] at hb
    injection hb with hb
    injection hb with _ hb
    exact he hb.symm
theorem IM.keep0 {w' : World} (h : IM w m l) (k : Keep (fun _ => False) w w') : IM w' m l := by
  obtain ⟨sl, h1, h2, h3⟩ := h
  exact ⟨sl, by rw [k.block m (blk_lt h1) id]; exact h1, h2.keep k fun _ _ => id, h3⟩
/-- Another map turns. -/
theorem IM.keepM {w' : World} {n : Nat} {l' : List (Pt Int)} (h : IM w m l) (hn : IM w n l') (hne : m ≠ n) (k : Keep (fun b => b = n) w w') : IM w' m l := by
  obtain ⟨sl, h1, h2, h3⟩ := h
  obtain ⟨sl', h1', _⟩ := hn
  refine ⟨sl, by rw [k.block m (blk_lt h1) hne]; exact h1, h2.keep k fun g hg e => ?_, h3⟩
  subst e
  exact own_ne h2 h1' (by decide) hg
/-- A list of one's own stands while a map turns. -/
theorem IM.list {w' : World} {base n z : Nat} {e : TypeId} {v : Value} {xs : List Value} (h : IM w m l) (ho : Own w base e z v n xs) (he : e ≠ 76) (k : Keep (fun b => b = m) w w') : Own w' base e z v n xs := by
  obtain ⟨sl, h1, _⟩ := h
  refine ho.keep k fun g hg e' => ?_
  subst e'
  exact own_ne ho h1 he hg

theorem new_c (hq : ∀ w', IM w' (siz w) [] → Keep (fun _ => False) w w' → Q (.pointer (some ⟨siz w, 0, none⟩)) w') : callS Tryz.prog 15 #[] Q w := by
  refine ref15 ?_
  unfold S15
  simp only [stp, Nat.reduceAdd, Int.reduceLT, Int.reduceLE, Int.reduceEq, Int.reduceNe, ne_eq, bne_self_eq_false, beq_self_eq_true, stm]
  exact hq _ ⟨_, blk_alloc_new, Own.nil _ _ _ _, Canon.nil⟩ ((Keep.refl _ w).alloc _)

theorem cmp_c {p q : Pt Int} (hq : ∀ w', Grw w w' → Q (.int .i64 (cmpF p q)) w') : callS Tryz.prog 57 #[.agg (enc p).toArray, .agg (enc q).toArray] Q w := by
  refine ref57 ?_
  unfold S57
  simp only [encP]
  simp only [stp, Nat.reduceAdd, Int.reduceLT, Int.reduceLE, Int.reduceEq, Int.reduceNe, ne_eq, bne_self_eq_false, beq_self_eq_true, stm]
  refine compare_c ?_
  exact hq _ (((Grw.refl w).alloc _).alloc _)

theorem sort_c {base : Nat} {v : Value} {l : List (Pt Int)} (hown : Own w base 65 3 v l.length (flat enc l)) (hlen : l.length ≤ 1000000)
    (hq : ∀ l' w', l'.Perm l → l'.Pairwise (fun s t => s.1.1 ≤ t.1.1) → Own w' base 65 3 v l.length (flat enc l') → Keep (fun b => v.ownBlock = some b) w w' → Q (.tuple #[]) w') :
    callS Tryz.prog 56 #[v, .func (.func 57) #[] #[]] Q w := by
  have L := YtcekmdpiloegcaaGreat.sortPi
  refine sortFunc_c (ρ := YtcekmdpiloegcaaGreat.sortPi_ren) (k := 3) (enc := enc) (cf := cmpF) L (fun w => Tryz.isAgg65 w) (fun w => Tryz.sizeOf65 w) (encP_len ev) (fun x v hv => encP_one ev_one hv) swo_cmpF (g := 57) (fun a w => Tryz.call57 a w)
    (fun x y w => cmp_c (p := x) (q := y) fun w' g => ⟨rfl, g⟩) (fun a w => Tryz.call56 a w) hown (by omega) fun l' w' hp hs ho hk => hq l' w' hp (hs.imp fun {s t} h => cmpF_le h) ho hk

theorem without_c {a b : Int} (hm : IM w m l) (hs : ok (a, b)) (hl : l.length ≤ 400000)
    (hq : ∀ w' v', Own w' (siz w) 65 3 v' (outL (a, b) l).length (flat enc (outL (a, b) l)) → Keep (fun _ => False) w w' → Q v' w') :
    callS Tryz.prog 44 #[.pointer (some ⟨m, 0, none⟩), .agg #[.int .i64 a, .int .i64 b]] Q w := by
  refine ref44 ?_
  unfold S44
  obtain ⟨sl, hm1, hm2, hm3⟩ := hm
  have hmc := cel_of hm1
  simp only [act_box, agg_cells]
  have k1 := (Keep.refl (fun _ => False) w).alloc (.cells #[.int .i64 a, .int .i64 b] 27)
  have x0 : cel (w.alloc (.cells #[.int .i64 a, .int .i64 b] 27)) (siz w) 0 = some (.int .i64 a) := cel_alloc_new
  have x1 : cel (w.alloc (.cells #[.int .i64 a, .int .i64 b] 27)) (siz w) 1 = some (.int .i64 b) := cel_alloc_new
  have s1 : siz (w.alloc (.cells #[.int .i64 a, .int .i64 b] 27)) = siz w + 1 := siz_alloc
  generalize w.alloc (.cells #[.int .i64 a, .int .i64 b] 27) = w1 at k1 x0 x1 s1
  have c1 := k1.cel hmc id
  have o1 := hm2.keep k1 fun _ _ => id
  obtain ⟨pa, ca, rfl⟩ := o1.form
  simp only [stp, Nat.reduceAdd, Int.reduceLT, Int.reduceLE, Int.reduceEq, Int.reduceNe, ne_eq, bne_self_eq_false, beq_self_eq_true, stm, c1]
  refine lp2 (fun mm x y w' => Keep (fun _ => False) w1 w' ∧ ∃ (i : Nat) (L : List (Pt Int)), y = .int .i64 (i : Int) ∧ i ≤ l.length ∧ mm = l.length - i ∧ L = outL (a, b) (l.take i) ∧ Own w' (siz w1) 65 3 x L.length (flat enc L)) l.length
    ⟨Keep.refl _ _, 0, [], rfl, Nat.zero_le _, by omega, rfl, Own.nil _ _ _ _⟩ ?_
  rintro mm x y w2 ⟨k2, i, L, rfl, hi, rfl, hL, o2⟩ J hJ _
  have hwi := wrap_succ (i := i) (by omega)
  have hLl : L.length ≤ 2 * i := by rw [hL]; exact outL_part _ _ _
  by_cases hlt : i < l.length
  · have hlt' : ((i : Int) < (l.length : Int)) := by omega
    have hsi : l[i]? = some l[i] := List.getElem?_eq_getElem hlt
    have hokp : ok l[i].1 := hm3.1 _ (List.getElem_mem hlt)
    obtain ⟨g, cg, e, _, _, _, _, _, hcel⟩ := (o1.keep k2 fun _ _ => id).at (by omega)
    injection e with e1 _ e2
    subst e1 e2
    obtain ⟨p0, p1, p2⟩ := parts_at (ev := ev) (b := g) (o := 0) (l := l) (fun j hj => by rw [Nat.zero_add]; exact hcel j hj) hsi
    rw [Nat.zero_add] at p0 p1 p2
    simp only [stp, Nat.reduceAdd, Int.reduceLT, Int.reduceLE, Int.reduceEq, Int.reduceNe, ne_eq, bne_self_eq_false, beq_self_eq_true, hlt']
    rw [ix_62 hlt]
    simp only [stp, Nat.reduceAdd, Int.reduceLT, Int.reduceLE, Int.reduceEq, Int.reduceNe, ne_eq, bne_self_eq_false, beq_self_eq_true, stm, p0, p1, p2]
    have k3 := (Keep.refl (fun _ => False) w2).alloc (.cells #[.int .i64 l[i].1.1, .int .i64 l[i].1.2, ev l[i].2] 65)
    have y0 : cel (w2.alloc (.cells #[.int .i64 l[i].1.1, .int .i64 l[i].1.2, ev l[i].2] 65)) (siz w2) 0 = some (.int .i64 l[i].1.1) := cel_alloc_new
    have y1 : cel (w2.alloc (.cells #[.int .i64 l[i].1.1, .int .i64 l[i].1.2, ev l[i].2] 65)) (siz w2) 1 = some (.int .i64 l[i].1.2) := cel_alloc_new
    have y2 : cel (w2.alloc (.cells #[.int .i64 l[i].1.1, .int .i64 l[i].1.2, ev l[i].2] 65)) (siz w2) 2 = some (ev l[i].2) := cel_alloc_new
    generalize w2.alloc (.cells #[.int .i64 l[i].1.1, .int .i64 l[i].1.2, ev l[i].2] 65) = w3 at k3 y0 y1 y2
    try simp only [stp, Nat.reduceAdd, Int.reduceLT, Int.reduceLE, Int.reduceEq, Int.reduceNe, ne_eq, bne_self_eq_false, beq_self_eq_true, stm, y0, y1]
    have k4 := (Keep.refl (fun _ => False) w3).alloc (.cells #[.int .i64 l[i].1.1, .int .i64 l[i].1.2] 27)
    have r4 : Rd 2 (w3.alloc (.cells #[.int .i64 l[i].1.1, .int .i64 l[i].1.2] 27)) (.slice (some ⟨siz w3, 0, none⟩) 1 1) [l[i].1].length (flat encS [l[i].1]) :=
      ⟨rfl, .inr ⟨siz w3, 0, 1, rfl, by simp, fun j hj => by rw [Nat.zero_add, cel_alloc_new, List.getElem?_toArray]; rfl⟩⟩
    generalize w3.alloc (.cells #[.int .i64 l[i].1.1, .int .i64 l[i].1.2] 27) = w4 at k4 r4
    have z0 := k4.cel (k3.cel (k2.cel x0 id) id) id
    have z1 := k4.cel (k3.cel (k2.cel x1 id) id) id
    try simp only [stp, Nat.reduceAdd, Int.reduceLT, Int.reduceLE, Int.reduceEq, Int.reduceNe, ne_eq, bne_self_eq_false, beq_self_eq_true, stm, z0, z1]
    have k5 := (Keep.refl (fun _ => False) w4).alloc (.cells #[.int .i64 a, .int .i64 b] 27)
    have r5 : Rd 2 (w4.alloc (.cells #[.int .i64 a, .int .i64 b] 27)) (.slice (some ⟨siz w4, 0, none⟩) 1 1) [((a, b) : Sp)].length (flat encS [(a, b)]) :=
      ⟨rfl, .inr ⟨siz w4, 0, 1, rfl, by simp, fun j hj => by rw [Nat.zero_add, cel_alloc_new, List.getElem?_toArray]; rfl⟩⟩
    generalize w4.alloc (.cells #[.int .i64 a, .int .i64 b] 27) = w5 at k5 r5
    refine minus_c (r4.keep0 k5) r5 (by simp) fun w6 v6 O hnO hmO hlO o6 k6 => ?_
    obtain ⟨n1, n2⟩ := cutN hs hokp
    have hO : O = (cutS (a, b) l[i].1).filter fun t => decide (ok t) := nrm_unique _ _ hnO n1 fun x => by
      rw [hmO, n2]; simp [memB]
    have hO2 : O.length ≤ 2 := by simpa using hlO
    have hL1 : outL (a, b) (l.take (i + 1)) = L ++ pieces O l[i].2 := by
      rw [List.take_add_one, hsi, Option.toList_some, outL_snoc, ← hL, hO]; rfl
    have k36 := (k4.trans k5).trans k6
    have k26 := k3.trans k36
    have oL := o2.keep k26 fun _ _ => id
    have y0' := k36.cel y0 id
    have y1' := k36.cel y1 id
    have y2' := k36.cel y2 id
    obtain ⟨p6, c6, rfl⟩ := o6.form
    simp only [stp, Nat.reduceAdd, Int.reduceLT, Int.reduceLE, Int.reduceEq, Int.reduceNe, ne_eq, bne_self_eq_false, beq_self_eq_true]
    have xlt : ∀ g, x.ownBlock = some g → g < siz w2 := fun g hg => (o2.lt hg).2
    have s12 := k2.size
    have s36 := k36.size
    have s23 := k3.size
    refine lp2 (fun mm xi y w' => Keep (fun b => x.ownBlock = some b) w6 w' ∧ (∀ g, xi.ownBlock = some g → x.ownBlock = some g ∨ siz w6 ≤ g) ∧ ∃ j : Nat, y = .int .i64 (j : Int) ∧ j ≤ O.length ∧ mm = O.length - j ∧ Own w' (siz w1) 65 3 xi (L ++ pieces (O.take j) l[i].2).length (flat enc (L ++ pieces (O.take j) l[i].2))) O.length
      ⟨Keep.refl _ _, fun g hg => .inl hg, 0, rfl, Nat.zero_le _, by omega, by simpa [pieces] using oL⟩ ?_
    rintro mm xi y w7 ⟨k7, hxi, j, rfl, hj, rfl, o7⟩ J' hJ' _
    have n6 : ∀ g, (Value.slice p6 O.length c6).ownBlock = some g → ¬ x.ownBlock = some g := fun g h1 h2 => by
      have := (o6.lt h1).1
      have := xlt g h2
      have := k4.size
      have := k5.size
      omega
    have hwj := wrap_succ (i := j) (by omega)
    by_cases hjt : j < O.length
    · have hjt' : ((j : Int) < (O.length : Int)) := by omega
      have hsO : O[j]? = some O[j] := List.getElem?_eq_getElem hjt
      obtain ⟨gO, cgO, e, _, _, _, _, _, hcelO⟩ := (o6.keep k7 n6).at (by omega)
      injection e with e1 _ e2
      subst e1 e2
      obtain ⟨d0, d1⟩ := spans_at (b := gO) (o := 0) (l := O) (fun j hj => by rw [Nat.zero_add]; exact hcelO j hj) hsO
      rw [Nat.zero_add] at d0 d1
      simp only [stp, Nat.reduceAdd, Int.reduceLT, Int.reduceLE, Int.reduceEq, Int.reduceNe, ne_eq, bne_self_eq_false, beq_self_eq_true, hjt']
      rw [ix_94 hjt]
      simp only [stp, Nat.reduceAdd, Int.reduceLT, Int.reduceLE, Int.reduceEq, Int.reduceNe, ne_eq, bne_self_eq_false, beq_self_eq_true, stm, d0, d1]
      have k8 := (Keep.refl (fun _ => False) w7).alloc (.cells #[.int .i64 O[j].1, .int .i64 O[j].2] 27)
      have u0 : cel (w7.alloc (.cells #[.int .i64 O[j].1, .int .i64 O[j].2] 27)) (siz w7) 0 = some (.int .i64 O[j].1) := cel_alloc_new
      have u1 : cel (w7.alloc (.cells #[.int .i64 O[j].1, .int .i64 O[j].2] 27)) (siz w7) 1 = some (.int .i64 O[j].2) := cel_alloc_new
      have y2'' := k8.cel (k7.cel y2' (fun h => by have := xlt _ h; omega)) id
      have o8 := o7.keep k8 fun _ _ => id
      generalize w7.alloc (.cells #[.int .i64 O[j].1, .int .i64 O[j].2] 27) = w8 at k8 u0 u1 y2'' o8
      try simp only [stp, Nat.reduceAdd, Int.reduceLT, Int.reduceLE, Int.reduceEq, Int.reduceNe, ne_eq, bne_self_eq_false, beq_self_eq_true, stm, u0, u1, y2'']
      have hlen8 : (L ++ pieces (O.take j) l[i].2).length ≤ 2 * i + j := by simp [pieces]; omega
      have s26 := k26.size
      have s67 := k7.size
      have s78 := k8.size
      refine pu_62 o8 (by intro u hu; exact encP_one (ev := ev) ev_one (p := (O[j], l[i].2)) hu) (by omega) (by omega) fun v' w' ho hk hr => ?_
      refine hJ' (O.length - (j + 1)) _ _ _ (by omega) ⟨(k7.trans k8.none).trans' hk fun b hb e => ?_, fun g hg => ?_, j + 1, by rw [hwj], by omega, rfl, ?_⟩
      · rcases hxi b e with h | h
        · exact h
        · omega
      · rcases hr g hg with h | h
        · exact hxi g h
        · exact .inr (by omega)
      · have e9 : L ++ pieces (O.take (j + 1)) l[i].2 = (L ++ pieces (O.take j) l[i].2) ++ [(O[j], l[i].2)] := by
          rw [List.take_add_one, hsO, Option.toList_some]; unfold pieces; rw [List.map_append, List.append_assoc]; rfl
        rw [e9, flat_append, List.length_append]
        exact ho
    · have hjt' : ¬ ((j : Int) < (O.length : Int)) := by omega
      have hjO : j = O.length := by omega
      rw [hjO, List.take_length, ← hL1] at o7
      simp only [stp, Nat.reduceAdd, Int.reduceLT, Int.reduceLE, Int.reduceEq, Int.reduceNe, ne_eq, bne_self_eq_false, beq_self_eq_true, hjt', hwi]
      exact hJ (l.length - (i + 1)) _ _ _ (by omega) ⟨(k2.trans k26).trans' k7 fun b hb e => by have := (o2.lt e).1; omega, i + 1, _, rfl, by omega, rfl, rfl, o7⟩
  · have hlt' : ¬ ((i : Int) < (l.length : Int)) := by omega
    have hil : i = l.length := by omega
    rw [hil, List.take_length] at hL
    simp only [stp, Nat.reduceAdd, Int.reduceLT, Int.reduceLE, Int.reduceEq, Int.reduceNe, ne_eq, bne_self_eq_false, beq_self_eq_true, hlt']
    rw [hL] at o2
    exact hq _ _ (o2.le (by omega)) (k1.trans k2)

/-! ### laying -/
theorem IM.mk {sl : Value} (h1 : blk w m = some (.cells #[sl] 76)) (h2 : Own w 0 65 3 sl l.length (flat enc l)) (h3 : Canon l) : IM w m l := ⟨sl, h1, h2, h3⟩
theorem blk_sto_map {sl x : Value} (h : blk w m = some (.cells #[sl] 76)) : blk (sto w m 0 x) m = some (.cells #[x] 76) := by
  simp only [blk, sto, World.setCell, Array.getElem?_modify, if_true] at *
  rw [h]; rfl
theorem own_lastP {e : TypeId} {base : Nat} {v : Value} {o : List (Pt Int)} {t : Pt Int} (h : Own w base e 3 v (o ++ [t]).length (flat enc (o ++ [t]))) :
    ∃ g cap, v = .slice (some ⟨g, 0, none⟩) (o ++ [t]).length cap ∧ base ≤ g ∧ g < siz w ∧ fre w g = true ∧ cel w g (o.length * 3) = some (.int .i64 t.1.1) ∧ cel w g (o.length * 3 + 1) = some (.int .i64 t.1.2) ∧ cel w g (o.length * 3 + 2) = some (ev t.2) := by
  obtain ⟨g, cap, rfl, h1, h2, _, _, h3, h4⟩ := h.at (by simp)
  obtain ⟨c0, c1, c2⟩ := parts_at (ev := ev) (b := g) (o := 0) (l := o ++ [t]) (fun j hj => by rw [Nat.zero_add]; exact h4 j hj) (i := o.length) (p := t) (by simp)
  rw [Nat.zero_add] at c0 c1 c2
  exact ⟨g, cap, rfl, h1, h2, h3, c0, c1, c2⟩

theorem lay_c {B : Nat} {sl0 v : Value} {L : List (Pt Int)} (hm1 : blk w m = some (.cells #[sl0] 76)) (hB : m < B) (hBw : B ≤ siz w) (hv : Own w B 65 3 v L.length (flat enc L)) (hL : Apart L) (hl : L.length ≤ 400000)
    (hq : ∀ w' l', IM w' m l' → (∀ x, valB l' x = valB L x) → l'.length ≤ L.length → Keep (fun b => b = m ∨ v.ownBlock = some b) w w' → Q (.tuple #[]) w') :
    callS Tryz.prog 43 #[.pointer (some ⟨m, 0, none⟩), v] Q w := by
  refine ref43 ?_
  unfold S43
  refine sort_c hv (by omega) fun l3 w1 p3 s3 o1 k1 => ?_
  obtain ⟨hcan, hval⟩ := laid_of hL p3 s3
  have hlen3 : l3.length = L.length := p3.length_eq
  have vB : ∀ g, v.ownBlock = some g → B ≤ g ∧ g < siz w1 := fun g hg => o1.lt hg
  have hb1 : blk w1 m = some (.cells #[sl0] 76) := by
    rw [k1.block m (blk_lt hm1) (fun e => by have := (vB m e).1; omega)]; exact hm1
  have i1 : (cel w1 m 0).isSome = true := by rw [cel_of hb1]; rfl
  have f1 := fre_of hb1
  simp only [stp, Nat.reduceAdd, Int.reduceLT, Int.reduceLE, Int.reduceEq, Int.reduceNe, ne_eq, bne_self_eq_false, beq_self_eq_true, stm, i1, f1]
  have hb2 : blk (sto w1 m 0 (.slice none 0 0)) m = some (.cells #[.slice none 0 0] 76) := blk_sto_map hb1
  have k2 : Keep (fun b => b = m) w1 (sto w1 m 0 (.slice none 0 0)) := (Keep.refl (fun b => b = m) w1).sto (b := m) (.inl rfl) _ _
  have s2 : siz (sto w1 m 0 (.slice none 0 0)) = siz w1 := siz_sto
  generalize sto w1 m 0 (.slice none 0 0) = w2 at hb2 k2 s2
  have o2 : Own w2 B 65 3 v L.length (flat enc l3) := o1.keep k2 fun g hg e => by have := (vB g hg).1; omega
  have s1 := k1.size
  have kk2 : Keep (fun b => b = m ∨ v.ownBlock = some b) w w2 := (k1.mono fun _ _ h => .inr h).trans (k2.mono fun _ _ h => .inl h)
  rw [← hlen3] at o2
  obtain ⟨pv, cv, ev2⟩ := o2.form
  have lnv : ∀ {k : Value → Prop}, pur Tryz.prog (Builtin.len_ #[62] 3 #[v]) k = k (.int .i64 (l3.length : Int)) := by intro k; rw [ev2]; exact ln_62
  rw [lnv]
  -- the round's word: the map's slice x, the list O
  let Inv : World → Value → List (Pt Int) → Prop := fun w' x O => Keep (fun b => b = m) w2 w' ∧ blk w' m = some (.cells #[x] 76) ∧ Own w' (siz w2) 65 3 x O.length (flat enc O)
  refine lp1 (fun mm y w' => ∃ (i : Nat) (O : List (Pt Int)) (x : Value), y = .int .i64 (i : Int) ∧ i ≤ l3.length ∧ mm = l3.length - i ∧ O = (l3.take i).foldl mstepP [] ∧ Inv w' x O) l3.length
    ⟨0, [], _, rfl, Nat.zero_le _, by omega, rfl, Keep.refl _ _, hb2, Own.nil _ _ _ _⟩ ?_
  rintro mm y w4 ⟨i, O, x, rfl, hi, rfl, hO, k4, hb4, o4⟩ J hJ _
  have s4 := k4.size
  have hwi := wrap_succ (i := i) (by omega)
  have hOl : O.length ≤ i := by
    have := foldlP_len (l3.take i) []
    rw [← hO, List.length_take] at this
    simp only [List.length_nil] at this
    omega
  by_cases hlt : i < l3.length
  · have hlt' : ((i : Int) < (l3.length : Int)) := by omega
    simp only [stp, Nat.reduceAdd, Int.reduceLT, Int.reduceLE, Int.reduceEq, Int.reduceNe, ne_eq, bne_self_eq_false, beq_self_eq_true, hlt']
    have hs : l3[i]? = some l3[i] := List.getElem?_eq_getElem hlt
    have hO1 : (l3.take (i + 1)).foldl mstepP [] = mstepP O l3[i] := by
      rw [List.take_add_one, hs, List.foldl_append, ← hO]; rfl
    have ov4 : Own w4 B 65 3 v l3.length (flat enc l3) := o2.keep k4 fun g hg e => by have := (o2.lt hg).1; omega
    obtain ⟨gv, cgv, e, _, _, _, _, _, hcel⟩ := ov4.at (by omega)
    obtain ⟨c0, c1, c2⟩ := parts_at (ev := ev) (b := gv) (o := 0) (l := l3) (fun j hj => by rw [Nat.zero_add]; exact hcel j hj) hs
    rw [Nat.zero_add] at c0 c1 c2
    refine jn0 (fun w' => ∃ x', Inv w' x' (mstepP O l3[i])) (fun J' hJ' => ?_) ?_
    · rw [e, ix_62 hlt]
      simp only [stp, Nat.reduceAdd, Int.reduceLT, Int.reduceLE, Int.reduceEq, Int.reduceNe, ne_eq, bne_self_eq_false, beq_self_eq_true, stm, c0, c1, c2]
      have k5 := (Keep.refl (fun _ => False) w4).alloc (.cells #[.int .i64 l3[i].1.1, .int .i64 l3[i].1.2, ev l3[i].2] 65)
      have x0 : cel (w4.alloc (.cells #[.int .i64 l3[i].1.1, .int .i64 l3[i].1.2, ev l3[i].2] 65)) (siz w4) 0 = some (.int .i64 l3[i].1.1) := cel_alloc_new
      have x1 : cel (w4.alloc (.cells #[.int .i64 l3[i].1.1, .int .i64 l3[i].1.2, ev l3[i].2] 65)) (siz w4) 1 = some (.int .i64 l3[i].1.2) := cel_alloc_new
      have x2 : cel (w4.alloc (.cells #[.int .i64 l3[i].1.1, .int .i64 l3[i].1.2, ev l3[i].2] 65)) (siz w4) 2 = some (ev l3[i].2) := cel_alloc_new
      generalize w4.alloc (.cells #[.int .i64 l3[i].1.1, .int .i64 l3[i].1.2, ev l3[i].2] 65) = w5 at k5 x0 x1 x2
      have o5 := o4.keep k5 fun _ _ => id
      have hb5 : blk w5 m = some (.cells #[x] 76) := by rw [k5.block m (blk_lt hb4) id]; exact hb4
      have k25 := k4.trans k5.none
      have m5 := cel_of hb5
      have mf5 := fre_of hb5
      have s5 := k5.size
      have mlt := blk_lt hb4
      obtain ⟨ax, cx, ex⟩ := o5.form
      have lnx : ∀ {k : Value → Prop}, pur Tryz.prog (Builtin.len_ #[62] 3 #[x]) k = k (.int .i64 (O.length : Int)) := by intro k; rw [ex]; exact ln_62
      try simp only [stp, Nat.reduceAdd, Int.reduceLT, Int.reduceLE, Int.reduceEq, Int.reduceNe, ne_eq, bne_self_eq_false, beq_self_eq_true, stm, m5, lnx]
      -- appended
      have push : O ++ [l3[i]] = mstepP O l3[i] → ∀ {w6 : World}, Keep (fun _ => False) w5 w6 → ∀ {K : World → Prop}, (∀ w', (∃ x', Inv w' x' (mstepP O l3[i])) → K w') →
          act Tryz.prog (Builtin.append_ #[62, 62] 62 #[x, .slice (some ⟨siz w6, 0, none⟩) 1 1]) (fun t72 w_56 => act Tryz.prog (thenU (Instr.storeAt 62 (.pointer (some ⟨m, 0, none⟩)) t72)) (fun _ w_57 => K w_57) w_56) (w6.alloc (.cells #[.int .i64 l3[i].1.1, .int .i64 l3[i].1.2, ev l3[i].2] 65)) := fun hmm {w6} k6 {K} hK => by
        have s6 := k6.size
        refine pu_62 (o5.keep k6 fun _ _ => id) (by intro u hu; exact encP_one (ev := ev) ev_one (p := l3[i]) hu) (by omega) (by omega) fun v' w' ho hk hr => ?_
        have hb6 : blk w6 m = some (.cells #[x] 76) := by rw [k6.block m (blk_lt hb5) id]; exact hb5
        have hb7 : blk w' m = some (.cells #[x] 76) := by rw [hk.block m (blk_lt hb6) (fun e => own_ne o5 hb5 (by decide) e)]; exact hb6
        have i7 : (cel w' m 0).isSome = true := by rw [cel_of hb7]; rfl
        obtain ⟨av', cv', ev'⟩ := ho.form
        rw [st_62 (by rw [ev']; exact one_slice) i7 (fre_of hb7)]
        refine hK _ ⟨v', ?_, blk_sto_map hb7, ?_⟩
        · refine (((k25.trans k6.none).trans' hk fun b hb e => ?_).sto (.inl rfl) _ _)
          have := (o5.lt e).1; omega
        · rw [← hmm, flat_append, flat_one, List.length_append]
          exact ho.keep ((Keep.refl (fun b => b = m) w').sto (b := m) (.inl rfl) _ _) fun g hg e => own_ne ho hb7 (by decide) (by rw [hg, e])
      rcases lastP_cases O with hnil | ⟨o', t, hcons⟩
      · have hO0 : O.length = 0 := by rw [hnil]; rfl
        have h1 : IntKind.i64.wrap ((O.length : Int) - 1) = -1 := by rw [hO0]; exact wrap_id (by omega) (by omega)
        have h2 : ¬ (0 : Int) ≤ -1 := by omega
        simp only [stp, Nat.reduceAdd, Int.reduceLT, Int.reduceLE, Int.reduceEq, Int.reduceNe, ne_eq, bne_self_eq_false, beq_self_eq_true, stm, h1, h2]
        refine jn0 (fun w' => ∃ x', Inv w' x' (mstepP O l3[i])) (fun J2 hJ2 => ?_) fun w' h _ => hJ' w' h
        have k6 : Keep (fun _ => False) w5 w5.drew.drew := (Keep.refl _ w5).drew.drew
        have m6 : cel w5.drew.drew m 0 = some x := k6.cel m5 id
        have m7 : cel (w5.drew.drew.alloc (.cells #[.int .i64 l3[i].1.1, .int .i64 l3[i].1.2, ev l3[i].2] 65)) m 0 = some x := (k6.alloc _).cel m5 id
        simp only [stp, Nat.reduceAdd, Int.reduceLT, Int.reduceLE, Int.reduceEq, Int.reduceNe, ne_eq, bne_self_eq_false, beq_self_eq_true, stm, x0, x1, x2]
        refine ⟨?_, ?_⟩
        · try rw [ld_62 (by rw [m6]; rfl), m6]
          exact push (by rw [hnil]; rfl) k6 hJ2
        · try rw [ld_62 (by rw [m7]; rfl), m7]
          exact push (by rw [hnil]; rfl) k6 hJ2
      · have hO0 : O.length = o'.length + 1 := by rw [hcons]; simp
        have h1 : IntKind.i64.wrap ((O.length : Int) - 1) = ((O.length - 1 : Nat) : Int) := wrap_pred (by omega) (by omega)
        have h2 : (0 : Int) ≤ ((O.length - 1 : Nat) : Int) := by omega
        have h3 : O.length - 1 = o'.length := by omega
        have o5' := o5
        rw [hcons] at o5'
        obtain ⟨g, cap, eg, hg1, hg2, hg3, t0, t1, t2⟩ := own_lastP o5'
        rw [← hcons] at eg
        have hlt2 : O.length - 1 < O.length := by omega
        have t1' : cel w5 g ((O.length - 1) * 3 + 1) = some (.int .i64 t.1.2) := by rw [h3]; exact t1
        have t2' : cel w5 g ((O.length - 1) * 3 + 2) = some (ev t.2) := by rw [h3]; exact t2
        have ixx : ∀ {k : Value → Prop}, pur Tryz.prog (Instr.indexAt 62 x (.int .i64 ((O.length - 1 : Nat) : Int))) k = k (.pointer (some ⟨g, (O.length - 1) * 3, none⟩)) := fun {k} => by
          rw [eg, ix_62 hlt2, Nat.zero_add]
        have m5i : (cel w5 m 0).isSome = true := by rw [m5]; rfl
        simp only [stp, Nat.reduceAdd, Int.reduceLT, Int.reduceLE, Int.reduceEq, Int.reduceNe, ne_eq, bne_self_eq_false, beq_self_eq_true, stm, h1, h2, m5, ixx, t1', x0]
        by_cases hin1 : t.1.2 = l3[i].1.1
        · simp only [stp, Nat.reduceAdd, Int.reduceLT, Int.reduceLE, Int.reduceEq, Int.reduceNe, ne_eq, bne_self_eq_false, beq_self_eq_true, stm, hin1, m5, ixx, t2', x2]
          by_cases hin2 : t.2 = l3[i].2
          · have hin : t.1.2 = l3[i].1.1 ∧ t.2 = l3[i].2 := ⟨hin1, hin2⟩
            simp only [stp, Nat.reduceAdd, Int.reduceLT, Int.reduceLE, Int.reduceEq, Int.reduceNe, ne_eq, bne_self_eq_false, beq_self_eq_true, stm, hin2, m5, x1, ixx]
            have ti : (cel w5 g ((O.length - 1) * 3 + 1)).isSome = true := by rw [t1']; rfl
            simp only [stp, Nat.reduceAdd, Int.reduceLT, Int.reduceLE, Int.reduceEq, Int.reduceNe, ne_eq, bne_self_eq_false, beq_self_eq_true, stm, ti, hg3]
            refine hJ' _ ⟨x, ?_, ?_, ?_⟩
            · exact (k25.drew.drew).trans' ((Keep.refl (fun b => b = g) _).sto (b := g) (.inl rfl) _ _) fun b hb e => by subst e; omega
            · rw [blk_sto_ne (fun e => own_ne o5 hb5 (by decide) (by rw [eg, ← e]; rfl))]; exact hb5
            · have o6 : Own w5.drew.drew (siz w2) 65 3 x O.length (flat enc O) := o5.keep (Keep.refl (fun _ => False) w5).drew.drew fun _ _ => id
              rw [eg] at o6
              have o7 := o6.setZ (j := (O.length - 1) * 3 + 1) (x := .int .i64 l3[i].1.2) (by omega)
              rw [flat_set (enc := enc) (encP_len ev) (s := t) (s' := ((t.1.1, l3[i].1.2), t.2)) (by rw [h3, hcons]; simp) (by omega) rfl] at o7
              have e8 : O.set (O.length - 1) ((t.1.1, l3[i].1.2), t.2) = mstepP O l3[i] := by
                rw [h3]
                conv => rhs; rw [hcons, mstepP_in hin]
                rw [hcons]; simp
              rw [e8] at o7
              have e9 : (mstepP O l3[i]).length = O.length := by rw [← e8, List.length_set]
              rw [e9, eg]; exact o7
          · have hin : ¬ (t.1.2 = l3[i].1.1 ∧ t.2 = l3[i].2) := fun h => hin2 h.2
            simp only [stp, Nat.reduceAdd, Int.reduceLT, Int.reduceLE, Int.reduceEq, Int.reduceNe, ne_eq, bne_self_eq_false, beq_self_eq_true, stm, hin2]
            refine jn0 (fun w' => ∃ x', Inv w' x' (mstepP O l3[i])) (fun J2 hJ2 => ?_) fun w' h _ => hJ' w' h
            have k6 : Keep (fun _ => False) w5 w5.drew.drew := (Keep.refl _ w5).drew.drew
            have m6 : cel w5.drew.drew m 0 = some x := k6.cel m5 id
            have m7 : cel (w5.drew.drew.alloc (.cells #[.int .i64 l3[i].1.1, .int .i64 l3[i].1.2, ev l3[i].2] 65)) m 0 = some x := (k6.alloc _).cel m5 id
            simp only [stp, Nat.reduceAdd, Int.reduceLT, Int.reduceLE, Int.reduceEq, Int.reduceNe, ne_eq, bne_self_eq_false, beq_self_eq_true, stm, x0, x1, x2]
            refine ⟨?_, ?_⟩
            · try rw [ld_62 (by rw [m6]; rfl), m6]
              exact push (by rw [hcons, mstepP_out hin]; simp) k6 hJ2
            · try rw [ld_62 (by rw [m7]; rfl), m7]
              exact push (by rw [hcons, mstepP_out hin]; simp) k6 hJ2
        · have hin : ¬ (t.1.2 = l3[i].1.1 ∧ t.2 = l3[i].2) := fun h => hin1 h.1
          simp only [stp, Nat.reduceAdd, Int.reduceLT, Int.reduceLE, Int.reduceEq, Int.reduceNe, ne_eq, bne_self_eq_false, beq_self_eq_true, stm, hin1]
          refine jn0 (fun w' => ∃ x', Inv w' x' (mstepP O l3[i])) (fun J2 hJ2 => ?_) fun w' h _ => hJ' w' h
          have k6 : Keep (fun _ => False) w5 w5.drew.drew := (Keep.refl _ w5).drew.drew
          have m6 : cel w5.drew.drew m 0 = some x := k6.cel m5 id
          have m7 : cel (w5.drew.drew.alloc (.cells #[.int .i64 l3[i].1.1, .int .i64 l3[i].1.2, ev l3[i].2] 65)) m 0 = some x := (k6.alloc _).cel m5 id
          simp only [stp, Nat.reduceAdd, Int.reduceLT, Int.reduceLE, Int.reduceEq, Int.reduceNe, ne_eq, bne_self_eq_false, beq_self_eq_true, stm, x0, x1, x2]
          refine ⟨?_, ?_⟩
          · try rw [ld_62 (by rw [m6]; rfl), m6]
            exact push (by rw [hcons, mstepP_out hin]; simp) k6 hJ2
          · try rw [ld_62 (by rw [m7]; rfl), m7]
            exact push (by rw [hcons, mstepP_out hin]; simp) k6 hJ2
    · rintro w6 ⟨x', hI⟩ _
      simp only [stp, Nat.reduceAdd, Int.reduceLT, Int.reduceLE, Int.reduceEq, Int.reduceNe, ne_eq, bne_self_eq_false, beq_self_eq_true, hwi]
      exact hJ (l3.length - (i + 1)) _ _ (by omega) ⟨i + 1, _, x', rfl, by omega, rfl, hO1.symm, hI⟩
  · have hlt' : ¬ ((i : Int) < (l3.length : Int)) := by omega
    have hil : i = l3.length := by omega
    rw [hil, List.take_length] at hO
    simp only [stp, Nat.reduceAdd, Int.reduceLT, Int.reduceLE, Int.reduceEq, Int.reduceNe, ne_eq, bne_self_eq_false, beq_self_eq_true, hlt']
    refine hq _ O ⟨x, hb4, o4.le (Nat.zero_le _), by rw [hO]; exact hcan⟩ (fun y => by rw [hO]; exact hval y) (by omega) (kk2.trans (k4.mono fun _ _ h => .inl h))
end
end Go.Proofs.YtcekmdpiloegcaaGreat.Mi
