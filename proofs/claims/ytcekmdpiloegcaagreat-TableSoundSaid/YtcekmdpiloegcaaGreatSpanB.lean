/- Ranges: copies, what is struck out, as few ranges as it takes. Conditions: the list is read off memory as 'Rd' says; it is not longer than a million. -/
import Derived.Test.YtcekmdpiloegcaaGreatSpanA
set_option linter.unusedSimpArgs false
set_option linter.unusedVariables false
namespace Go.Proofs.YtcekmdpiloegcaaGreat
open Go.Sh
set_option maxRecDepth 100000
section
variable {w : World} {Q : Value → World → Prop}

theorem flatS_one {l : List Sp} : ∀ u ∈ flat encS l, Go.Sh.one u = true := fun u hu => by
  obtain ⟨s, _, h⟩ := List.mem_flatMap.1 hu
  exact encS_one h

theorem clone_c {v : Value} {n : Nat} {xs : List Value} (h : Rd 2 w v n xs) (h1 : ∀ u ∈ xs, Go.Sh.one u = true) (hn : n ≤ 1000000) (hq : ∀ w' v', Own w' (siz w) 27 2 v' n xs → Keep (fun _ => False) w w' → Q v' w') :
    callS Tryz.prog 79 #[v] Q w := by
  refine ref79 ?_
  unfold S79
  obtain ⟨a, c, rfl⟩ := h.form
  cases a with
  | none =>
    simp only [stp, Nat.reduceAdd, Int.reduceLT, Int.reduceLE, Int.reduceEq, Int.reduceNe, ne_eq, bne_self_eq_false, beq_self_eq_true, stm]
    rcases h.2 with ⟨rfl, _⟩ | ⟨b, o, c', e, _⟩
    · have hx : xs = [] := List.length_eq_zero_iff.1 (by simpa using h.1)
      subst hx
      exact hq w _ (Own.nil _ _ _ _) (Keep.refl _ _)
    · cases e
  | some a =>
    simp only [stp, Nat.reduceAdd, Int.reduceLT, Int.reduceLE, Int.reduceEq, Int.reduceNe, ne_eq, bne_self_eq_false, beq_self_eq_true, stm]
    have k1 := (Keep.refl (fun _ => False) w).alloc (.cells #[] 27)
    have s1 : siz (w.alloc (.cells #[] 27)) = siz w + 1 := siz_alloc
    have o1 : Own (w.alloc (.cells #[] 27)) (siz w) 27 2 (.slice (some ⟨siz w, 0, none⟩) 0 0) 0 [] := Own.empty (Nat.le_refl _)
    have r1 := h.keep0 k1
    generalize w.alloc (.cells #[] 27) = w1 at k1 s1 o1 r1
    rcases Nat.eq_zero_or_pos n with rfl | hp
    · have hx : xs = [] := List.length_eq_zero_iff.1 (by simpa using h.1)
      subst hx
      rw [ap0_94 o1]
      exact hq _ _ o1 k1
    · obtain ⟨b, o, c', e, hc', hcel⟩ := r1.at hp
      injection e with e1 _ e2
      injection e1 with e1
      subst e1 e2
      refine ap_94 o1 r1.len hcel h1 (by omega) (by omega) fun v' w' ho hg hr => ?_
      rw [Nat.zero_add] at ho
      exact hq _ _ ho (k1.grown hg fun g hg' => .inr (by cases hg'; exact Nat.le_refl _))

/-! ### what is struck out -/
theorem norm1_c {a b : Int} (hq : ∀ w', Grw w w' → Q (.bool (!decide (ok (a, b)))) w') : callS Tryz.prog 80 #[.agg #[.int .i64 a, .int .i64 b]] Q w := by
  refine ref80 ?_
  unfold S80
  simp only [stp, Nat.reduceAdd, Int.reduceLT, Int.reduceLE, Int.reduceEq, Int.reduceNe, ne_eq, bne_self_eq_false, beq_self_eq_true, stm]
  refine valid_c fun w2 g2 => ?_
  simp only [stp, Nat.reduceAdd, Int.reduceLT, Int.reduceLE, Int.reduceEq, Int.reduceNe, ne_eq, bne_self_eq_false, beq_self_eq_true, stm]
  exact hq _ (((Grw.refl w).alloc _).trans g2)

theorem index_c {v : Value} {l : List Sp} (h : Rd 2 w v l.length (flat encS l)) (hl : l.length ≤ 1000000) (hq1 : ∀ w', Keep (fun _ => False) w w' → (∀ s ∈ l, ok s) → Q (.int .i64 (-1)) w')
    (hq2 : ∀ w' (i : Nat) s, Keep (fun _ => False) w w' → l[i]? = some s → ¬ ok s → (∀ s ∈ l.take i, ok s) → Q (.int .i64 (i : Int)) w') :
    callS Tryz.prog 89 #[v, .func (.func 80) #[] #[]] Q w := by
  refine ref89 ?_
  unfold S89
  obtain ⟨a, c, rfl⟩ := h.form
  simp only [stp, Nat.reduceAdd, Int.reduceLT, Int.reduceLE, Int.reduceEq, Int.reduceNe, ne_eq, bne_self_eq_false, beq_self_eq_true]
  refine lp1 (fun m x w' => Keep (fun _ => False) w w' ∧ ∃ i : Nat, x = .int .i64 (i : Int) ∧ i ≤ l.length ∧ m = l.length - i ∧ ∀ s ∈ l.take i, ok s) l.length ⟨Keep.refl _ _, 0, rfl, Nat.zero_le _, by omega, by simp⟩ ?_
  rintro m x w' ⟨k, i, rfl, hi, rfl, hok⟩ J hJ _
  by_cases hlt : i < l.length
  · have hlt' : ((i : Int) < (l.length : Int)) := by omega
    obtain ⟨b, o, c', e, hc', hcel⟩ := (h.keep0 k).at (by omega)
    injection e with e1 _ e2
    subst e1 e2
    have hs : l[i]? = some l[i] := List.getElem?_eq_getElem hlt
    obtain ⟨c0, c1⟩ := spans_at hcel hs
    simp only [stp, Nat.reduceAdd, Int.reduceLT, Int.reduceLE, Int.reduceEq, Int.reduceNe, ne_eq, bne_self_eq_false, beq_self_eq_true, hlt']
    rw [ix_94 hlt]
    simp only [stp, Nat.reduceAdd, Int.reduceLT, Int.reduceLE, Int.reduceEq, Int.reduceNe, ne_eq, bne_self_eq_false, beq_self_eq_true, stm, c0, c1]
    refine norm1_c fun w2 g2 => ?_
    have hw := wrap_succ (i := i) (by omega)
    by_cases h0 : ok (l[i].1, l[i].2)
    · simp only [stp, Nat.reduceAdd, Int.reduceLT, Int.reduceLE, Int.reduceEq, Int.reduceNe, ne_eq, bne_self_eq_false, beq_self_eq_true, h0, hw]
      refine hJ (l.length - (i + 1)) _ _ (by omega) ⟨k.trans g2.1, i + 1, rfl, by omega, rfl, fun s hm => ?_⟩
      rw [List.take_add_one, hs] at hm
      rcases List.mem_append.1 hm with hm | hm
      · exact hok s hm
      · simp at hm; subst hm; exact h0
    · simp only [stp, Nat.reduceAdd, Int.reduceLT, Int.reduceLE, Int.reduceEq, Int.reduceNe, ne_eq, bne_self_eq_false, beq_self_eq_true, h0]
      exact hq2 _ i _ (k.trans g2.1) hs h0 hok
  · have hlt' : ¬ ((i : Int) < (l.length : Int)) := by omega
    simp only [stp, Nat.reduceAdd, Int.reduceLT, Int.reduceLE, Int.reduceEq, Int.reduceNe, ne_eq, bne_self_eq_false, beq_self_eq_true, hlt']
    refine hq1 _ k fun s hs => hok s ?_
    rw [List.take_of_length_le (by omega)]; exact hs

theorem delete_c {base : Nat} {v : Value} {l : List Sp} (hown : Own w base 27 2 v l.length (flat encS l)) (hl : l.length ≤ 1000000)
    (hq : ∀ w' v' (l' : List Sp), l' = l.filter (fun s => decide (ok s)) → Own w' base 27 2 v' l'.length (flat encS l') → Keep (fun b => v.ownBlock = some b) w w' → (∀ g, v'.ownBlock = some g → v.ownBlock = some g) → Q v' w') :
    callS Tryz.prog 78 #[v, .func (.func 80) #[] #[]] Q w := by
  refine ref78 ?_
  unfold S78
  refine index_c hown.rd hl (fun w1 k1 hok => ?_) (fun w1 i0 s0 k1 hs0 hns hok => ?_)
  · simp only [stp, Nat.reduceAdd, Int.reduceLT, Int.reduceLE, Int.reduceEq, Int.reduceNe, ne_eq, bne_self_eq_false, beq_self_eq_true]
    refine hq w1 v l (by rw [List.filter_eq_self.2]; intro s hs; exact decide_eq_true (hok s hs)) (hown.keep k1 fun _ _ => id) k1.none fun _ => id
  · have hi0 := (List.getElem?_eq_some_iff.1 hs0).1
    obtain ⟨g, cap, rfl, hbg, hgs, hcap, hcm, hgf, _⟩ := hown.at (by omega)
    have hne : ¬ ((i0 : Int) = -1) := by omega
    have hw0 := wrap_succ (i := i0) (by omega)
    simp only [stp, Nat.reduceAdd, Int.reduceLT, Int.reduceLE, Int.reduceEq, Int.reduceNe, ne_eq, bne_self_eq_false, beq_self_eq_true, hne, hw0]
    have o1 := hown.keep k1 fun _ _ => id
    have f0 : (l.take (i0 + 1)).filter (fun s => decide (ok s)) = l.take i0 := by
      rw [List.take_add_one, hs0, List.filter_append, List.filter_eq_self.2 (fun s hs => decide_eq_true (hok s hs))]
      simp [hns]
    refine lp2 (fun m x y w' => Keep (fun b => b = g) w w' ∧ ∃ (i j : Nat) (cur : List Sp), x = .int .i64 (i : Int) ∧ y = .int .i64 (j : Int) ∧ i < j ∧ j ≤ l.length ∧ m = l.length - j ∧ cur.length = l.length ∧
      Own w' base 27 2 (.slice (some ⟨g, 0, none⟩) l.length cap) l.length (flat encS cur) ∧ cur.take i = (l.take j).filter (fun s => decide (ok s)) ∧ cur.drop j = l.drop j) (l.length - (i0 + 1))
      ⟨k1.none, i0, i0 + 1, l, rfl, rfl, by omega, by omega, rfl, rfl, o1, f0.symm, rfl⟩ ?_
    rintro m x y w2 ⟨k2, i, j, cur, rfl, rfl, hij, hjl, rfl, hcl, o2, ht, hd⟩ J hJ _
    have s2 := k2.size
    simp only [stp, Nat.reduceAdd, Int.reduceLT, Int.reduceLE, Int.reduceEq, Int.reduceNe, ne_eq, bne_self_eq_false, beq_self_eq_true]
    by_cases hlt : j < l.length
    · have hlt' : ((j : Int) < (l.length : Int)) := by omega
      obtain ⟨g', cap', e, _, _, _, _, gf2, hcel⟩ := o2.at (by omega)
      injection e with e1 _ e2
      injection e1 with e1
      injection e1 with e1 _ _
      subst e1 e2
      have hsj : cur[j]? = some l[j] := by
        have := congrArg (fun r => r[0]?) hd
        simp only [List.getElem?_drop, Nat.add_zero] at this
        rw [this]; exact List.getElem?_eq_getElem hlt
      have hlj : l[j]? = some l[j] := List.getElem?_eq_getElem hlt
      obtain ⟨c0, c1⟩ := spans_at (b := g) (o := 0) (l := cur) (by rw [hcl]; intro j' hj'; rw [Nat.zero_add]; exact hcel j' hj') hsj
      rw [Nat.zero_add] at c0 c1
      have hd1 : cur.drop (j + 1) = l.drop (j + 1) := by
        have := congrArg (List.drop 1) hd
        simpa [List.drop_drop, Nat.add_comm] using this
      have ht1 : (l.take (j + 1)).filter (fun s => decide (ok s)) = (l.take j).filter (fun s => decide (ok s)) ++ (if ok l[j] then [l[j]] else []) := by
        rw [List.take_add_one, hlj, List.filter_append]
        by_cases h : ok l[j] <;> simp [h]
      simp only [stp, Nat.reduceAdd, Int.reduceLT, Int.reduceLE, Int.reduceEq, Int.reduceNe, ne_eq, bne_self_eq_false, beq_self_eq_true, hlt']
      have hwj := wrap_succ (i := j) (by omega)
      have hwi := wrap_succ (i := i) (by omega)
      refine jn1 (fun x w' => Keep (fun b => b = g) w w' ∧ ∃ (i : Nat) (cur : List Sp), x = .int .i64 (i : Int) ∧ i < j + 1 ∧ cur.length = l.length ∧
        Own w' base 27 2 (.slice (some ⟨g, 0, none⟩) l.length cap) l.length (flat encS cur) ∧ cur.take i = (l.take (j + 1)).filter (fun s => decide (ok s)) ∧ cur.drop (j + 1) = l.drop (j + 1)) (fun J' hJ' => ?_) ?_
      · rw [ix_94 hlt]
        simp only [stp, Nat.reduceAdd, Int.reduceLT, Int.reduceLE, Int.reduceEq, Int.reduceNe, ne_eq, bne_self_eq_false, beq_self_eq_true, stm, c0, c1]
        have k3 := (Keep.refl (fun _ => False) w2).alloc (.cells #[.int .i64 l[j].1, .int .i64 l[j].2] 27)
        have o3 := o2.keep k3 fun _ _ => id
        have x0 : cel (w2.alloc (.cells #[.int .i64 l[j].1, .int .i64 l[j].2] 27)) (siz w2) 0 = some (.int .i64 l[j].1) := cel_alloc_new
        have x1 : cel (w2.alloc (.cells #[.int .i64 l[j].1, .int .i64 l[j].2] 27)) (siz w2) 1 = some (.int .i64 l[j].2) := cel_alloc_new
        generalize w2.alloc (.cells #[.int .i64 l[j].1, .int .i64 l[j].2] 27) = w3 at k3 o3 x0 x1
        refine norm1_c fun w4 g4 => ?_
        have k4 := k2.trans ((k3.trans g4.1).none)
        have o4 := o3.keep g4.1 fun _ _ => id
        have y0 := g4.1.cel x0 id
        have y1 := g4.1.cel x1 id
        by_cases h0 : ok (l[j].1, l[j].2)
        · simp only [stp, Nat.reduceAdd, Int.reduceLT, Int.reduceLE, Int.reduceEq, Int.reduceNe, ne_eq, bne_self_eq_false, beq_self_eq_true, stm, h0, y0, y1]
          rw [ix_94 (show i < l.length by omega)]
          obtain ⟨g', cap', e, _, _, _, _, gf4, hcel4⟩ := o4.at (by omega)
          injection e with e1 _ e2
          injection e1 with e1
          injection e1 with e1 _ _
          subst e1 e2
          have z0 : (cel w4 g (0 + i * 2)).isSome = true := by
            rw [Nat.zero_add, hcel4 _ (by omega), List.getElem?_eq_getElem (by rw [flat_len encS_len, hcl]; omega)]; rfl
          have z1 : (cel w4 g (0 + i * 2 + 1)).isSome = true := by
            rw [Nat.zero_add, hcel4 _ (by omega), List.getElem?_eq_getElem (by rw [flat_len encS_len, hcl]; omega)]; rfl
          rw [st_27 one_int one_int z0 z1 gf4]
          simp only [stp, Nat.reduceAdd, Int.reduceLT, Int.reduceLE, Int.reduceEq, Int.reduceNe, ne_eq, bne_self_eq_false, beq_self_eq_true, hwi]
          have o5 := Own.setL [.int .i64 l[j].1, .int .i64 l[j].2] o4 (j := i * 2) (by simp; omega)
          have e5 : (flat encS cur).take (i * 2) ++ ([.int .i64 l[j].1, .int .i64 l[j].2] ++ (flat encS cur).drop (i * 2 + [.int .i64 l[j].1, Value.int .i64 l[j].2].length)) = flat encS (cur.set i l[j]) := by
            rw [List.set_eq_take_append_cons_drop, if_pos (by omega), flat_append, flat_cons, ← flat_take encS_len, ← flat_drop encS_len]
            simp only [List.length_cons, List.length_nil, Nat.add_mul]
            rfl
          rw [e5] at o5
          refine hJ' _ _ ⟨Keep.stoL _ _ k4 (.inl rfl), i + 1, cur.set i l[j], rfl, by omega, by rw [List.length_set]; exact hcl, ?_, ?_, ?_⟩
          · exact o5
          · rw [ht1, if_pos h0, ← ht, List.take_add_one, List.getElem?_set_self (by omega)]
            rw [List.take_set_of_le (by omega)]; rfl
          · rw [List.drop_set_of_lt (by omega), hd1]
        · simp only [stp, Nat.reduceAdd, Int.reduceLT, Int.reduceLE, Int.reduceEq, Int.reduceNe, ne_eq, bne_self_eq_false, beq_self_eq_true, h0]
          refine hJ' _ _ ⟨k4, i, cur, rfl, by omega, hcl, o4, ?_, hd1⟩
          rw [ht1, if_neg h0, List.append_nil, ht]
      · rintro x w5 ⟨k5, i', cur', rfl, hi', hcl', o5, ht5, hd5⟩ _
        simp only [stp, Nat.reduceAdd, Int.reduceLT, Int.reduceLE, Int.reduceEq, Int.reduceNe, ne_eq, bne_self_eq_false, beq_self_eq_true, hwj]
        exact hJ (l.length - (j + 1)) _ _ _ (by omega) ⟨k5, i', j + 1, cur', rfl, rfl, hi', by omega, rfl, hcl', o5, ht5, hd5⟩
    · have hlt' : ¬ ((j : Int) < (l.length : Int)) := by omega
      have hj : j = l.length := by omega
      subst hj
      rw [List.take_length] at ht
      have hli : i = (l.filter (fun s => decide (ok s))).length := by
        rw [← ht, List.length_take]; omega
      have hkk : Keep (fun b => (Value.slice (some ⟨g, 0, none⟩) l.length cap).ownBlock = some b) w w2 := k2.mono fun b _ e => by subst e; rfl
      simp only [stp, Nat.reduceAdd, Int.reduceLT, Int.reduceLE, Int.reduceEq, Int.reduceNe, ne_eq, bne_self_eq_false, beq_self_eq_true, hlt']
      obtain ⟨g', cap', e, _, _, _, _, gf2, hcel⟩ := o2.at (by omega)
      injection e with e1 _ e2
      injection e1 with e1
      injection e1 with e1 _ _
      subst e1 e2
      have hne' : ¬ cap = i := by omega
      rw [slf_94 (show i ≤ l.length by omega) hcap, if_neg hne']
      have hzc : (Builtin.zeroCells (Value.agg #[.int .i64 0, .int .i64 0]).cells (l.length - i)).size = (l.length - i) * 2 := by simp [Builtin.zeroCells, Value.cells]
      rw [act_clearN (z := .agg #[.int .i64 0, .int .i64 0]) (fun w => Tryz.runUnderlying94 w) (fun w => Tryz.zeroValue27 w) (fun u hu => ?_) (fun j hj => ?_) gf2, slt_94 (show i ≤ cap by omega)]
      · have o3 := o2.cutL (m := i) (by omega) (Builtin.zeroCells (Value.agg #[.int .i64 0, .int .i64 0]).cells (l.length - i)).toList (by rw [Array.length_toList, hzc])
        rw [flat_take encS_len, ht] at o3
        try rw [Nat.zero_add]
        refine hq _ _ _ rfl ?_ (Keep.stoL _ _ hkk (.inl rfl)) fun _ => id
        rw [← hli]; exact o3
      · simp only [Builtin.zeroCells, Array.toList_map, List.mem_map] at hu
        obtain ⟨t, _, rfl⟩ := hu
        simp only [Value.cells, List.size_toArray, List.length_cons, List.length_nil, Nat.zero_add, Nat.reduceAdd]
        have : t % 2 = 0 ∨ t % 2 = 1 := by omega
        rcases this with h | h <;> rw [h] <;> exact one_int
      · simp only [Value.cells, List.size_toArray, List.length_cons, List.length_nil, Nat.zero_add, Nat.reduceAdd] at hj
        have hi2 : i * 2 + j < l.length * 2 := by omega
        rw [Nat.zero_add, hcel _ hi2, List.getElem?_eq_getElem (by rw [flat_len encS_len, hcl]; omega)]; rfl

/-! ### as few ranges as it takes -/
theorem own_last {e : TypeId} {base : Nat} {v : Value} {o : List Sp} {t : Sp} (h : Own w base e 2 v (o ++ [t]).length (flat encS (o ++ [t]))) :
    ∃ g cap, v = .slice (some ⟨g, 0, none⟩) (o ++ [t]).length cap ∧ base ≤ g ∧ g < siz w ∧ fre w g = true ∧ cel w g (o.length * 2) = some (.int .i64 t.1) ∧ cel w g (o.length * 2 + 1) = some (.int .i64 t.2) := by
  obtain ⟨g, cap, rfl, h1, h2, _, _, h3, h4⟩ := h.at (by simp)
  obtain ⟨c0, c1⟩ := spans_at (b := g) (o := 0) (l := o ++ [t]) (fun j hj => by rw [Nat.zero_add]; exact h4 j hj) (i := o.length) (s := t) (by simp)
  rw [Nat.zero_add] at c0 c1
  exact ⟨g, cap, rfl, h1, h2, h3, c0, c1⟩

theorem norm_c {v : Value} {l : List Sp} (h : Rd 2 w v l.length (flat encS l)) (hl : l.length ≤ 1000000)
    (hq : ∀ w' v' out, IsNorm l out → out.length ≤ (l.filter (fun s => decide (ok s))).length → Own w' (siz w) 27 2 v' out.length (flat encS out) → Keep (fun _ => False) w w' → Q v' w') :
    callS Tryz.prog 66 #[v] Q w := by
  refine ref66 ?_
  unfold S66
  refine clone_c h flatS_one (by omega) fun w1 v1 o1 k1 => ?_
  refine delete_c o1 hl fun w2 v2 l2 hl2 o2 k2 hv2 => ?_
  have hlen2 : l2.length ≤ l.length := by rw [hl2]; exact List.length_filter_le _ _
  refine sort_c o2 (by omega) fun l3 w3 p3 s3 o3 k3 => ?_
  have hlen3 : l3.length = l2.length := p3.length_eq
  have kk3 : Keep (fun _ => False) w w3 := by
    refine ⟨(k3.os.trans k2.os).trans k1.os, (k3.tape.trans k2.tape).trans k1.tape, (k3.output.trans k2.output).trans k1.output, Nat.le_trans k1.size (Nat.le_trans k2.size k3.size), fun b hb _ => ?_⟩
    have n1 : ¬ v1.ownBlock = some b := fun e => by have := (o1.lt e).1; omega
    have s1 := k1.size
    have s2 := k2.size
    rw [k3.block b (by omega) (fun e => n1 (hv2 b e)), k2.block b (by omega) n1, k1.block b hb id]
  obtain ⟨a2, c2, e2⟩ := o3.form
  have ln2 : ∀ {k : Value → Prop}, pur Tryz.prog (Builtin.len_ #[94] 3 #[v2]) k = k (.int .i64 (l2.length : Int)) := by intro k; rw [e2]; exact ln_94
  rw [ln2]
  rw [← hlen3] at o3 ⊢
  have hok3 : ∀ s ∈ l3, ok s := fun s hs => by
    have := p3.mem_iff.1 hs
    rw [hl2, List.mem_filter] at this
    exact of_decide_eq_true this.2
  have hv3 : ∀ g, v2.ownBlock = some g → g < siz w3 := fun g hg => (o3.lt hg).2
  refine lp2 (fun m x y w' => Keep (fun _ => False) w3 w' ∧ ∃ (i : Nat) (O : List Sp), y = .int .i64 (i : Int) ∧ i ≤ l3.length ∧ m = l3.length - i ∧ O = (l3.take i).foldl mstep [] ∧ Own w' (siz w3) 27 2 x O.length (flat encS O)) l3.length
    ⟨Keep.refl _ _, 0, [], rfl, Nat.zero_le _, by omega, rfl, Own.nil _ _ _ _⟩ ?_
  rintro m x y w4 ⟨k4, i, O, rfl, hi, rfl, hO, o4⟩ J hJ _
  have s4 := k4.size
  have hOl : O.length ≤ i := by
    have := foldl_len (l3.take i) []
    rw [← hO, List.length_take] at this
    simp only [List.length_nil] at this
    omega
  have hwi := wrap_succ (i := i) (by omega)
  simp only [stp, Nat.reduceAdd, Int.reduceLT, Int.reduceLE, Int.reduceEq, Int.reduceNe, ne_eq, bne_self_eq_false, beq_self_eq_true]
  by_cases hlt : i < l3.length
  · have hlt' : ((i : Int) < (l3.length : Int)) := by omega
    simp only [stp, Nat.reduceAdd, Int.reduceLT, Int.reduceLE, Int.reduceEq, Int.reduceNe, ne_eq, bne_self_eq_false, beq_self_eq_true, hlt']
    have hs : l3[i]? = some l3[i] := List.getElem?_eq_getElem hlt
    have hO1 : (l3.take (i + 1)).foldl mstep [] = mstep O l3[i] := by
      rw [List.take_add_one, hs, List.foldl_append, ← hO]; rfl
    have r4 : Rd 2 w4 v2 l3.length (flat encS l3) := o3.rd.keep0 k4
    obtain ⟨b, o, c', e, hc', hcel⟩ := r4.at (by omega)
    obtain ⟨c0, c1⟩ := spans_at hcel hs
    refine jn1 (fun x w' => Keep (fun _ => False) w3 w' ∧ Own w' (siz w3) 27 2 x (mstep O l3[i]).length (flat encS (mstep O l3[i]))) (fun J' hJ' => ?_) ?_
    · rw [e, ix_94 hlt]
      simp only [stp, Nat.reduceAdd, Int.reduceLT, Int.reduceLE, Int.reduceEq, Int.reduceNe, ne_eq, bne_self_eq_false, beq_self_eq_true, stm, c0, c1]
      have k5 := (Keep.refl (fun _ => False) w4).alloc (.cells #[.int .i64 l3[i].1, .int .i64 l3[i].2] 27)
      have x0 : cel (w4.alloc (.cells #[.int .i64 l3[i].1, .int .i64 l3[i].2] 27)) (siz w4) 0 = some (.int .i64 l3[i].1) := cel_alloc_new
      have x1 : cel (w4.alloc (.cells #[.int .i64 l3[i].1, .int .i64 l3[i].2] 27)) (siz w4) 1 = some (.int .i64 l3[i].2) := cel_alloc_new
      generalize w4.alloc (.cells #[.int .i64 l3[i].1, .int .i64 l3[i].2] 27) = w5 at k5 x0 x1
      have o5 := o4.keep k5 fun _ _ => id
      have k35 := k4.trans k5
      obtain ⟨ax, cx, ex⟩ := o5.form
      have push : ∀ {w6 : World}, Keep (fun _ => False) w5 w6 → O ++ [l3[i]] = mstep O l3[i] → act Tryz.prog (Builtin.append_ #[94, 94] 94 #[x, .slice (some ⟨siz w6, 0, none⟩) 1 1]) (fun t48 w_25 => J' t48 w_25) (w6.alloc (.cells #[.int .i64 l3[i].1, .int .i64 l3[i].2] 27)) := fun {w6} k6 hm => by
        have s6 := k6.size
        have s5 := k5.size
        refine pu_94 (o5.keep k6 fun _ _ => id) (by intro u hu; exact encS_one (s := l3[i]) hu) (by omega) (by omega) fun v' w' ho hk hr => hJ' _ _ ⟨?_, ?_⟩
        · exact (k35.trans k6).trans' hk fun b hb e => by have := (o5.lt e).1; omega
        · rw [← hm, flat_append, flat_one, List.length_append]; exact ho
      rcases last_cases O with hnil | ⟨o', t, hcons⟩
      · have hO0 : O.length = 0 := by rw [hnil]; rfl
        have h1 : IntKind.i64.wrap ((0 : Nat) - 1 : Int) = -1 := wrap_id (by omega) (by omega)
        have h2 : ¬ (0 : Int) ≤ -1 := by omega
        rw [ex] at push ⊢
        simp only [stp, Nat.reduceAdd, Int.reduceLT, Int.reduceLE, Int.reduceEq, Int.reduceNe, ne_eq, bne_self_eq_false, beq_self_eq_true, stm, hO0, h1, h2]
        simp only [stp, Nat.reduceAdd, Int.reduceLT, Int.reduceLE, Int.reduceEq, Int.reduceNe, ne_eq, bne_self_eq_false, beq_self_eq_true, stm, x0, x1]
        rw [hO0] at push
        exact push (w6 := w5.drew) (Keep.refl _ w5).drew (by rw [hnil]; rfl)
      · have hO0 : O.length = o'.length + 1 := by rw [hcons]; simp
        have h1 : IntKind.i64.wrap ((O.length : Int) - 1) = ((O.length - 1 : Nat) : Int) := wrap_pred (by omega) (by omega)
        have h2 : (0 : Int) ≤ ((O.length - 1 : Nat) : Int) := by omega
        have h3 : O.length - 1 = o'.length := by omega
        have o5' := o5
        rw [hcons] at o5'
        obtain ⟨g, cap, eg, hg1, hg2, hg3, t0, t1⟩ := own_last o5'
        rw [← hcons] at eg
        rw [eg] at push ⊢
        have hlt2 : O.length - 1 < O.length := by omega
        have t1' : cel w5 g ((O.length - 1) * 2 + 1) = some (.int .i64 t.2) := by rw [h3]; exact t1
        simp only [stp, Nat.reduceAdd, Int.reduceLT, Int.reduceLE, Int.reduceEq, Int.reduceNe, ne_eq, bne_self_eq_false, beq_self_eq_true, stm, h1, h2, x0, x1]
        rw [ix_94 hlt2]
        simp only [stp, Nat.reduceAdd, Int.reduceLT, Int.reduceLE, Int.reduceEq, Int.reduceNe, ne_eq, bne_self_eq_false, beq_self_eq_true, stm, t1']
        by_cases hin : l3[i].1 ≤ t.2
        · simp only [stp, Nat.reduceAdd, Int.reduceLT, Int.reduceLE, Int.reduceEq, Int.reduceNe, ne_eq, bne_self_eq_false, beq_self_eq_true, stm, hin]
          rw [ix_94 hlt2]
          simp only [stp, Nat.reduceAdd, Int.reduceLT, Int.reduceLE, Int.reduceEq, Int.reduceNe, ne_eq, bne_self_eq_false, beq_self_eq_true, stm, t1', x1]
          rw [ix_94 hlt2]
          simp only [stp, Nat.reduceAdd, Int.reduceLT, Int.reduceLE, Int.reduceEq, Int.reduceNe, ne_eq, bne_self_eq_false, beq_self_eq_true, stm, t1', hg3]
          refine hJ' _ _ ⟨?_, ?_⟩
          · exact k35.drew.drew.sto (.inr hg1) _ _
          · have o6 : Own w5.drew.drew (siz w3) 27 2 x O.length (flat encS O) := o5.keep (Keep.refl (fun _ => False) w5).drew.drew fun _ _ => id
            rw [eg] at o6
            have o7 := o6.setZ (j := (O.length - 1) * 2 + 1) (x := .int .i64 (max t.2 l3[i].2)) (by omega)
            rw [flat_set (enc := encS) encS_len (s := t) (s' := (t.1, max t.2 l3[i].2)) (by rw [h3, hcons]; simp) (by omega) rfl] at o7
            have e8 : O.set (O.length - 1) (t.1, max t.2 l3[i].2) = mstep O l3[i] := by
              rw [h3]
              conv => rhs; rw [hcons, mstep_in hin]
              rw [hcons]; simp
            rw [e8] at o7
            have e9 : (mstep O l3[i]).length = O.length := by rw [← e8, List.length_set]
            rw [e9]; exact o7
        · simp only [stp, Nat.reduceAdd, Int.reduceLT, Int.reduceLE, Int.reduceEq, Int.reduceNe, ne_eq, bne_self_eq_false, beq_self_eq_true, stm, hin, x0, x1]
          exact push (w6 := w5.drew) (Keep.refl _ w5).drew (by rw [hcons, mstep_out hin]; simp)
    · rintro x w6 ⟨k6, o6⟩ _
      simp only [stp, Nat.reduceAdd, Int.reduceLT, Int.reduceLE, Int.reduceEq, Int.reduceNe, ne_eq, bne_self_eq_false, beq_self_eq_true, hwi]
      exact hJ (l3.length - (i + 1)) _ _ _ (by omega) ⟨k6, i + 1, mstep O l3[i], rfl, by omega, rfl, hO1.symm, o6⟩
  · have hlt' : ¬ ((i : Int) < (l3.length : Int)) := by omega
    simp only [stp, Nat.reduceAdd, Int.reduceLT, Int.reduceLE, Int.reduceEq, Int.reduceNe, ne_eq, bne_self_eq_false, beq_self_eq_true, hlt']
    have hi' : i = l3.length := by omega
    rw [hi', List.take_length] at hO
    have hm := merged_spec l3 [] Nrm.nil hok3 s3 (by simp)
    rw [← hO] at hm
    refine hq _ _ O ⟨hm.1, fun y => ?_⟩ ?_ (o4.le kk3.size) (kk3.trans k4)
    · rw [hm.2 y, memB_perm p3, hl2, memB_filter]; simp [memB]
    · rw [← hl2, ← hlen3]; omega
end
end Go.Proofs.YtcekmdpiloegcaaGreat
