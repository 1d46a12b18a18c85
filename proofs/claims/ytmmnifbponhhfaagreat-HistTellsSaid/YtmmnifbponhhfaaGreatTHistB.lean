/- Histories in memory: events searched and thinned; who is the greatest; commits played alone. Conditions: as each says. -/
import Derived.Test.YtmmnifbponhhfaaGreatTHistA
set_option linter.unusedSimpArgs false
set_option linter.unusedVariables false
namespace Go.Proofs.YtmmnifbponhhfaaGreatT
open Go.Sh Go.Sh.Hi
set_option maxRecDepth 100000
section
theorem ev_at {b o : Nat} {w : World} {l : List Ev} (hc : ∀ j, j < l.length * 6 → cel w b (o + j) = (flat encE l)[j]?) {i : Nat} {p : Ev} (h : l[i]? = some p) :
    cel w b (o + i * 6) = some (.int .i64 p.kind) ∧ cel w b (o + i * 6 + 1) = some (.int .i64 p.node) ∧ cel w b (o + i * 6 + 2) = some (.int .u64 p.epoch) ∧ cel w b (o + i * 6 + 3) = some (.int .u64 p.lsn) ∧ cel w b (o + i * 6 + 4) = some (p.rv) ∧ cel w b (o + i * 6 + 5) = some (p.wv) := by
  have hi := (List.getElem?_eq_some_iff.1 h).1
  have hb : (i + 1) * 6 ≤ l.length * 6 := Nat.mul_le_mul_right _ hi
  have g : ∀ j, j < 6 → cel w b (o + i * 6 + j) = (encE p)[j]? := fun j hj => by
    rw [Nat.add_assoc, hc _ (by omega)]
    exact flat_get (enc := encE) encE_len h (by omega)
  exact ⟨g 0 (by omega), g 1 (by omega), g 2 (by omega), g 3 (by omega), g 4 (by omega), g 5 (by omega)⟩
theorem ev_index {f v : Value} {l : List Ev} {P : Ev → Prop} [DecidablePred P] {F : Nat → Prop} {w : World} {Q : Value → World → Prop} (h : Rd 6 w v l.length (flat encE l)) (hl : l.length ≤ 1000000)
    (hp : ∀ w1 s (Q : Value → World → Prop), K0 w w1 → s ∈ l → (∀ w2, K0 w1 w2 → Q (.bool (decide (P s))) w2) → callF Tryz.prog f #[.agg #[.int .i64 s.kind, .int .i64 s.node, .int .u64 s.epoch, .int .u64 s.lsn, s.rv, s.wv]] Q w1)
    (hq1 : ∀ w', K0 w w' → (∀ s ∈ l, ¬ P s) → Q (.int .i64 (-1)) w')
    (hq2 : ∀ w' (i : Nat) s, K0 w w' → l[i]? = some s → P s → (∀ s ∈ l.take i, ¬ P s) → Q (.int .i64 (i : Int)) w') :
    callS Tryz.prog 101 #[v, f] Q w := by
  refine ref101 ?_
  unfold S101
  obtain ⟨a, c, rfl⟩ := h.form
  simp only [stp, Nat.reduceAdd, Int.reduceLT, Int.reduceLE, Int.reduceEq, Int.reduceNe, ne_eq, bne_self_eq_false, beq_self_eq_true]
  refine lp1 (fun m x w' => K0 w w' ∧ ∃ i : Nat, x = .int .i64 (i : Int) ∧ i ≤ l.length ∧ m = l.length - i ∧ ∀ s ∈ l.take i, ¬ P s) l.length ⟨Keep.refl _ _, 0, rfl, Nat.zero_le _, by omega, by simp⟩ ?_
  rintro m x w' ⟨k, i, rfl, hi, rfl, hok⟩ J hJ _
  by_cases hlt : i < l.length
  · have hlt' : ((i : Int) < (l.length : Int)) := by omega
    obtain ⟨b, o, c', e, hc', hcel⟩ := (h.keep0 k).at (by omega)
    injection e with e1 _ e2
    subst e1 e2
    have hs : l[i]? = some l[i] := List.getElem?_eq_getElem hlt
    obtain ⟨c0, c1, c2, c3, c4, c5⟩ := ev_at hcel hs
    simp only [stp, Nat.reduceAdd, Int.reduceLT, Int.reduceLE, Int.reduceEq, Int.reduceNe, ne_eq, bne_self_eq_false, beq_self_eq_true, hlt']
    rw [ix_22 hlt]
    simp only [stp, Nat.reduceAdd, Int.reduceLT, Int.reduceLE, Int.reduceEq, Int.reduceNe, ne_eq, bne_self_eq_false, beq_self_eq_true, stm, c0, c1, c2, c3, c4, c5]
    refine hp _ _ _ k (List.getElem_mem hlt) fun w2 g2 => ?_
    have hw := wrap_succ (i := i) (by omega)
    by_cases h0 : P l[i]
    · simp only [stp, Nat.reduceAdd, Int.reduceLT, Int.reduceLE, Int.reduceEq, Int.reduceNe, ne_eq, bne_self_eq_false, beq_self_eq_true, h0, hw]
      exact hq2 _ i _ (k.trans g2) hs h0 hok
    · simp only [stp, Nat.reduceAdd, Int.reduceLT, Int.reduceLE, Int.reduceEq, Int.reduceNe, ne_eq, bne_self_eq_false, beq_self_eq_true, h0, hw]
      refine hJ (l.length - (i + 1)) _ _ (by omega) ⟨k.trans g2, i + 1, rfl, by omega, rfl, fun s hm => ?_⟩
      rw [List.take_add_one, hs] at hm
      rcases List.mem_append.1 hm with hm | hm
      · exact hok s hm
      · simp at hm; subst hm; exact h0
  · have hlt' : ¬ ((i : Int) < (l.length : Int)) := by omega
    simp only [stp, Nat.reduceAdd, Int.reduceLT, Int.reduceLE, Int.reduceEq, Int.reduceNe, ne_eq, bne_self_eq_false, beq_self_eq_true, hlt']
    refine hq1 _ k fun s hs => hok s ?_
    rw [List.take_of_length_le (by omega)]; exact hs
theorem ev_delete {base : Nat} {f v : Value} {l : List Ev} {P : Ev → Prop} [DecidablePred P] {w : World} {Q : Value → World → Prop} (hown : Own w base 66 6 v l.length (flat encE l)) (hl : l.length ≤ 1000000) (h1 : ∀ s ∈ l, Go.Sh.one s.rv = true ∧ Go.Sh.one s.wv = true)
    (hp : ∀ w1 s (Q : Value → World → Prop), Keep (fun b => v.ownBlock = some b) w w1 → s ∈ l → (∀ w2, K0 w1 w2 → Q (.bool (decide (P s))) w2) → callF Tryz.prog f #[.agg #[.int .i64 s.kind, .int .i64 s.node, .int .u64 s.epoch, .int .u64 s.lsn, s.rv, s.wv]] Q w1)
    (hq : ∀ w' v' (l' : List Ev), l' = l.filter (fun s => decide (¬ P s)) → Own w' base 66 6 v' l'.length (flat encE l') → Keep (fun b => v.ownBlock = some b) w w' → (∀ g, v'.ownBlock = some g → v.ownBlock = some g) → Q v' w') :
    callS Tryz.prog 27 #[v, f] Q w := by
  refine ref27 ?_
  unfold S27
  refine ev_index (P := P) (F := fun _ => False) hown.rd hl (fun w1 s Q k hs hq => hp w1 s Q k.none hs hq) (fun w1 k1 hok => ?_) (fun w1 i0 s0 k1 hs0 hns hok => ?_)
  · simp only [stp, Nat.reduceAdd, Int.reduceLT, Int.reduceLE, Int.reduceEq, Int.reduceNe, ne_eq, bne_self_eq_false, beq_self_eq_true]
    refine hq w1 v l (by rw [List.filter_eq_self.2]; intro s hs; exact decide_eq_true (hok s hs)) (hown.keep k1 fun _ _ => id) k1.none fun _ => id
  · have hi0 := (List.getElem?_eq_some_iff.1 hs0).1
    obtain ⟨g, cap, rfl, hbg, hgs, hcap, hcm, hgf, _⟩ := hown.at (by omega)
    have hne : ¬ ((i0 : Int) = -1) := by omega
    have hw0 := wrap_succ (i := i0) (by omega)
    simp only [stp, Nat.reduceAdd, Int.reduceLT, Int.reduceLE, Int.reduceEq, Int.reduceNe, ne_eq, bne_self_eq_false, beq_self_eq_true, hne, hw0]
    have o1 := hown.keep k1 fun _ _ => id
    have hown1 : (Value.slice (some ⟨g, 0, none⟩) l.length cap).ownBlock = some g := rfl
    have f0 : (l.take (i0 + 1)).filter (fun s => decide (¬ P s)) = l.take i0 := by
      rw [List.take_add_one, hs0, List.filter_append, List.filter_eq_self.2 (fun s hs => decide_eq_true (hok s hs))]
      simp [hns]
    refine lp2 (fun m x y w' => Keep (fun b => b = g) w w' ∧ ∃ (i j : Nat) (cur : List Ev), x = .int .i64 (i : Int) ∧ y = .int .i64 (j : Int) ∧ i < j ∧ j ≤ l.length ∧ m = l.length - j ∧ cur.length = l.length ∧
      Own w' base 66 6 (.slice (some ⟨g, 0, none⟩) l.length cap) l.length (flat encE cur) ∧ cur.take i = (l.take j).filter (fun s => decide (¬ P s)) ∧ cur.drop j = l.drop j) (l.length - (i0 + 1))
      ⟨k1.none, i0, i0 + 1, l, rfl, rfl, by omega, by omega, rfl, rfl, o1, f0.symm, rfl⟩ ?_
    rintro m x y w2 ⟨k2, i, j, cur, rfl, rfl, hij, hjl, rfl, hcl, o2, ht, hd⟩ J hJ _
    have s2 := k2.size
    simp only [stp, Nat.reduceAdd, Int.reduceLT, Int.reduceLE, Int.reduceEq, Int.reduceNe, ne_eq, bne_self_eq_false, beq_self_eq_true]
    by_cases hlt : j < l.length
    · have hlt' : ((j : Int) < (l.length : Int)) := by omega
      obtain ⟨g', cap', e, _, _, _, _, gf2, hcel⟩ := o2.at (by omega)
      injection e with e1 _ e2
      injection e1 with e1
      injection e1 with e1 _ _
      subst e1 e2
      have hsj : cur[j]? = some l[j] := by
        have := congrArg (fun r => r[0]?) hd
        simp only [List.getElem?_drop, Nat.add_zero] at this
        rw [this]; exact List.getElem?_eq_getElem hlt
      have hlj : l[j]? = some l[j] := List.getElem?_eq_getElem hlt
      obtain ⟨c0, c1, c2, c3, c4, c5⟩ := ev_at (b := g) (o := 0) (l := cur) (by rw [hcl]; intro j' hj'; rw [Nat.zero_add]; exact hcel j' hj') hsj
      rw [Nat.zero_add] at c0 c1 c2 c3 c4 c5
      have hd1 : cur.drop (j + 1) = l.drop (j + 1) := by
        have := congrArg (List.drop 1) hd
        simpa [List.drop_drop, Nat.add_comm] using this
      have ht1 : (l.take (j + 1)).filter (fun s => decide (¬ P s)) = (l.take j).filter (fun s => decide (¬ P s)) ++ (if P l[j] then [] else [l[j]]) := by
        rw [List.take_add_one, hlj, List.filter_append]
        by_cases h : P l[j] <;> simp [h]
      simp only [stp, Nat.reduceAdd, Int.reduceLT, Int.reduceLE, Int.reduceEq, Int.reduceNe, ne_eq, bne_self_eq_false, beq_self_eq_true, hlt']
      have hwj := wrap_succ (i := j) (by omega)
      have hwi := wrap_succ (i := i) (by omega)
      refine jn1 (fun x w' => Keep (fun b => b = g) w w' ∧ ∃ (i : Nat) (cur : List Ev), x = .int .i64 (i : Int) ∧ i < j + 1 ∧ cur.length = l.length ∧
        Own w' base 66 6 (.slice (some ⟨g, 0, none⟩) l.length cap) l.length (flat encE cur) ∧ cur.take i = (l.take (j + 1)).filter (fun s => decide (¬ P s)) ∧ cur.drop (j + 1) = l.drop (j + 1)) (fun J' hJ' => ?_) ?_
      · rw [ix_22 hlt]
        simp only [stp, Nat.reduceAdd, Int.reduceLT, Int.reduceLE, Int.reduceEq, Int.reduceNe, ne_eq, bne_self_eq_false, beq_self_eq_true, stm, c0, c1, c2, c3, c4, c5, (h1 _ (List.getElem_mem hlt)).1, (h1 _ (List.getElem_mem hlt)).2]
        have k3 := (Keep.refl (fun _ => False) w2).alloc (.cells #[.int .i64 l[j].kind, .int .i64 l[j].node, .int .u64 l[j].epoch, .int .u64 l[j].lsn, l[j].rv, l[j].wv] 66)
        have o3 := o2.keep k3 fun _ _ => id
        have x0 : cel (w2.alloc (.cells #[.int .i64 l[j].kind, .int .i64 l[j].node, .int .u64 l[j].epoch, .int .u64 l[j].lsn, l[j].rv, l[j].wv] 66)) (siz w2) 0 = some (.int .i64 l[j].kind) := cel_alloc_new
        have x1 : cel (w2.alloc (.cells #[.int .i64 l[j].kind, .int .i64 l[j].node, .int .u64 l[j].epoch, .int .u64 l[j].lsn, l[j].rv, l[j].wv] 66)) (siz w2) 1 = some (.int .i64 l[j].node) := cel_alloc_new
        have x2 : cel (w2.alloc (.cells #[.int .i64 l[j].kind, .int .i64 l[j].node, .int .u64 l[j].epoch, .int .u64 l[j].lsn, l[j].rv, l[j].wv] 66)) (siz w2) 2 = some (.int .u64 l[j].epoch) := cel_alloc_new
        have x3 : cel (w2.alloc (.cells #[.int .i64 l[j].kind, .int .i64 l[j].node, .int .u64 l[j].epoch, .int .u64 l[j].lsn, l[j].rv, l[j].wv] 66)) (siz w2) 3 = some (.int .u64 l[j].lsn) := cel_alloc_new
        have x4 : cel (w2.alloc (.cells #[.int .i64 l[j].kind, .int .i64 l[j].node, .int .u64 l[j].epoch, .int .u64 l[j].lsn, l[j].rv, l[j].wv] 66)) (siz w2) 4 = some (l[j].rv) := cel_alloc_new
        have x5 : cel (w2.alloc (.cells #[.int .i64 l[j].kind, .int .i64 l[j].node, .int .u64 l[j].epoch, .int .u64 l[j].lsn, l[j].rv, l[j].wv] 66)) (siz w2) 5 = some (l[j].wv) := cel_alloc_new
        generalize w2.alloc (.cells #[.int .i64 l[j].kind, .int .i64 l[j].node, .int .u64 l[j].epoch, .int .u64 l[j].lsn, l[j].rv, l[j].wv] 66) = w3 at k3 o3 x0 x1 x2 x3 x4 x5
        refine hp _ _ _ ((k2.trans k3.none).mono fun b _ e => by subst e; rfl) (List.getElem_mem hlt) fun w4 k43 => ?_
        have k4 := k2.trans ((k3.trans k43).none)
        have o4 := o3.keep k43 fun _ _ => id
        have y0 := k43.cel x0 (by exact fun h => h)
        have y1 := k43.cel x1 (by exact fun h => h)
        have y2 := k43.cel x2 (by exact fun h => h)
        have y3 := k43.cel x3 (by exact fun h => h)
        have y4 := k43.cel x4 (by exact fun h => h)
        have y5 := k43.cel x5 (by exact fun h => h)
        by_cases h0 : P l[j]
        · simp only [stp, Nat.reduceAdd, Int.reduceLT, Int.reduceLE, Int.reduceEq, Int.reduceNe, ne_eq, bne_self_eq_false, beq_self_eq_true, h0]
          refine hJ' _ _ ⟨k4, i, cur, rfl, by omega, hcl, o4, ?_, hd1⟩
          rw [ht1, if_pos h0, List.append_nil, ht]
        · simp only [stp, Nat.reduceAdd, Int.reduceLT, Int.reduceLE, Int.reduceEq, Int.reduceNe, ne_eq, bne_self_eq_false, beq_self_eq_true, stm, h0, y0, y1, y2, y3, y4, y5]
          rw [ix_22 (show i < l.length by omega)]
          obtain ⟨g', cap', e, _, _, _, _, gf4, hcel4⟩ := o4.at (by omega)
          injection e with e1 _ e2
          injection e1 with e1
          injection e1 with e1 _ _
          subst e1 e2
          have z' : ∀ k, k < 6 → (cel w4 g (i * 6 + k)).isSome = true := fun k hk => by
            rw [hcel4 _ (by omega), List.getElem?_eq_getElem (by rw [flat_len encE_len, hcl]; omega)]; rfl
          have z : ∀ k, k < 6 → (cel w4 g (0 + i * 6 + k)).isSome = true := fun k hk => by rw [Nat.zero_add]; exact z' k hk
          rw [st_66 one_int one_int one_int one_int (h1 _ (List.getElem_mem hlt)).1 (h1 _ (List.getElem_mem hlt)).2 (show (cel w4 g (0 + i * 6)).isSome = true from z 0 (by omega)) (z 1 (by omega)) (z 2 (by omega)) (z 3 (by omega)) (z 4 (by omega)) (z 5 (by omega)) gf4]
          simp only [stp, Nat.reduceAdd, Int.reduceLT, Int.reduceLE, Int.reduceEq, Int.reduceNe, ne_eq, bne_self_eq_false, beq_self_eq_true, hwi]
          have o5 := Own.setL [.int .i64 l[j].kind, .int .i64 l[j].node, .int .u64 l[j].epoch, .int .u64 l[j].lsn, l[j].rv, l[j].wv] o4 (j := i * 6) (by simp; omega)
          have e5 : (flat encE cur).take (i * 6) ++ ([.int .i64 l[j].kind, .int .i64 l[j].node, .int .u64 l[j].epoch, .int .u64 l[j].lsn, l[j].rv, l[j].wv] ++ (flat encE cur).drop (i * 6 + List.length (α := Value) [.int .i64 l[j].kind, .int .i64 l[j].node, .int .u64 l[j].epoch, .int .u64 l[j].lsn, l[j].rv, l[j].wv])) = flat encE (cur.set i l[j]) := by
            rw [List.set_eq_take_append_cons_drop, if_pos (by omega), flat_append, flat_cons, ← flat_take encE_len, ← flat_drop encE_len]
            simp only [List.length_cons, List.length_nil, Nat.add_mul]
            try rfl
          rw [e5] at o5
          try rw [Nat.zero_add]
          refine hJ' _ _ ⟨Keep.stoL _ _ k4 (.inl rfl), i + 1, cur.set i l[j], rfl, by omega, by rw [List.length_set]; exact hcl, ?_, ?_, ?_⟩
          · exact o5
          · rw [ht1, if_neg h0, ← ht, List.take_add_one, List.getElem?_set_self (by omega)]
            rw [List.take_set_of_le (by omega)]; rfl
          · rw [List.drop_set_of_lt (by omega), hd1]
      · rintro x w5 ⟨k5, i', cur', rfl, hi', hcl', o5, ht5, hd5⟩ _
        simp only [stp, Nat.reduceAdd, Int.reduceLT, Int.reduceLE, Int.reduceEq, Int.reduceNe, ne_eq, bne_self_eq_false, beq_self_eq_true, hwj]
        exact hJ (l.length - (j + 1)) _ _ _ (by omega) ⟨k5, i', j + 1, cur', rfl, rfl, hi', by omega, rfl, hcl', o5, ht5, hd5⟩
    · have hlt' : ¬ ((j : Int) < (l.length : Int)) := by omega
      have hj : j = l.length := by omega
      subst hj
      rw [List.take_length] at ht
      have hli : i = (l.filter (fun s => decide (¬ P s))).length := by
        rw [← ht, List.length_take]; omega
      have hkk : Keep (fun b => (Value.slice (some ⟨g, 0, none⟩) l.length cap).ownBlock = some b) w w2 := k2.mono fun b _ e => by subst e; rfl
      simp only [stp, Nat.reduceAdd, Int.reduceLT, Int.reduceLE, Int.reduceEq, Int.reduceNe, ne_eq, bne_self_eq_false, beq_self_eq_true, hlt']
      obtain ⟨g', cap', e, _, _, _, _, gf2, hcel⟩ := o2.at (by omega)
      injection e with e1 _ e2
      injection e1 with e1
      injection e1 with e1 _ _
      subst e1 e2
      have hne' : ¬ cap = i := by omega
      rw [slf_22 (show i ≤ l.length by omega) hcap, if_neg hne']
      have hzc : (Builtin.zeroCells (Value.agg #[.int .i64 0, .int .i64 0, .int .u64 0, .int .u64 0, .slice none 0 0, .slice none 0 0]).cells (l.length - i)).size = (l.length - i) * 6 := by simp [Builtin.zeroCells, Value.cells]
      rw [act_clearN (z := .agg #[.int .i64 0, .int .i64 0, .int .u64 0, .int .u64 0, .slice none 0 0, .slice none 0 0]) (fun w => Tryz.runUnderlying22 w) (fun w => Tryz.zeroValue66 w) (fun u hu => ?_) (fun j hj => ?_) gf2, slt_22 (show i ≤ cap by omega)]
      · have o3 := o2.cutL (m := i) (by omega) (Builtin.zeroCells (Value.agg #[.int .i64 0, .int .i64 0, .int .u64 0, .int .u64 0, .slice none 0 0, .slice none 0 0]).cells (l.length - i)).toList (by rw [Array.length_toList, hzc])
        rw [flat_take encE_len, ht] at o3
        try rw [Nat.zero_add]
        refine hq _ _ _ rfl ?_ (Keep.stoL _ _ hkk (.inl rfl)) fun _ => id
        rw [← hli]; exact o3
      · simp only [Builtin.zeroCells, Array.toList_map, List.mem_map] at hu
        obtain ⟨t, _, rfl⟩ := hu
        simp only [Value.cells, List.size_toArray, List.length_cons, List.length_nil, Nat.zero_add, Nat.reduceAdd]
        have hm : t % 6 < 6 := Nat.mod_lt _ (by omega)
        generalize t % 6 = r at hm
        have hr : r = 0 ∨ r = 1 ∨ r = 2 ∨ r = 3 ∨ r = 4 ∨ r = 5 := by omega
        clear hm
        rcases hr with rfl | rfl | rfl | rfl | rfl | rfl <;> first | exact one_int | exact one_str | exact one_bool | exact one_slice
      · simp only [Value.cells, List.size_toArray, List.length_cons, List.length_nil, Nat.zero_add, Nat.reduceAdd] at hj
        have hi2 : i * 6 + j < l.length * 6 := by
          have : l.length - i + i = l.length := by omega
          have := Nat.add_mul (l.length - i) i 6
          omega
        rw [Nat.zero_add, hcel _ hi2, List.getElem?_eq_getElem (by rw [flat_len encE_len, hcl]; omega)]; rfl
end
section
variable {w w' : World} {Q : Value → World → Prop} {e : Ev} {A : Ar} {m B : Nat} {v : Value} {l : List Ev}
abbrev agE (e : Ev) : Value := .agg #[.int .i64 e.kind, .int .i64 e.node, .int .u64 e.epoch, .int .u64 e.lsn, e.rv, e.wv]
theorem wrap_u {n : Int} (h : 0 ≤ n) (h' : n ≤ 18446744073709551615) : IntKind.u64.wrap n = n := by
  simp only [IntKind.wrap, IntKind.signed, IntKind.bits]
  simp
  omega
/-- The closure that thins what stays. -/
theorem thin_c {x g : Ev} {cut : Int} {a b : Nat} (hx : Go.Sh.one x.rv = true ∧ Go.Sh.one x.wv = true) (h1 : Sh.cel w a 1 = some (.int .i64 g.node)) (h2 : Sh.cel w a 2 = some (.int .u64 g.epoch)) (h3 : Sh.cel w b 0 = some (.int .u64 cut))
    (hq : ∀ w', K0 w w' → Q (.bool (decide (keepB g cut x = false))) w') : callS Tryz.prog 28 #[agE x, .pointer (some ⟨a, 0, none⟩), .pointer (some ⟨b, 0, none⟩)] Q w := by
  refine ref28 ?_
  unfold S28
  rw [act_box]
  have k3 := (K0.refl w).alloc (.cells (agE x).cells tEv)
  have x1 : Sh.cel (w.alloc (.cells (agE x).cells tEv)) (siz w) 1 = some (.int .i64 x.node) := cel_alloc_new
  have x2 : Sh.cel (w.alloc (.cells (agE x).cells tEv)) (siz w) 2 = some (.int .u64 x.epoch) := cel_alloc_new
  have x3 : Sh.cel (w.alloc (.cells (agE x).cells tEv)) (siz w) 3 = some (.int .u64 x.lsn) := cel_alloc_new
  generalize w.alloc (.cells (agE x).cells tEv) = w3 at k3 x1 x2 x3
  generalize siz w = bx at x1 x2 x3
  have y1 := k3.cel h1 id
  have y2 := k3.cel h2 id
  have y3 := k3.cel h3 id
  have hk := hq w3 k3
  unfold keepB same at hk
  by_cases e1 : x.node = g.node
  · by_cases e2 : x.epoch = g.epoch
    · by_cases e3 : cut < x.lsn
      · simp only [stp, Nat.reduceAdd, Int.reduceLT, Int.reduceLE, Int.reduceEq, Int.reduceNe, ne_eq, bne_self_eq_false, beq_self_eq_true, stm, x1, x2, x3, y1, y2, y3, e1, e2, e3, Option.isSome_some, Option.getD_some]
        simpa [e1, e2, e3] using hk
      · simp only [stp, Nat.reduceAdd, Int.reduceLT, Int.reduceLE, Int.reduceEq, Int.reduceNe, ne_eq, bne_self_eq_false, beq_self_eq_true, stm, x1, x2, x3, y1, y2, y3, e1, e2, e3, Option.isSome_some, Option.getD_some]
        simpa [e1, e2, e3] using hk
    · simp only [stp, Nat.reduceAdd, Int.reduceLT, Int.reduceLE, Int.reduceEq, Int.reduceNe, ne_eq, bne_self_eq_false, beq_self_eq_true, stm, x1, x2, x3, y1, y2, y3, e1, e2, Option.isSome_some, Option.getD_some]
      simpa [e1, e2] using hk
  · simp only [stp, Nat.reduceAdd, Int.reduceLT, Int.reduceLE, Int.reduceEq, Int.reduceNe, ne_eq, bne_self_eq_false, beq_self_eq_true, stm, x1, x2, x3, y1, y2, y3, e1, Option.isSome_some, Option.getD_some]
    simpa [e1] using hk
/-- A commit's number, or the greatest one ahead of it. -/
theorem great_c (he : EvR w e) (hr : Rd 6 w v l.length (flat encE l)) (hl : l.length ≤ 100000) (ho : ∀ x ∈ l, EvR w x) (hq : ∀ w', K0 w w' → Q (agE (greatF e l)) w') :
    callS Tryz.prog 26 #[agE e, v] Q w := by
  refine ref26 ?_
  unfold S26
  obtain ⟨pa, ca, rfl⟩ := hr.form
  have o1 := he.ones
  rw [act_box]
  have k1 := (K0.refl w).alloc (.cells (agE e).cells tEv)
  have b1 : Sh.blk (w.alloc (.cells (agE e).cells tEv)) (siz w) = some (.cells #[.int .i64 e.kind, .int .i64 e.node, .int .u64 e.epoch, .int .u64 e.lsn, e.rv, e.wv] tEv) := blk_alloc_new
  have s1 : siz (w.alloc (.cells (agE e).cells tEv)) = siz w + 1 := siz_alloc
  generalize w.alloc (.cells (agE e).cells tEv) = w1 at k1 b1 s1
  generalize hbx : siz w = bx at b1 s1
  simp only [stp, Nat.reduceAdd, Int.reduceLT, Int.reduceLE, Int.reduceEq, Int.reduceNe, ne_eq, bne_self_eq_false, beq_self_eq_true, stm]
  have k2 := (K0.refl w1).alloc (.cells #[.int .i64 0, .int .i64 0, .int .u64 0, .int .u64 0, .slice none 0 0, .slice none 0 0] tEv)
  have b2 : Sh.blk (w1.alloc (.cells #[.int .i64 0, .int .i64 0, .int .u64 0, .int .u64 0, .slice none 0 0, .slice none 0 0] tEv)) (siz w1) = some (.cells #[.int .i64 0, .int .i64 0, .int .u64 0, .int .u64 0, .slice none 0 0, .slice none 0 0] tEv) := blk_alloc_new
  have c3 : Sh.cel (w1.alloc (.cells #[.int .i64 0, .int .i64 0, .int .u64 0, .int .u64 0, .slice none 0 0, .slice none 0 0] tEv)) bx 3 = some (.int .u64 e.lsn) := k2.cel (cel_b b1 3) id
  try simp only [c3, Option.isSome_some, Option.getD_some, stp, Nat.reduceAdd, Int.reduceLT, Int.reduceLE, Int.reduceEq, Int.reduceNe, ne_eq, bne_self_eq_false, beq_self_eq_true, stm]
  have b12 := k2.blk b1 id
  have k2 := k1.trans k2
  generalize w1.alloc (.cells #[.int .i64 0, .int .i64 0, .int .u64 0, .int .u64 0, .slice none 0 0, .slice none 0 0] tEv) = w2 at k2 b2 b12 c3
  have hlt1 : bx < siz w1 := by omega
  generalize hby : siz w1 = by2 at b2 hlt1
  have fin : ∀ (u : World) (e' : Ev), K0 w u → Go.Sh.one e'.rv = true ∧ Go.Sh.one e'.wv = true → Sh.blk u bx = some (.cells #[.int .i64 e'.kind, .int .i64 e'.node, .int .u64 e'.epoch, .int .u64 e'.lsn, e'.rv, e'.wv] tEv) →
      Sh.blk u by2 = some (.cells #[.int .i64 0, .int .i64 0, .int .u64 0, .int .u64 0, .slice none 0 0, .slice none 0 0] tEv) → (∀ w', K0 w w' → Q (agE e') w') →
      rd Tryz.prog (Instr.loadAt tEv (.pointer (some ⟨bx, 0, none⟩))) (fun t10 => act Tryz.prog (thenU (Instr.storeAt tEv (.pointer (some ⟨by2, 0, none⟩)) t10)) (fun _ w_3 => rd Tryz.prog (Instr.loadAt tEv (.pointer (some ⟨by2, 0, none⟩))) (fun r => Q r w_3) w_3) u) u := fun u e' ku ho' hb1 hb2 hQ => by
    have q : ∀ o, Sh.cel u bx o = (#[.int .i64 e'.kind, .int .i64 e'.node, .int .u64 e'.epoch, .int .u64 e'.lsn, e'.rv, e'.wv] : Array Value)[o]? := fun o => cel_b hb1 o
    have z : ∀ o, Sh.cel u by2 o = (#[.int .i64 0, .int .i64 0, .int .u64 0, .int .u64 0, .slice none 0 0, .slice none 0 0] : Array Value)[o]? := fun o => cel_b hb2 o
    rw [ld_66 (by rw [q]; rfl) (by rw [q]; rfl) (by rw [q]; rfl) (by rw [q]; rfl) (by rw [q]; rfl) (by rw [q]; rfl)]
    simp only [Nat.zero_add, q, List.getElem?_toArray, List.getElem?_cons_zero, List.getElem?_cons_succ, Option.getD_some]
    rw [st_66 one_int one_int one_int one_int ho'.1 ho'.2 (by rw [z]; rfl) (by rw [z]; rfl) (by rw [z]; rfl) (by rw [z]; rfl) (by rw [z]; rfl) (by rw [z]; rfl) (fre_b hb2)]
    have b4 : Sh.blk (stoL u by2 0 (encE e')) by2 = some (.cells (encE e').toArray tEv) := blk_stoL_all (zs := [.int .i64 0, .int .i64 0, .int .u64 0, .int .u64 0, .slice none 0 0, .slice none 0 0]) (xs := encE e') rfl hb2
    have k4 : K0 w (stoL u by2 0 (encE e')) := ku.stoL _ 0 (.inr (by omega))
    have q4 : ∀ o, Sh.cel (stoL u by2 0 (encE e')) by2 o = (encE e')[o]? := fun o => by rw [cel_b b4 o]; simp
    generalize stoL u by2 0 _ = u4 at k4 q4
    rw [ld_66 (by rw [q4]; rfl) (by rw [q4]; rfl) (by rw [q4]; rfl) (by rw [q4]; rfl) (by rw [q4]; rfl) (by rw [q4]; rfl)]
    simp only [Nat.zero_add, q4, encE, List.getElem?_cons_zero, List.getElem?_cons_succ, Option.getD_some]
    exact hQ u4 k4
  by_cases hls : 0 < e.lsn
  · simp only [hls, stp, Nat.reduceAdd, Int.reduceLT, Int.reduceLE, Int.reduceEq, Int.reduceNe, ne_eq, bne_self_eq_false, beq_self_eq_true]
    refine fin w2 e k2 o1 b12 b2 fun w' k' => ?_
    have := hq w' k'
    rw [show greatF e l = e from if_pos hls] at this
    exact this
  · simp only [hls, stp, Nat.reduceAdd, Int.reduceLT, Int.reduceLE, Int.reduceEq, Int.reduceNe, ne_eq, bne_self_eq_false, beq_self_eq_true]
    refine lpc1 l.length (by omega) (fun i u => K0 w u ∧ Sh.blk u bx = some (.cells #[.int .i64 e.kind, .int .i64 e.node, .int .u64 e.epoch, .int .u64 (maxL (fun x => decide (x.kind = 1) && same x e) e.lsn (l.take i)), e.rv, e.wv] tEv) ∧
      Sh.blk u by2 = some (.cells #[.int .i64 0, .int .i64 0, .int .u64 0, .int .u64 0, .slice none 0 0, .slice none 0 0] tEv)) ⟨k2, b12, b2⟩ (fun i u hi ⟨ku, c1, c2⟩ J hJ => ?_) (fun u ⟨ku, c1, c2⟩ J => ?_)
    · intro _j
      have hi' : ((i : Int) < (l.length : Int)) := by omega
      obtain ⟨g, o, c, ee, _, hc⟩ := (hr.keep0 ku).at (by omega)
      injection ee with e1 _ e2
      subst e1 e2
      obtain ⟨p0, p1, p2, p3, p4, p5⟩ := ev_at hc (List.getElem?_eq_getElem hi)
      have ho1 := (ho _ (List.getElem_mem hi)).ones
      have ht : l.take (i + 1) = l.take i ++ [l[i]] := by rw [List.take_add_one, List.getElem?_eq_getElem hi]; rfl
      simp only [stp, Nat.reduceAdd, Int.reduceLT, Int.reduceLE, Int.reduceEq, Int.reduceNe, ne_eq, bne_self_eq_false, beq_self_eq_true, hi']
      refine jn0 (fun u' => K0 w u' ∧ Sh.blk u' bx = some (.cells #[.int .i64 e.kind, .int .i64 e.node, .int .u64 e.epoch, .int .u64 (maxL (fun x => decide (x.kind = 1) && same x e) e.lsn (l.take (i + 1))), e.rv, e.wv] tEv) ∧
        Sh.blk u' by2 = some (.cells #[.int .i64 0, .int .i64 0, .int .u64 0, .int .u64 0, .slice none 0 0, .slice none 0 0] tEv)) (fun J1 hJ1 => ?_) ?_
      · rw [ix_22 hi]
        simp only [stp, Nat.reduceAdd, Int.reduceLT, Int.reduceLE, Int.reduceEq, Int.reduceNe, ne_eq, bne_self_eq_false, beq_self_eq_true, stm, p0, p1, p2, p3, p4, p5, ho1.1, ho1.2, Option.isSome_some, Option.getD_some]
        have k3 := (K0.refl u).alloc (.cells #[.int .i64 l[i].kind, .int .i64 l[i].node, .int .u64 l[i].epoch, .int .u64 l[i].lsn, l[i].rv, l[i].wv] tEv)
        have x0 : Sh.cel (u.alloc (.cells #[.int .i64 l[i].kind, .int .i64 l[i].node, .int .u64 l[i].epoch, .int .u64 l[i].lsn, l[i].rv, l[i].wv] tEv)) (siz u) 0 = some (.int .i64 l[i].kind) := cel_alloc_new
        have x1 : Sh.cel (u.alloc (.cells #[.int .i64 l[i].kind, .int .i64 l[i].node, .int .u64 l[i].epoch, .int .u64 l[i].lsn, l[i].rv, l[i].wv] tEv)) (siz u) 1 = some (.int .i64 l[i].node) := cel_alloc_new
        have x2 : Sh.cel (u.alloc (.cells #[.int .i64 l[i].kind, .int .i64 l[i].node, .int .u64 l[i].epoch, .int .u64 l[i].lsn, l[i].rv, l[i].wv] tEv)) (siz u) 2 = some (.int .u64 l[i].epoch) := cel_alloc_new
        have x3 : Sh.cel (u.alloc (.cells #[.int .i64 l[i].kind, .int .i64 l[i].node, .int .u64 l[i].epoch, .int .u64 l[i].lsn, l[i].rv, l[i].wv] tEv)) (siz u) 3 = some (.int .u64 l[i].lsn) := cel_alloc_new
        have d1 := k3.blk c1 id
        have d2 := k3.blk c2 id
        generalize u.alloc (.cells #[.int .i64 l[i].kind, .int .i64 l[i].node, .int .u64 l[i].epoch, .int .u64 l[i].lsn, l[i].rv, l[i].wv] tEv) = u3 at k3 x0 x1 x2 x3 d1 d2
        generalize siz u = bz at x0 x1 x2 x3
        have y1 : Sh.cel u3 bx 1 = some (.int .i64 e.node) := cel_b d1 1
        have y2 : Sh.cel u3 bx 2 = some (.int .u64 e.epoch) := cel_b d1 2
        have y3 : Sh.cel u3 bx 3 = some (.int .u64 (maxL (fun x => decide (x.kind = 1) && same x e) e.lsn (l.take i))) := cel_b d1 3
        have f1 := fre_b d1
        rw [ht, maxL_snoc] at hJ1
        by_cases e1 : l[i].kind = 1
        · by_cases e2 : l[i].node = e.node
          · by_cases e3 : l[i].epoch = e.epoch
            · simp only [stp, Nat.reduceAdd, Int.reduceLT, Int.reduceLE, Int.reduceEq, Int.reduceNe, ne_eq, bne_self_eq_false, beq_self_eq_true, stm, x0, x1, x2, x3, y1, y2, y3, e1, e2, e3, f1, Option.isSome_some, Option.getD_some]
              refine hJ1 _ ⟨(ku.trans k3).sto (.inr (by omega)) _ _, ?_, ?_⟩
              · rw [blk_sto d1]; simp [e1, same, e2, e3]
              · rw [blk_sto_ne (by omega)]; exact d2
            · simp only [stp, Nat.reduceAdd, Int.reduceLT, Int.reduceLE, Int.reduceEq, Int.reduceNe, ne_eq, bne_self_eq_false, beq_self_eq_true, stm, x0, x1, x2, x3, y1, y2, y3, e1, e2, e3, Option.isSome_some, Option.getD_some]
              refine hJ1 _ ⟨ku.trans k3, ?_, d2⟩
              simpa [e1, same, e2, e3] using d1
          · simp only [stp, Nat.reduceAdd, Int.reduceLT, Int.reduceLE, Int.reduceEq, Int.reduceNe, ne_eq, bne_self_eq_false, beq_self_eq_true, stm, x0, x1, x2, x3, y1, y2, y3, e1, e2, Option.isSome_some, Option.getD_some]
            refine hJ1 _ ⟨ku.trans k3, ?_, d2⟩
            simpa [e1, same, e2] using d1
        · simp only [stp, Nat.reduceAdd, Int.reduceLT, Int.reduceLE, Int.reduceEq, Int.reduceNe, ne_eq, bne_self_eq_false, beq_self_eq_true, stm, x0, x1, x2, x3, y1, y2, y3, e1, Option.isSome_some, Option.getD_some]
          refine hJ1 _ ⟨ku.trans k3, ?_, d2⟩
          simpa [e1] using d1
      · rintro u' h' _j
        try simp only [stp, Nat.reduceAdd, Int.reduceLT, Int.reduceLE, Int.reduceEq, Int.reduceNe, ne_eq, bne_self_eq_false, beq_self_eq_true]
        exact hJ _ h'
    · intro _j
      have hi' : ¬ ((l.length : Int) < (l.length : Int)) := by omega
      simp only [stp, Nat.reduceAdd, Int.reduceLT, Int.reduceLE, Int.reduceEq, Int.reduceNe, ne_eq, bne_self_eq_false, beq_self_eq_true, hi']
      rw [List.take_length] at c1
      refine fin u { e with lsn := maxL (fun x => decide (x.kind = 1) && same x e) e.lsn l } ku o1 c1 c2 fun w' k' => ?_
      have := hq w' k'
      rw [show greatF e l = { e with lsn := maxL (fun x => decide (x.kind = 1) && same x e) e.lsn l } from if_neg hls] at this
      exact this
/-- Commits played alone. -/
theorem alone_c (hr : Rd 6 w v l.length (flat encE l)) (hl : l.length ≤ 100000) (ho : ∀ x ∈ l, EvR w x) (hq : ∀ w', K0 w w' → AM w' (siz w) (aloneF Z96 l).1 → Q (.tuple #[.map (some (siz w)), .bool (aloneF Z96 l).2]) w') :
    callS Tryz.prog 29 #[v] Q w := by
  refine ref29 ?_
  unfold S29
  obtain ⟨pa, ca, rfl⟩ := hr.form
  simp only [stp, Nat.reduceAdd, Int.reduceLT, Int.reduceLE, Int.reduceEq, Int.reduceNe, ne_eq, bne_self_eq_false, beq_self_eq_true]
  have k1 := (K0.refl w).alloc (.map #[] 0)
  have a1 := AM.new (w := w)
  have s1 : siz (w.alloc (.map #[] 0)) = siz w + 1 := siz_alloc
  generalize w.alloc (.map #[] 0) = w1 at k1 a1 s1
  generalize hm : siz w = m at a1 s1 hq
  refine lpc2 l.length (by omega) (fun i y u => ∃ ok : Bool, y = .bool ok ∧ K0 w u ∧ AM u m (aloneF Z96 (l.take i)).1 ∧ ok = (aloneF Z96 (l.take i)).2) ⟨true, rfl, k1, a1, rfl⟩ (fun i y u hi ⟨ok, hy, ku, au, hok⟩ J hJ => ?_) (fun y u ⟨ok, hy, ku, au, hok⟩ J => ?_)
  · intro _j
    subst hy
    have hi' : ((i : Int) < (l.length : Int)) := by omega
    obtain ⟨g, o, c, ee, _, hc⟩ := (hr.keep0 ku).at (by omega)
    injection ee with e1 _ e2
    subst e1 e2
    obtain ⟨p0, p1, p2, p3, p4, p5⟩ := ev_at hc (List.getElem?_eq_getElem hi)
    have hoi := ho _ (List.getElem_mem hi)
    have ho1 := hoi.ones
    have ht : l.take (i + 1) = l.take i ++ [l[i]] := by rw [List.take_add_one, List.getElem?_eq_getElem hi]; rfl
    simp only [stp, Nat.reduceAdd, Int.reduceLT, Int.reduceLE, Int.reduceEq, Int.reduceNe, ne_eq, bne_self_eq_false, beq_self_eq_true, hi']
    rw [ix_22 hi]
    simp only [stp, Nat.reduceAdd, Int.reduceLT, Int.reduceLE, Int.reduceEq, Int.reduceNe, ne_eq, bne_self_eq_false, beq_self_eq_true, stm, p0, p1, p2, p3, p4, p5, ho1.1, ho1.2, Option.isSome_some, Option.getD_some]
    have k3 := (K0.refl u).alloc (.cells #[.int .i64 l[i].kind, .int .i64 l[i].node, .int .u64 l[i].epoch, .int .u64 l[i].lsn, l[i].rv, l[i].wv] tEv)
    have x4 : Sh.cel (u.alloc (.cells #[.int .i64 l[i].kind, .int .i64 l[i].node, .int .u64 l[i].epoch, .int .u64 l[i].lsn, l[i].rv, l[i].wv] tEv)) (siz u) 4 = some l[i].rv := cel_alloc_new
    have x5 : Sh.cel (u.alloc (.cells #[.int .i64 l[i].kind, .int .i64 l[i].node, .int .u64 l[i].epoch, .int .u64 l[i].lsn, l[i].rv, l[i].wv] tEv)) (siz u) 5 = some l[i].wv := cel_alloc_new
    generalize u.alloc (.cells #[.int .i64 l[i].kind, .int .i64 l[i].node, .int .u64 l[i].epoch, .int .u64 l[i].lsn, l[i].rv, l[i].wv] tEv) = u3 at k3 x4 x5
    generalize siz u = bz at x4 x5
    have ku3 := ku.trans k3
    have au3 := au.keep0 k3
    have wr : ∀ (b : Bool) (u4 : World), K0 u3 u4 → b = (ok && readsF Z96 (aloneF Z96 (l.take i)).1 l[i].rd) → callS Tryz.prog 25 #[.map (some m), l[i].wv] (fun _ w_14 => J (.bool b) (.int .i64 (IntKind.i64.wrap ((i : Int) + 1))) w_14) u4 := fun b u4 k4 hb => by
      have h4 := (hoi.keep0 ku3).keep0 k4
      refine awrite_c (au3.keep0 k4) h4.q h4.lw fun u5 a5 k5 => ?_
      refine hJ _ _ ⟨b, rfl, (ku3.trans k4).trans' k5 fun q hq e => ?_, ?_, ?_⟩
      · have e : q = m := e
        omega
      · rw [ht, aloneF_snoc]; exact a5
      · rw [ht, aloneF_snoc, hb, hok]
    cases ok
    · simp only [stp, Nat.reduceAdd, Int.reduceLT, Int.reduceLE, Int.reduceEq, Int.reduceNe, ne_eq, bne_self_eq_false, beq_self_eq_true, stm, x4, x5, Option.isSome_some, Option.getD_some]
      exact wr false u3 (K0.refl _) (by simp)
    · simp only [stp, Nat.reduceAdd, Int.reduceLT, Int.reduceLE, Int.reduceEq, Int.reduceNe, ne_eq, bne_self_eq_false, beq_self_eq_true, stm, x4, x5, Option.isSome_some, Option.getD_some]
      have h3 := hoi.keep0 ku3
      refine areads_c au3 h3.r h3.lr fun u4 k4 => ?_
      have x54 := k4.cel x5 id
      simp only [stp, Nat.reduceAdd, Int.reduceLT, Int.reduceLE, Int.reduceEq, Int.reduceNe, ne_eq, bne_self_eq_false, beq_self_eq_true, stm, x54, Option.isSome_some, Option.getD_some]
      exact wr _ u4 k4 (by simp)
  · intro _j
    subst hy
    have hi' : ¬ ((l.length : Int) < (l.length : Int)) := by omega
    simp only [stp, Nat.reduceAdd, Int.reduceLT, Int.reduceLE, Int.reduceEq, Int.reduceNe, ne_eq, bne_self_eq_false, beq_self_eq_true, hi']
    rw [List.take_length] at au hok
    rw [hok]
    exact hq u ku au
end
end Go.Proofs.YtmmnifbponhhfaaGreatT
