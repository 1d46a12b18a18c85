/- Rows of entries thinned. Conditions: as each says. -/
import Derived.Test.YtjfookddoaemfaaCacP
set_option linter.unusedSimpArgs false
set_option linter.unusedVariables false
namespace Go.Proofs.Ytjfookddoaemfaa
open Go.Sh Go.Sh.Lrv Go.Proofs.Ytjfookddoaemfaa.Lv
set_option maxRecDepth 100000
section
theorem ee_at {b o : Nat} {w : World} {l : List En} (hc : ∀ j, j < l.length * 5 → cel w b (o + j) = (flat encE l)[j]?) {i : Nat} {p : En} (h : l[i]? = some p) :
    cel w b (o + i * 5) = some (.int .i64 p.1) ∧ cel w b (o + i * 5 + 1) = some (.int .u64 p.2.1) ∧ cel w b (o + i * 5 + 2) = some (.string p.2.2.1) ∧ cel w b (o + i * 5 + 3) = some (.bool p.2.2.2.1) ∧ cel w b (o + i * 5 + 4) = some (.int .u64 p.2.2.2.2) := by
  have hi := (List.getElem?_eq_some_iff.1 h).1
  have hb : (i + 1) * 5 ≤ l.length * 5 := Nat.mul_le_mul_right _ hi
  have g : ∀ j, j < 5 → cel w b (o + i * 5 + j) = (encE p)[j]? := fun j hj => by
    rw [Nat.add_assoc, hc _ (by omega)]
    exact flat_get (enc := encE) encE_len h (by omega)
  exact ⟨g 0 (by omega), g 1 (by omega), g 2 (by omega), g 3 (by omega), g 4 (by omega)⟩
theorem ee_index {f v : Value} {l : List En} {P : En → Prop} [DecidablePred P] {F : Nat → Prop} {w : World} {Q : Value → World → Prop} (h : Rd 5 w v l.length (flat encE l)) (hl : l.length ≤ 1000000)
    (hp : ∀ w1 s (Q : Value → World → Prop), K0 w w1 → s ∈ l → (∀ w2, K0 w1 w2 → Q (.bool (decide (P s))) w2) → callF Try.prog f #[.agg #[.int .i64 s.1, .int .u64 s.2.1, .string s.2.2.1, .bool s.2.2.2.1, .int .u64 s.2.2.2.2]] Q w1)
    (hq1 : ∀ w', K0 w w' → (∀ s ∈ l, ¬ P s) → Q (.int .i64 (-1)) w')
    (hq2 : ∀ w' (i : Nat) s, K0 w w' → l[i]? = some s → P s → (∀ s ∈ l.take i, ¬ P s) → Q (.int .i64 (i : Int)) w') :
    callS Try.prog 50 #[v, f] Q w := by
  refine ref50 ?_
  unfold S50
  obtain ⟨a, c, rfl⟩ := h.form
  simp only [stp, Nat.reduceAdd, Int.reduceLT, Int.reduceLE, Int.reduceEq, Int.reduceNe, ne_eq, bne_self_eq_false, beq_self_eq_true]
  refine lp1 (fun m x w' => K0 w w' ∧ ∃ i : Nat, x = .int .i64 (i : Int) ∧ i ≤ l.length ∧ m = l.length - i ∧ ∀ s ∈ l.take i, ¬ P s) l.length ⟨Keep.refl _ _, 0, rfl, Nat.zero_le _, by omega, by simp⟩ ?_
  rintro m x w' ⟨k, i, rfl, hi, rfl, hok⟩ J hJ _
  by_cases hlt : i < l.length
  · have hlt' : ((i : Int) < (l.length : Int)) := by omega
    obtain ⟨b, o, c', e, hc', hcel⟩ := (h.keep0 k).at (by omega)
    injection e with e1 _ e2
    subst e1 e2
    have hs : l[i]? = some l[i] := List.getElem?_eq_getElem hlt
    obtain ⟨c0, c1, c2, c3, c4⟩ := ee_at hcel hs
    simp only [stp, Nat.reduceAdd, Int.reduceLT, Int.reduceLE, Int.reduceEq, Int.reduceNe, ne_eq, bne_self_eq_false, beq_self_eq_true, hlt']
    rw [ix_35 hlt]
    simp only [stp, Nat.reduceAdd, Int.reduceLT, Int.reduceLE, Int.reduceEq, Int.reduceNe, ne_eq, bne_self_eq_false, beq_self_eq_true, stm, c0, c1, c2, c3, c4]
    refine hp _ _ _ k (List.getElem_mem hlt) fun w2 g2 => ?_
    have hw := wrap_succ (i := i) (by omega)
    by_cases h0 : P l[i]
    · simp only [stp, Nat.reduceAdd, Int.reduceLT, Int.reduceLE, Int.reduceEq, Int.reduceNe, ne_eq, bne_self_eq_false, beq_self_eq_true, h0, hw]
      exact hq2 _ i _ (k.trans g2) hs h0 hok
    · simp only [stp, Nat.reduceAdd, Int.reduceLT, Int.reduceLE, Int.reduceEq, Int.reduceNe, ne_eq, bne_self_eq_false, beq_self_eq_true, h0, hw]
      refine hJ (l.length - (i + 1)) _ _ (by omega) ⟨k.trans g2, i + 1, rfl, by omega, rfl, fun s hm => ?_⟩
      rw [List.take_add_one, hs] at hm
      rcases List.mem_append.1 hm with hm | hm
      · exact hok s hm
      · simp at hm; subst hm; exact h0
  · have hlt' : ¬ ((i : Int) < (l.length : Int)) := by omega
    simp only [stp, Nat.reduceAdd, Int.reduceLT, Int.reduceLE, Int.reduceEq, Int.reduceNe, ne_eq, bne_self_eq_false, beq_self_eq_true, hlt']
    refine hq1 _ k fun s hs => hok s ?_
    rw [List.take_of_length_le (by omega)]; exact hs
theorem ee_delete {base : Nat} {f v : Value} {l : List En} {P : En → Prop} [DecidablePred P] {w : World} {Q : Value → World → Prop} (hown : Sh.Own w base 49 5 v l.length (flat encE l)) (hl : l.length ≤ 1000000)
    (hp : ∀ w1 s (Q : Value → World → Prop), Keep (fun b => v.ownBlock = some b) w w1 → s ∈ l → (∀ w2, K0 w1 w2 → Q (.bool (decide (P s))) w2) → callF Try.prog f #[.agg #[.int .i64 s.1, .int .u64 s.2.1, .string s.2.2.1, .bool s.2.2.2.1, .int .u64 s.2.2.2.2]] Q w1)
    (hq : ∀ w' v' (l' : List En), l' = l.filter (fun s => decide (¬ P s)) → Sh.Own w' base 49 5 v' l'.length (flat encE l') → Keep (fun b => v.ownBlock = some b) w w' → (∀ g, v'.ownBlock = some g → v.ownBlock = some g) → Q v' w') :
    callS Try.prog 30 #[v, f] Q w := by
  refine ref30 ?_
  unfold S30
  refine ee_index (P := P) (F := fun _ => False) hown.rd hl (fun w1 s Q k hs hq => hp w1 s Q k.none hs hq) (fun w1 k1 hok => ?_) (fun w1 i0 s0 k1 hs0 hns hok => ?_)
  · simp only [stp, Nat.reduceAdd, Int.reduceLT, Int.reduceLE, Int.reduceEq, Int.reduceNe, ne_eq, bne_self_eq_false, beq_self_eq_true]
    refine hq w1 v l (by rw [List.filter_eq_self.2]; intro s hs; exact decide_eq_true (hok s hs)) (hown.keep k1 fun _ _ => id) k1.none fun _ => id
  · have hi0 := (List.getElem?_eq_some_iff.1 hs0).1
    obtain ⟨g, cap, rfl, hbg, hgs, hcap, hcm, hgf, _⟩ := hown.at (by omega)
    have hne : ¬ ((i0 : Int) = -1) := by omega
    have hw0 := wrap_succ (i := i0) (by omega)
    simp only [stp, Nat.reduceAdd, Int.reduceLT, Int.reduceLE, Int.reduceEq, Int.reduceNe, ne_eq, bne_self_eq_false, beq_self_eq_true, hne, hw0]
    have o1 := hown.keep k1 fun _ _ => id
    have hown1 : (Value.slice (some ⟨g, 0, none⟩) l.length cap).ownBlock = some g := rfl
    have f0 : (l.take (i0 + 1)).filter (fun s => decide (¬ P s)) = l.take i0 := by
      rw [List.take_add_one, hs0, List.filter_append, List.filter_eq_self.2 (fun s hs => decide_eq_true (hok s hs))]
      simp [hns]
    refine lp2 (fun m x y w' => Keep (fun b => b = g) w w' ∧ ∃ (i j : Nat) (cur : List En), x = .int .i64 (i : Int) ∧ y = .int .i64 (j : Int) ∧ i < j ∧ j ≤ l.length ∧ m = l.length - j ∧ cur.length = l.length ∧
      Sh.Own w' base 49 5 (.slice (some ⟨g, 0, none⟩) l.length cap) l.length (flat encE cur) ∧ cur.take i = (l.take j).filter (fun s => decide (¬ P s)) ∧ cur.drop j = l.drop j) (l.length - (i0 + 1))
      ⟨k1.none, i0, i0 + 1, l, rfl, rfl, by omega, by omega, rfl, rfl, o1, f0.symm, rfl⟩ ?_
    rintro m x y w2 ⟨k2, i, j, cur, rfl, rfl, hij, hjl, rfl, hcl, o2, ht, hd⟩ J hJ _
    have s2 := k2.size
    simp only [stp, Nat.reduceAdd, Int.reduceLT, Int.reduceLE, Int.reduceEq, Int.reduceNe, ne_eq, bne_self_eq_false, beq_self_eq_true]
    by_cases hlt : j < l.length
    · have hlt' : ((j : Int) < (l.length : Int)) := by omega
      obtain ⟨g', cap', e, _, _, _, _, gf2, hcel⟩ := o2.at (by omega)
      injection e with e1 _ e2
      injection e1 with e1
      injection e1 with e1 _ _
      subst e1 e2
      have hsj : cur[j]? = some l[j] := by
        have := congrArg (fun r => r[0]?) hd
        simp only [List.getElem?_drop, Nat.add_zero] at this
        rw [this]; exact List.getElem?_eq_getElem hlt
      have hlj : l[j]? = some l[j] := List.getElem?_eq_getElem hlt
      obtain ⟨c0, c1, c2, c3, c4⟩ := ee_at (b := g) (o := 0) (l := cur) (by rw [hcl]; intro j' hj'; rw [Nat.zero_add]; exact hcel j' hj') hsj
      rw [Nat.zero_add] at c0 c1 c2 c3 c4
      have hd1 : cur.drop (j + 1) = l.drop (j + 1) := by
        have := congrArg (List.drop 1) hd
        simpa [List.drop_drop, Nat.add_comm] using this
      have ht1 : (l.take (j + 1)).filter (fun s => decide (¬ P s)) = (l.take j).filter (fun s => decide (¬ P s)) ++ (if P l[j] then [] else [l[j]]) := by
        rw [List.take_add_one, hlj, List.filter_append]
        by_cases h : P l[j] <;> simp [h]
      simp only [stp, Nat.reduceAdd, Int.reduceLT, Int.reduceLE, Int.reduceEq, Int.reduceNe, ne_eq, bne_self_eq_false, beq_self_eq_true, hlt']
      have hwj := wrap_succ (i := j) (by omega)
      have hwi := wrap_succ (i := i) (by omega)
      refine jn1 (fun x w' => Keep (fun b => b = g) w w' ∧ ∃ (i : Nat) (cur : List En), x = .int .i64 (i : Int) ∧ i < j + 1 ∧ cur.length = l.length ∧
        Sh.Own w' base 49 5 (.slice (some ⟨g, 0, none⟩) l.length cap) l.length (flat encE cur) ∧ cur.take i = (l.take (j + 1)).filter (fun s => decide (¬ P s)) ∧ cur.drop (j + 1) = l.drop (j + 1)) (fun J' hJ' => ?_) ?_
      · rw [ix_35 hlt]
        simp only [stp, Nat.reduceAdd, Int.reduceLT, Int.reduceLE, Int.reduceEq, Int.reduceNe, ne_eq, bne_self_eq_false, beq_self_eq_true, stm, c0, c1, c2, c3, c4]
        have k3 := (Keep.refl (fun _ => False) w2).alloc (.cells #[.int .i64 l[j].1, .int .u64 l[j].2.1, .string l[j].2.2.1, .bool l[j].2.2.2.1, .int .u64 l[j].2.2.2.2] 49)
        have o3 := o2.keep k3 fun _ _ => id
        have x0 : cel (w2.alloc (.cells #[.int .i64 l[j].1, .int .u64 l[j].2.1, .string l[j].2.2.1, .bool l[j].2.2.2.1, .int .u64 l[j].2.2.2.2] 49)) (siz w2) 0 = some (.int .i64 l[j].1) := cel_alloc_new
        have x1 : cel (w2.alloc (.cells #[.int .i64 l[j].1, .int .u64 l[j].2.1, .string l[j].2.2.1, .bool l[j].2.2.2.1, .int .u64 l[j].2.2.2.2] 49)) (siz w2) 1 = some (.int .u64 l[j].2.1) := cel_alloc_new
        have x2 : cel (w2.alloc (.cells #[.int .i64 l[j].1, .int .u64 l[j].2.1, .string l[j].2.2.1, .bool l[j].2.2.2.1, .int .u64 l[j].2.2.2.2] 49)) (siz w2) 2 = some (.string l[j].2.2.1) := cel_alloc_new
        have x3 : cel (w2.alloc (.cells #[.int .i64 l[j].1, .int .u64 l[j].2.1, .string l[j].2.2.1, .bool l[j].2.2.2.1, .int .u64 l[j].2.2.2.2] 49)) (siz w2) 3 = some (.bool l[j].2.2.2.1) := cel_alloc_new
        have x4 : cel (w2.alloc (.cells #[.int .i64 l[j].1, .int .u64 l[j].2.1, .string l[j].2.2.1, .bool l[j].2.2.2.1, .int .u64 l[j].2.2.2.2] 49)) (siz w2) 4 = some (.int .u64 l[j].2.2.2.2) := cel_alloc_new
        generalize w2.alloc (.cells #[.int .i64 l[j].1, .int .u64 l[j].2.1, .string l[j].2.2.1, .bool l[j].2.2.2.1, .int .u64 l[j].2.2.2.2] 49) = w3 at k3 o3 x0 x1 x2 x3 x4
        refine hp _ _ _ ((k2.trans k3.none).mono fun b _ e => by subst e; rfl) (List.getElem_mem hlt) fun w4 k43 => ?_
        have k4 := k2.trans ((k3.trans k43).none)
        have o4 := o3.keep k43 fun _ _ => id
        have y0 := k43.cel x0 (by exact fun h => h)
        have y1 := k43.cel x1 (by exact fun h => h)
        have y2 := k43.cel x2 (by exact fun h => h)
        have y3 := k43.cel x3 (by exact fun h => h)
        have y4 := k43.cel x4 (by exact fun h => h)
        by_cases h0 : P l[j]
        · simp only [stp, Nat.reduceAdd, Int.reduceLT, Int.reduceLE, Int.reduceEq, Int.reduceNe, ne_eq, bne_self_eq_false, beq_self_eq_true, h0]
          refine hJ' _ _ ⟨k4, i, cur, rfl, by omega, hcl, o4, ?_, hd1⟩
          rw [ht1, if_pos h0, List.append_nil, ht]
        · simp only [stp, Nat.reduceAdd, Int.reduceLT, Int.reduceLE, Int.reduceEq, Int.reduceNe, ne_eq, bne_self_eq_false, beq_self_eq_true, stm, h0, y0, y1, y2, y3, y4]
          rw [ix_35 (show i < l.length by omega)]
          obtain ⟨g', cap', e, _, _, _, _, gf4, hcel4⟩ := o4.at (by omega)
          injection e with e1 _ e2
          injection e1 with e1
          injection e1 with e1 _ _
          subst e1 e2
          have z' : ∀ k, k < 5 → (cel w4 g (i * 5 + k)).isSome = true := fun k hk => by
            rw [hcel4 _ (by omega), List.getElem?_eq_getElem (by rw [flat_len encE_len, hcl]; omega)]; rfl
          have z : ∀ k, k < 5 → (cel w4 g (0 + i * 5 + k)).isSome = true := fun k hk => by rw [Nat.zero_add]; exact z' k hk
          rw [st_49 one_int one_int one_str one_bool one_int (show (cel w4 g (0 + i * 5)).isSome = true from z 0 (by omega)) (z 1 (by omega)) (z 2 (by omega)) (z 3 (by omega)) (z 4 (by omega)) gf4]
          simp only [stp, Nat.reduceAdd, Int.reduceLT, Int.reduceLE, Int.reduceEq, Int.reduceNe, ne_eq, bne_self_eq_false, beq_self_eq_true, hwi]
          have o5 := Sh.Own.setL [.int .i64 l[j].1, .int .u64 l[j].2.1, .string l[j].2.2.1, .bool l[j].2.2.2.1, .int .u64 l[j].2.2.2.2] o4 (j := i * 5) (by simp; omega)
          have e5 : (flat encE cur).take (i * 5) ++ ([.int .i64 l[j].1, .int .u64 l[j].2.1, .string l[j].2.2.1, .bool l[j].2.2.2.1, .int .u64 l[j].2.2.2.2] ++ (flat encE cur).drop (i * 5 + List.length (α := Value) [.int .i64 l[j].1, .int .u64 l[j].2.1, .string l[j].2.2.1, .bool l[j].2.2.2.1, .int .u64 l[j].2.2.2.2])) = flat encE (cur.set i l[j]) := by
            rw [List.set_eq_take_append_cons_drop, if_pos (by omega), flat_append, flat_cons, ← flat_take encE_len, ← flat_drop encE_len]
            simp only [List.length_cons, List.length_nil, Nat.add_mul]
            rfl
          rw [e5] at o5
          try rw [Nat.zero_add]
          refine hJ' _ _ ⟨Keep.stoL _ _ k4 (.inl rfl), i + 1, cur.set i l[j], rfl, by omega, by rw [List.length_set]; exact hcl, ?_, ?_, ?_⟩
          · exact o5
          · rw [ht1, if_neg h0, ← ht, List.take_add_one, List.getElem?_set_self (by omega)]
            rw [List.take_set_of_le (by omega)]; rfl
          · rw [List.drop_set_of_lt (by omega), hd1]
      · rintro x w5 ⟨k5, i', cur', rfl, hi', hcl', o5, ht5, hd5⟩ _
        simp only [stp, Nat.reduceAdd, Int.reduceLT, Int.reduceLE, Int.reduceEq, Int.reduceNe, ne_eq, bne_self_eq_false, beq_self_eq_true, hwj]
        exact hJ (l.length - (j + 1)) _ _ _ (by omega) ⟨k5, i', j + 1, cur', rfl, rfl, hi', by omega, rfl, hcl', o5, ht5, hd5⟩
    · have hlt' : ¬ ((j : Int) < (l.length : Int)) := by omega
      have hj : j = l.length := by omega
      subst hj
      rw [List.take_length] at ht
      have hli : i = (l.filter (fun s => decide (¬ P s))).length := by
        rw [← ht, List.length_take]; omega
      have hkk : Keep (fun b => (Value.slice (some ⟨g, 0, none⟩) l.length cap).ownBlock = some b) w w2 := k2.mono fun b _ e => by subst e; rfl
      simp only [stp, Nat.reduceAdd, Int.reduceLT, Int.reduceLE, Int.reduceEq, Int.reduceNe, ne_eq, bne_self_eq_false, beq_self_eq_true, hlt']
      obtain ⟨g', cap', e, _, _, _, _, gf2, hcel⟩ := o2.at (by omega)
      injection e with e1 _ e2
      injection e1 with e1
      injection e1 with e1 _ _
      subst e1 e2
      have hne' : ¬ cap = i := by omega
      rw [slf_35 (show i ≤ l.length by omega) hcap, if_neg hne']
      have hzc : (Builtin.zeroCells (Value.agg #[.int .i64 0, .int .u64 0, .string ⟨#[]⟩, .bool false, .int .u64 0]).cells (l.length - i)).size = (l.length - i) * 5 := by simp [Builtin.zeroCells, Value.cells]
      rw [act_clearN (z := .agg #[.int .i64 0, .int .u64 0, .string ⟨#[]⟩, .bool false, .int .u64 0]) (fun w => Try.runUnderlying35 w) (fun w => Try.zeroValue49 w) (fun u hu => ?_) (fun j hj => ?_) gf2, slt_35 (show i ≤ cap by omega)]
      · have o3 := o2.cutL (m := i) (by omega) (Builtin.zeroCells (Value.agg #[.int .i64 0, .int .u64 0, .string ⟨#[]⟩, .bool false, .int .u64 0]).cells (l.length - i)).toList (by rw [Array.length_toList, hzc])
        rw [flat_take encE_len, ht] at o3
        try rw [Nat.zero_add]
        refine hq _ _ _ rfl ?_ (Keep.stoL _ _ hkk (.inl rfl)) fun _ => id
        rw [← hli]; exact o3
      · simp only [Builtin.zeroCells, Array.toList_map, List.mem_map] at hu
        obtain ⟨t, _, rfl⟩ := hu
        simp only [Value.cells, List.size_toArray, List.length_cons, List.length_nil, Nat.zero_add, Nat.reduceAdd]
        have hm : t % 5 < 5 := Nat.mod_lt _ (by omega)
        generalize t % 5 = r at hm
        have hr : r = 0 ∨ r = 1 ∨ r = 2 ∨ r = 3 ∨ r = 4 := by omega
        clear hm
        rcases hr with rfl | rfl | rfl | rfl | rfl <;> first | exact one_int | exact one_str | exact one_bool | exact one_slice
      · simp only [Value.cells, List.size_toArray, List.length_cons, List.length_nil, Nat.zero_add, Nat.reduceAdd] at hj
        have hi2 : i * 5 + j < l.length * 5 := by
          have : l.length - i + i = l.length := by omega
          have := Nat.add_mul (l.length - i) i 5
          omega
        rw [Nat.zero_add, hcel _ hi2, List.getElem?_eq_getElem (by rw [flat_len encE_len, hcl]; omega)]; rfl

end
end Go.Proofs.Ytjfookddoaemfaa
