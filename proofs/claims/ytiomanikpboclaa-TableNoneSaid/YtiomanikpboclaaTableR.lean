/- The table of locks: what is given back. Conditions: as each says. -/
import Derived.Test.YtiomanikpboclaaTableQ
set_option linter.unusedSimpArgs false
set_option linter.unusedVariables false
namespace Go.Proofs.Ytiomanikpboclaa
open Go.Sh Go.Proofs.Ytiomanikpboclaa.Mi
set_option maxRecDepth 100000
section
variable {w w' : World} {Q : Value → World → Prop} {B t : Nat} {s : TS}
/-- What is held behind a release: in the range no more than is kept. -/
def relV (keep : Int) (h : Option Int) (v : Int) : Option Int := if v ≤ keep then h else if keep = 0 then none else some keep
def relF (f : Int → Option Int) (sp : Sp) (keep : Int) (x : Int) : Option Int := if hasB sp x then (match f x with | some v => relV keep (some v) v | none => none) else f x
theorem relF_over (l : List (Pt Int)) (hc : Canon l) (sp : Sp) (keep x : Int) : overB (relV keep) (valB l) (valB (partsL sp l)) x = relF (valB l) sp keep x := by
  unfold overB relF
  rw [partsL_val _ _ hc.1]
  by_cases h : hasB sp x
  · rw [if_pos h, if_pos h]
    cases e : valB l x with
    | none => rfl
    | some v => rfl
  · rw [if_neg h, if_neg h]
theorem sup_rel {f : Int → Option Int} {sp : Sp} {keep : Int} (hf : Sup f) : Sup (relF f sp keep) := fun x hx => by
  refine hf x fun e => hx ?_
  unfold relF
  rw [e]
  split <;> rfl
def TS.release (s : TS) (i : Nat) (a b keep : Int) : TS := s.turn i (relF (bl s i) (a, b) keep)
theorem release_c {node a b keep : Int} (h : TL w B t s) (hok : WsOk s.ws) (hwn : WsN s) (hB : B ≤ siz w)
    (q0 : ∀ w', ¬ ((1 ≤ node ∧ node ≤ s.nodes) ∧ ok (a, b) ∧ (keep = 0 ∨ keep = 1)) → K0 w w' → Q (.tuple #[.slice none 0 0, .int .i64 1]) w')
    (q1 : ∀ w' v' (i : Nat), node = (i : Int) → 1 ≤ i → (i : Int) ≤ s.nodes → ok (a, b) → (keep = 0 ∨ keep = 1) → TL w' B t (s.release i a b keep).granted → Own w' (siz w) 36 5 v' (grantOut (s.release i a b keep)).length (flat enc5 (grantOut (s.release i a b keep))) →
      KO B tp w w' → Q (.tuple #[v', .int .i64 0]) w') :
    callS Try.prog 11 #[.pointer (some ⟨t, 0, none⟩), .int .i64 node, .agg #[.int .i64 a, .int .i64 b], .int .i64 keep] Q w := by
  refine ref11 ?_
  unfold S11
  obtain ⟨ms, wv, h⟩ := h
  simp only [act_box, agg_cells]
  have b1 : blk (w.alloc (.cells #[.int .i64 a, .int .i64 b] 23)) (siz w) = some (.cells #[.int .i64 a, .int .i64 b] 23) := blk_alloc_new
  have k1 : K0 w (w.alloc (.cells #[.int .i64 a, .int .i64 b] 23)) := (K0.refl w).alloc _
  have s1 : siz w < siz (w.alloc (.cells #[.int .i64 a, .int .i64 b] 23)) := blk_lt b1
  generalize w.alloc (.cells #[.int .i64 a, .int .i64 b] 23) = w1 at b1 k1 s1
  refine is_c (h.keep0 k1).c0 ?_
  by_cases hnd : 1 ≤ node ∧ node ≤ s.nodes
  case neg =>
    rw [decide_eq_false hnd]
    simp only [stp, Nat.reduceAdd, Int.reduceLT, Int.reduceLE, Int.reduceEq, Int.reduceNe, ne_eq, bne_self_eq_false, beq_self_eq_true]
    exact q0 _ (fun h => hnd h.1) k1
  rw [decide_eq_true hnd]
  have x0 : cel w1 (siz w) 0 = some (.int .i64 a) := by rw [cel_b b1]; rfl
  have x1 : cel w1 (siz w) 1 = some (.int .i64 b) := by rw [cel_b b1]; rfl
  simp only [stp, Nat.reduceAdd, Int.reduceLT, Int.reduceLE, Int.reduceEq, Int.reduceNe, ne_eq, bne_self_eq_false, beq_self_eq_true, stm, x0, x1]
  refine valid_c fun w2 g2 => ?_
  have k2 : K0 w1 w2 := g2.1
  by_cases hok' : ok (a, b)
  case neg =>
    rw [decide_eq_false hok']
    simp only [stp, Nat.reduceAdd, Int.reduceLT, Int.reduceLE, Int.reduceEq, Int.reduceNe, ne_eq, bne_self_eq_false, beq_self_eq_true]
    exact q0 _ (fun h => hok' h.2.1) (k1.trans k2)
  rw [decide_eq_true hok']
  by_cases hkp : keep = 0 ∨ keep = 1
  case neg =>
    have hk0 : ¬ keep = 0 := fun h => hkp (.inl h)
    have hk1 : ¬ keep = 1 := fun h => hkp (.inr h)
    simp only [stp, Nat.reduceAdd, Int.reduceLT, Int.reduceLE, Int.reduceEq, Int.reduceNe, ne_eq, bne_self_eq_false, beq_self_eq_true, hk0, hk1]
    exact q0 _ (fun h => hkp h.2.2) (k1.trans k2)
  have kk2 := k1.trans k2
  obtain ⟨i, rfl⟩ : ∃ i : Nat, node = (i : Int) := ⟨node.toNat, by omega⟩
  have hlt : i < 17 := by have := h.nn.2; omega
  have h2 := h.keep0 kk2
  obtain ⟨m, l, e1, e2, e3, hm, hd⟩ := h2.node hlt
  have hl := canon_len (n := 4096) hm.canon hd
  have hbl : bl s i = valB l := by unfold bl; rw [e2]; rfl
  have y0 : cel w2 (siz w) 0 = some (.int .i64 a) := k2.cel x0 (by exact fun h => h)
  have y1 : cel w2 (siz w) 1 = some (.int .i64 b) := k2.cel x1 (by exact fun h => h)
  have main : ∀ (k : Value → World → Prop), (∀ w' v', TL w' B t (s.release i a b keep).granted → Own w' (siz w) 36 5 v' (grantOut (s.release i a b keep)).length (flat enc5 (grantOut (s.release i a b keep))) → KO B tp w w' → k v' w') →
      ∀ w', (∃ l', TLr w' B t { s with hs := s.hs.set i l' } ms wv ∧ Canon l' ∧ (∀ x, valB l' x = relF (valB l) (a, b) keep x) ∧ Keep (fun b => b = m) w2 w') → callS Try.prog 31 #[.pointer (some ⟨t, 0, none⟩)] k w' := by
    rintro k hk w5 ⟨l', h5, hc5, hv5, k5⟩
    have hs5 : ({ s with hs := s.hs.set i l' } : TS) = s.release i a b keep := by
      unfold TS.release TS.turn
      rw [canonL_eq (l := l') hc5 (bd_of_val hc5 fun x hx => ?_) fun x => by rw [hv5, hbl]]
      rw [hv5]
      refine Classical.byContradiction fun hne => ?_
      have := sup_rel (keep := keep) (sp := (a, b)) (sup_val hd) x hne
      omega
    rw [hs5] at h5
    have s5 := k5.size
    have s2 := kk2.size
    refine grant_c ⟨_, _, h5⟩ hok hwn (by omega) fun w6 v6 h6 o6 k6 => ?_
    exact hk w6 v6 h6 (o6.le (by omega)) (((KO.of0 kk2).trans (h2.ko e1 k5)).trans k6)
  have q1' := fun w' v' h1 h2 h3 => q1 w' v' i rfl (by omega) hnd.2 hok' hkp h1 h2 h3
  have walk : ∀ (k : Value → World → Prop), (∀ w' v', TL w' B t (s.release i a b keep).granted → Own w' (siz w) 36 5 v' (grantOut (s.release i a b keep)).length (flat enc5 (grantOut (s.release i a b keep))) → KO B tp w w' → k v' w') → True := fun _ _ => trivial
  have hkc : keep = 0 ∨ (¬ keep = 0 ∧ keep = 1) := by rcases hkp with h | h <;> omega
  have hset0 : ({ s with hs := s.hs.set i l } : TS) = s := by
    have : s.hs.set i l = s.hs := by
      have hi' : i < s.hs.length := by rw [h.hn]; exact hlt
      have : s.hs[i] = l := by rw [List.getElem?_eq_getElem hi'] at e2; injection e2
      rw [← this, List.set_getElem_self]
    rw [this]
  have hnl : i < s.hs.length := by rw [h.hn]; exact hlt
  have hPl := partsL_len (a, b) l
  have hPc := partsL_canon (s := (a, b)) hm.canon
  have hPd : ∀ p ∈ partsL (a, b) l, p.1.2 ≤ 4096 := fun p hp => by
    obtain ⟨q, hq, _, rfl⟩ := partsL_mem hp
    have := hd q hq
    show min q.1.2 b ≤ 4096
    omega
  have hend : ∀ l' : List (Pt Int), (∀ x, valB l' x = overB (relV keep) (valB l) (valB ((partsL (a, b) l).take (partsL (a, b) l).length)) x) → ∀ x, valB l' x = relF (valB l) (a, b) keep x := fun l' h x => by
    rw [h, List.take_length, relF_over l hm.canon]
  have k2d := (K0.refl w2).drew
  have hmapm : ∀ {w' l'}, TLr w' B t { s with hs := s.hs.set i l' } ms wv → cel w' t (1 + i) = some (.pointer (some ⟨m, 0, none⟩)) ∧ IM w' m l' ∧ Bd 4096 l' := fun {w' l'} h' => by
    obtain ⟨m', l2, f1, f2, f3, f4, f5⟩ := h'.node hlt
    have f2 : (s.hs.set i l')[i]? = some l2 := f2
    rw [List.getElem?_set_self hnl] at f2
    injection f2 with f2
    rw [e1] at f1
    injection f1 with f1
    subst f1 f2
    exact ⟨f3, f4, f5⟩
  rcases hkc with rfl | ⟨hk0, rfl⟩
  · simp only [stp, Nat.reduceAdd, Int.reduceLT, Int.reduceLE, Int.reduceEq, Int.reduceNe, ne_eq, bne_self_eq_false, beq_self_eq_true]
    rw [ixa hlt]
    simp only [stp, Nat.reduceAdd, Int.reduceLT, Int.reduceLE, Int.reduceEq, Int.reduceNe, ne_eq, bne_self_eq_false, beq_self_eq_true, stm, e3, y0, y1]
    refine parts_c (a := a) (b := b) (w := w2.drew) (hm.keep0 k2d) (by omega) fun w3 v3 o3 k3 => ?_
    have k3 : K0 w2 w3 := k2d.trans k3
    generalize partsL (a, b) l = P at *
    obtain ⟨p3, c3, rfl⟩ := o3.form
    simp only [stp, Nat.reduceAdd, Int.reduceLT, Int.reduceLE, Int.reduceEq, Int.reduceNe, ne_eq, bne_self_eq_false, beq_self_eq_true]
    refine lpc1 P.length (by omega) (fun j w' => ∃ l', TLr w' B t { s with hs := s.hs.set i l' } ms wv ∧ Canon l' ∧ (∀ x, valB l' x = overB (relV 0) (valB l) (valB (P.take j)) x) ∧ l'.length ≤ l.length + 2 * j ∧ Keep (fun b => b = m) w3 w')
      ⟨l, by rw [hset0]; exact h2.keep0 k3, hm.canon, fun x => rfl, by omega, Keep.refl _ _⟩ ?_ ?_
    · rintro j w4 hj ⟨l4, h4, hc4, hv4, hl4, k4⟩ J hJ _j
      have hj' : (j : Int) < (P.length : Int) := by omega
      obtain ⟨f3, f4, f5⟩ := hmapm h4
      obtain ⟨g, rfl, r0, r1, r2⟩ := part_at ((hm.keep0 k3).list (o3.keep (K0.refl _) fun _ _ e => e) (by decide) k4) hj
      simp only [stp, Nat.reduceAdd, Int.reduceLT, Int.reduceLE, Int.reduceEq, Int.reduceNe, ne_eq, bne_self_eq_false, beq_self_eq_true, hj']
      refine jn0 (fun w' => ∃ l', TLr w' B t { s with hs := s.hs.set i l' } ms wv ∧ Canon l' ∧ (∀ x, valB l' x = overB (relV 0) (valB l) (valB (P.take (j + 1))) x) ∧ l'.length ≤ l.length + 2 * (j + 1) ∧ Keep (fun b => b = m) w3 w') (fun J1 hJ1 => ?_) ?_
      · rw [ix_65 hj, Nat.zero_add]
        simp only [stp, Nat.reduceAdd, Int.reduceLT, Int.reduceLE, Int.reduceEq, Int.reduceNe, ne_eq, bne_self_eq_false, beq_self_eq_true, stm, r0, r1, r2]
        have hP0 := hPc.1 _ (List.getElem_mem hj)
        have hT := fun x => over_take (F := relV 0) (H := valB l) hPc.apart hj x
        generalize P[j] = p at *
        have b5 : blk (w4.alloc (.cells #[.int .i64 p.1.1, .int .i64 p.1.2, .int .i64 p.2] 68)) (siz w4) = some (.cells #[.int .i64 p.1.1, .int .i64 p.1.2, .int .i64 p.2] 68) := blk_alloc_new
        have k5 : K0 w4 (w4.alloc (.cells #[.int .i64 p.1.1, .int .i64 p.1.2, .int .i64 p.2] 68)) := (K0.refl w4).alloc _
        generalize w4.alloc (.cells #[.int .i64 p.1.1, .int .i64 p.1.2, .int .i64 p.2] 68) = w5 at b5 k5
        have d0 : cel w5 (siz w4) 0 = some (.int .i64 p.1.1) := by rw [cel_b b5]; rfl
        have d1 : cel w5 (siz w4) 1 = some (.int .i64 p.1.2) := by rw [cel_b b5]; rfl
        have d2 : cel w5 (siz w4) 2 = some (.int .i64 p.2) := by rw [cel_b b5]; rfl
        by_cases hle : p.2 ≤ 0
        · simp only [stp, Nat.reduceAdd, Int.reduceLT, Int.reduceLE, Int.reduceEq, Int.reduceNe, ne_eq, bne_self_eq_false, beq_self_eq_true, stm, d2, hle]
          refine hJ1 _ ⟨l4, h4.keep0 k5, hc4, fun x => ?_, by omega, k4.trans k5.none⟩
          rw [hT, ← hv4]
          by_cases hx : hasB p.1 x
          · rw [if_pos hx]; unfold relV; rw [if_pos hle]
          · rw [if_neg hx]
        simp only [stp, Nat.reduceAdd, Int.reduceLT, Int.reduceLE, Int.reduceEq, Int.reduceNe, ne_eq, bne_self_eq_false, beq_self_eq_true, stm, d2, hle]
        rw [ixa hlt]
        have f3' := k5.cel f3 (by exact fun h => h)
        simp only [stp, Nat.reduceAdd, Int.reduceLT, Int.reduceLE, Int.reduceEq, Int.reduceNe, ne_eq, bne_self_eq_false, beq_self_eq_true, stm, f3', d0, d1]
        have h5 := h4.keep0 (k5.drew)
        refine clear_any (f4.keep0 k5.drew) (by omega) fun w6 l6 r6 m6 hv6 hl6 k6 => ?_
        have hd6 : Bd 4096 l6 := bd_of_val m6.canon fun x hx => by
          rw [hv6]; split
          · rfl
          · exact val_of_bd f5 hx
        have h6 := h5.turn e1 k6 m6 hd6
        rw [List.set_set] at h6
        refine hJ1 _ ⟨l6, h6, m6.canon, fun x => ?_, by omega, (k4.trans k5.drew.none).trans k6⟩
        rw [hT, hv6, hv4]
        unfold relV
        rw [if_neg hle, if_pos rfl]
      · rintro w5 h5 _j
        exact hJ _ h5
    · rintro w4 ⟨l4, h4, hc4, hv4, _, k4⟩ J _j
      have hn : ¬ ((P.length : Int) < (P.length : Int)) := by omega
      simp only [stp, Nat.reduceAdd, Int.reduceLT, Int.reduceLE, Int.reduceEq, Int.reduceNe, ne_eq, bne_self_eq_false, beq_self_eq_true, hn]
      exact main _ (fun w' v' h1 h2 h3 => q1' w' v' h1 h2 h3) _ ⟨l4, h4, hc4, hend l4 hv4, k3.none.trans k4⟩
  · simp only [stp, Nat.reduceAdd, Int.reduceLT, Int.reduceLE, Int.reduceEq, Int.reduceNe, ne_eq, bne_self_eq_false, beq_self_eq_true, hk0]
    rw [ixa hlt]
    simp only [stp, Nat.reduceAdd, Int.reduceLT, Int.reduceLE, Int.reduceEq, Int.reduceNe, ne_eq, bne_self_eq_false, beq_self_eq_true, stm, e3, y0, y1]
    refine parts_c (a := a) (b := b) (w := w2.drew) (hm.keep0 k2d) (by omega) fun w3 v3 o3 k3 => ?_
    have k3 : K0 w2 w3 := k2d.trans k3
    generalize partsL (a, b) l = P at *
    obtain ⟨p3, c3, rfl⟩ := o3.form
    simp only [stp, Nat.reduceAdd, Int.reduceLT, Int.reduceLE, Int.reduceEq, Int.reduceNe, ne_eq, bne_self_eq_false, beq_self_eq_true]
    refine lpc1 P.length (by omega) (fun j w' => ∃ l', TLr w' B t { s with hs := s.hs.set i l' } ms wv ∧ Canon l' ∧ (∀ x, valB l' x = overB (relV 1) (valB l) (valB (P.take j)) x) ∧ l'.length ≤ l.length + 2 * j ∧ Keep (fun b => b = m) w3 w')
      ⟨l, by rw [hset0]; exact h2.keep0 k3, hm.canon, fun x => rfl, by omega, Keep.refl _ _⟩ ?_ ?_
    · rintro j w4 hj ⟨l4, h4, hc4, hv4, hl4, k4⟩ J hJ _j
      have hj' : (j : Int) < (P.length : Int) := by omega
      obtain ⟨f3, f4, f5⟩ := hmapm h4
      obtain ⟨g, rfl, r0, r1, r2⟩ := part_at ((hm.keep0 k3).list (o3.keep (K0.refl _) fun _ _ e => e) (by decide) k4) hj
      simp only [stp, Nat.reduceAdd, Int.reduceLT, Int.reduceLE, Int.reduceEq, Int.reduceNe, ne_eq, bne_self_eq_false, beq_self_eq_true, hj']
      refine jn0 (fun w' => ∃ l', TLr w' B t { s with hs := s.hs.set i l' } ms wv ∧ Canon l' ∧ (∀ x, valB l' x = overB (relV 1) (valB l) (valB (P.take (j + 1))) x) ∧ l'.length ≤ l.length + 2 * (j + 1) ∧ Keep (fun b => b = m) w3 w') (fun J1 hJ1 => ?_) ?_
      · rw [ix_65 hj, Nat.zero_add]
        simp only [stp, Nat.reduceAdd, Int.reduceLT, Int.reduceLE, Int.reduceEq, Int.reduceNe, ne_eq, bne_self_eq_false, beq_self_eq_true, stm, r0, r1, r2]
        have hP0 := hPd _ (List.getElem_mem hj)
        have hT := fun x => over_take (F := relV 1) (H := valB l) hPc.apart hj x
        generalize P[j] = p at *
        have b5 : blk (w4.alloc (.cells #[.int .i64 p.1.1, .int .i64 p.1.2, .int .i64 p.2] 68)) (siz w4) = some (.cells #[.int .i64 p.1.1, .int .i64 p.1.2, .int .i64 p.2] 68) := blk_alloc_new
        have k5 : K0 w4 (w4.alloc (.cells #[.int .i64 p.1.1, .int .i64 p.1.2, .int .i64 p.2] 68)) := (K0.refl w4).alloc _
        generalize w4.alloc (.cells #[.int .i64 p.1.1, .int .i64 p.1.2, .int .i64 p.2] 68) = w5 at b5 k5
        have d0 : cel w5 (siz w4) 0 = some (.int .i64 p.1.1) := by rw [cel_b b5]; rfl
        have d1 : cel w5 (siz w4) 1 = some (.int .i64 p.1.2) := by rw [cel_b b5]; rfl
        have d2 : cel w5 (siz w4) 2 = some (.int .i64 p.2) := by rw [cel_b b5]; rfl
        by_cases hle : p.2 ≤ 1
        · simp only [stp, Nat.reduceAdd, Int.reduceLT, Int.reduceLE, Int.reduceEq, Int.reduceNe, ne_eq, bne_self_eq_false, beq_self_eq_true, stm, d2, hle]
          refine hJ1 _ ⟨l4, h4.keep0 k5, hc4, fun x => ?_, by omega, k4.trans k5.none⟩
          rw [hT, ← hv4]
          by_cases hx : hasB p.1 x
          · rw [if_pos hx]; unfold relV; rw [if_pos hle]
          · rw [if_neg hx]
        simp only [stp, Nat.reduceAdd, Int.reduceLT, Int.reduceLE, Int.reduceEq, Int.reduceNe, ne_eq, bne_self_eq_false, beq_self_eq_true, stm, d2, hle]
        rw [ixa hlt]
        have f3' := k5.cel f3 (by exact fun h => h)
        simp only [stp, Nat.reduceAdd, Int.reduceLT, Int.reduceLE, Int.reduceEq, Int.reduceNe, ne_eq, bne_self_eq_false, beq_self_eq_true, stm, f3', d0, d1]
        have h5 := h4.keep0 (k5.drew)
        refine set_any (v := 1) (f4.keep0 k5.drew) (by omega) fun w6 l6 r6 m6 hv6 hl6 k6 => ?_
        have hd6 : Bd 4096 l6 := bd_of_val m6.canon fun x hx => by
          rw [hv6]; split
          · rename_i hxx
            have h1 := hxx.2.2
            dsimp only at h1
            omega
          · exact val_of_bd f5 hx
        have h6 := h5.turn e1 k6 m6 hd6
        rw [List.set_set] at h6
        refine hJ1 _ ⟨l6, h6, m6.canon, fun x => ?_, by omega, (k4.trans k5.drew.none).trans k6⟩
        rw [hT, hv6, hv4]
        unfold relV
        rw [if_neg hle, if_neg hk0]
      · rintro w5 h5 _j
        exact hJ _ h5
    · rintro w4 ⟨l4, h4, hc4, hv4, _, k4⟩ J _j
      have hn : ¬ ((P.length : Int) < (P.length : Int)) := by omega
      simp only [stp, Nat.reduceAdd, Int.reduceLT, Int.reduceLE, Int.reduceEq, Int.reduceNe, ne_eq, bne_self_eq_false, beq_self_eq_true, hn]
      exact main _ (fun w' v' h1 h2 h3 => q1' w' v' h1 h2 h3) _ ⟨l4, h4, hc4, hend l4 hv4, k3.none.trans k4⟩
end
end Go.Proofs.Ytiomanikpboclaa
