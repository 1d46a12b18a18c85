/- The table of locks: who waits; what one node is to let go. Conditions: as each says. -/
import Derived.Test.YtcekmdpiloegcaaGreatTabD
set_option linter.unusedSimpArgs false
set_option linter.unusedVariables false
namespace Go.Proofs.YtcekmdpiloegcaaGreat
open Go.Sh Go.Proofs.YtcekmdpiloegcaaGreat.Mi
set_option maxRecDepth 100000
section
variable {w w' : World} {Q : Value → World → Prop} {B t : Nat} {s : TS}
theorem wclone_c {v : Value} {n : Nat} {xs : List Value} (h : Rd 5 w v n xs) (h1 : ∀ u ∈ xs, Go.Sh.one u = true) (hn : n ≤ 1000000) (hq : ∀ w' v', Own w' (siz w) 50 5 v' n xs → K0 w w' → Q v' w') :
    callS Tryz.prog 34 #[v] Q w := by
  refine ref34 ?_
  unfold S34
  obtain ⟨a, c, rfl⟩ := h.form
  cases a with
  | none =>
    simp only [stp, Nat.reduceAdd, Int.reduceLT, Int.reduceLE, Int.reduceEq, Int.reduceNe, ne_eq, bne_self_eq_false, beq_self_eq_true, stm]
    rcases h.2 with ⟨rfl, _⟩ | ⟨b, o, c', e, _⟩
    · have hx : xs = [] := List.length_eq_zero_iff.1 (by simpa using h.1)
      subst hx
      exact hq w _ (Own.nil _ _ _ _) (Keep.refl _ _)
    · cases e
  | some a =>
    simp only [stp, Nat.reduceAdd, Int.reduceLT, Int.reduceLE, Int.reduceEq, Int.reduceNe, ne_eq, bne_self_eq_false, beq_self_eq_true, stm]
    have k1 := (Keep.refl (fun _ => False) w).alloc (.cells #[] 50)
    have s1 : siz (w.alloc (.cells #[] 50)) = siz w + 1 := siz_alloc
    have o1 : Own (w.alloc (.cells #[] 50)) (siz w) 50 5 (.slice (some ⟨siz w, 0, none⟩) 0 0) 0 [] := Own.empty (Nat.le_refl _)
    have r1 := h.keep0 k1
    generalize w.alloc (.cells #[] 50) = w1 at k1 s1 o1 r1
    rcases Nat.eq_zero_or_pos n with rfl | hp
    · have hx : xs = [] := List.length_eq_zero_iff.1 (by simpa using h.1)
      subst hx
      rw [ap0_35 o1]
      exact hq _ _ o1 k1
    · obtain ⟨b, o, c', e, hc', hcel⟩ := r1.at hp
      injection e with e1 _ e2
      injection e1 with e1
      subst e1 e2
      refine ap_35 o1 r1.len hcel h1 (by omega) (by omega) fun v' w' ho hg hr => ?_
      rw [Nat.zero_add] at ho
      exact hq _ _ ho (k1.grown hg fun g hg' => .inr (by cases hg'; exact Nat.le_refl _))
theorem flat5_one {l : List I5} : ∀ u ∈ flat enc5 l, Go.Sh.one u = true := fun u hu => by
  obtain ⟨k, _, hk⟩ := List.mem_flatMap.1 (show u ∈ l.flatMap enc5 from hu)
  have hk : u ∈ [Value.int .i64 k.1, .int .i64 k.2.1, .int .i64 k.2.2.1, .int .i64 k.2.2.2.1, .int .i64 k.2.2.2.2] := hk
  simp only [List.mem_cons, List.not_mem_nil, or_false] at hk
  rcases hk with rfl | rfl | rfl | rfl | rfl <;> exact one_int
theorem twaits_c (h : TL w B t s) (hl : s.ws.length ≤ 1000000) (hq : ∀ w' v', Own w' (siz w) 50 5 v' s.ws.length (flat enc5 s.ws) → K0 w w' → Q v' w') :
    callS Tryz.prog 13 #[.pointer (some ⟨t, 0, none⟩)] Q w := by
  refine ref13 ?_
  unfold S13
  obtain ⟨ms, wv, h⟩ := h
  have c18 := h.c18
  have o := h.wr
  obtain ⟨pa, ca, rfl⟩ := o.form
  simp only [stp, Nat.reduceAdd, Int.reduceLT, Int.reduceLE, Int.reduceEq, Int.reduceNe, ne_eq, bne_self_eq_false, beq_self_eq_true, stm, c18]
  exact wclone_c o.rd flat5_one hl hq
def keepsF (asked held : Int) : Int := if asked = 1 ∧ held = 2 then 1 else 0
theorem keeps_c {a b : Int} (hq : Q (.int .i64 (keepsF a b)) w) : callS Tryz.prog 51 #[.int .i64 a, .int .i64 b] Q w := by
  refine ref51 ?_
  unfold S51
  unfold keepsF at hq
  by_cases h1 : a = 1
  · by_cases h2 : b = 2
    · rw [if_pos ⟨h1, h2⟩] at hq
      simp only [stp, Nat.reduceAdd, Int.reduceLT, Int.reduceLE, Int.reduceEq, Int.reduceNe, ne_eq, bne_self_eq_false, beq_self_eq_true, h1, h2]
      exact hq
    · rw [if_neg fun h => h2 h.2] at hq
      simp only [stp, Nat.reduceAdd, Int.reduceLT, Int.reduceLE, Int.reduceEq, Int.reduceNe, ne_eq, bne_self_eq_false, beq_self_eq_true, h1, h2]
      exact hq
  · rw [if_neg fun h => h1 h.1] at hq
    simp only [stp, Nat.reduceAdd, Int.reduceLT, Int.reduceLE, Int.reduceEq, Int.reduceNe, ne_eq, bne_self_eq_false, beq_self_eq_true, h1]
    exact hq
/-- What is told of a block: how much may be kept, where it was not told already. -/
def revV (told : Option Int) (kp : Int) : Option Int := match told with | some q => if q ≤ kp + 1 then none else some kp | none => some kp
def revB (held told : Int → Option Int) (sp : Sp) (md x : Int) : Option Int :=
  if hasB sp x then (match held x with | some v => if fitP v md then none else revV (told x) (keepsF md v) | none => none) else none
def tellG (kp : Int) (h : Option Int) (q : Int) : Option Int := if q ≤ kp + 1 then none else h
def revX (told : Int → Option Int) (md x : Int) (h : Option Int) (v : Int) : Option Int := if fitP v md then h else revV (told x) (keepsF md v)
theorem revB_over (held told : List (Pt Int)) (hc : Canon held) (sp : Sp) (md x : Int) : overX (revX (valB told) md) (fun _ => none) (valB (partsL sp held)) x = revB (valB held) (valB told) sp md x := by
  unfold overX revB
  rw [partsL_val _ _ hc.1]
  by_cases h : hasB sp x
  · rw [if_pos h, if_pos h]
    cases valB held x <;> rfl
  · rw [if_neg h, if_neg h]
theorem K0.ofNew {F : Nat → Prop} (k : Keep F w w') (h : ∀ b, F b → siz w ≤ b) : K0 w w' := k.mono fun b hb e => by have := h b e; omega
theorem revoked_c {i mt : Nat} {a b md : Int} {lt : List (Pt Int)} (h : TL w B t s) (hi : 1 ≤ i) (hi' : (i : Int) ≤ s.nodes) (ht : IM w mt lt) (hlt : Bd 4096 lt)
    (hq : ∀ w' v' lm, Canon lm → Bd 4096 lm → (∀ x, valB lm x = revB (bl s i) (valB lt) (a, b) md x) → Own w' (siz w) 29 3 v' (asLocks lm).length (flat enc3 (asLocks lm)) → K0 w w' → Q v' w') :
    callS Tryz.prog 35 #[.pointer (some ⟨t, 0, none⟩), .int .i64 (i : Int), .agg #[.int .i64 a, .int .i64 b, .int .i64 md], .pointer (some ⟨mt, 0, none⟩)] Q w := by
  refine ref35 ?_
  unfold S35
  obtain ⟨ms, wv, h⟩ := h
  have hlti : i < 17 := by have := h.nn.2; omega
  simp only [stp, Nat.reduceAdd, Int.reduceLT, Int.reduceLE, Int.reduceEq, Int.reduceNe, ne_eq, bne_self_eq_false, beq_self_eq_true, stm, act_box, agg_cells]
  have b1 : blk (w.alloc (.cells #[.int .i64 a, .int .i64 b, .int .i64 md] 29)) (siz w) = some (.cells #[.int .i64 a, .int .i64 b, .int .i64 md] 29) := blk_alloc_new
  have k1 : K0 w (w.alloc (.cells #[.int .i64 a, .int .i64 b, .int .i64 md] 29)) := (K0.refl w).alloc _
  have s1 : siz w < siz (w.alloc (.cells #[.int .i64 a, .int .i64 b, .int .i64 md] 29)) := blk_lt b1
  generalize w.alloc (.cells #[.int .i64 a, .int .i64 b, .int .i64 md] 29) = w1 at b1 k1 s1
  refine new_c fun w2 m2 k2 => ?_
  have s2 := m2.lt
  have b2 := k2.blk b1 (by exact fun h => h)
  have h2 := (h.keep0 k1).keep0 k2
  obtain ⟨m, l, e1, e2, e3, hm, hd⟩ := h2.node hlti
  have hl := canon_len (n := 4096) hm.canon hd
  have hlm := canon_len (n := 4096) ht.canon hlt
  have hbl : bl s i = valB l := by unfold bl; rw [e2]; rfl
  have x0 : cel w2 (siz w) 0 = some (.int .i64 a) := by rw [cel_b b2]; rfl
  have x1 : cel w2 (siz w) 1 = some (.int .i64 b) := by rw [cel_b b2]; rfl
  rw [ixa hlti]
  simp only [stp, Nat.reduceAdd, Int.reduceLT, Int.reduceLE, Int.reduceEq, Int.reduceNe, ne_eq, bne_self_eq_false, beq_self_eq_true, stm, e3, x0, x1]
  refine parts_c (a := a) (b := b) (w := w2.drew) (hm.keep0 (K0.refl w2).drew) (by omega) fun w3 v3 o3 k3 => ?_
  have k3 : K0 w2 w3 := ((K0.refl w2).drew).trans k3
  have hPl := partsL_len (a, b) l
  have hPc := partsL_canon (s := (a, b)) hm.canon
  have hPd : ∀ p ∈ partsL (a, b) l, p.1.2 ≤ 4096 := fun p hp => by
    obtain ⟨q, hq, _, rfl⟩ := partsL_mem hp
    have := hd q hq
    show min q.1.2 b ≤ 4096
    omega
  have hend : ∀ lm : List (Pt Int), (∀ x, valB lm x = overX (revX (valB lt) md) (fun _ => none) (valB ((partsL (a, b) l).take (partsL (a, b) l).length)) x) → ∀ x, valB lm x = revB (bl s i) (valB lt) (a, b) md x := fun lm h x => by
    rw [h, List.take_length, revB_over l lt hm.canon, hbl]
  generalize partsL (a, b) l = P at *
  obtain ⟨p3, c3, rfl⟩ := o3.form
  have kk3 := (k1.trans k2).trans k3
  have m3 := m2.keep0 k3
  have b3 := k3.blk b2 (by exact fun h => h)
  have t3 := ht.keep0 kk3
  have htlt := ht.lt
  simp only [stp, Nat.reduceAdd, Int.reduceLT, Int.reduceLE, Int.reduceEq, Int.reduceNe, ne_eq, bne_self_eq_false, beq_self_eq_true]
  refine lpc1 P.length (by omega) (fun j w' => ∃ lm, IM w' (siz w1) lm ∧ Bd 4096 lm ∧ (∀ x, valB lm x = overX (revX (valB lt) md) (fun _ => none) (valB (P.take j)) x) ∧ Keep (fun b => b = siz w1) w3 w') ⟨[], m3, fun p hp => (by cases hp), fun x => rfl, Keep.refl _ _⟩ ?_ ?_
  · rintro j w4 hj ⟨lm, m4, hd4, hv4, k4⟩ J hJ _j
    have hj' : (j : Int) < (P.length : Int) := by omega
    have hlm4 := canon_len (n := 4096) m4.canon hd4
    obtain ⟨g, rfl, r0, r1, r2⟩ := part_at (m3.list (o3.keep (K0.refl _) fun _ _ e => e) (by decide) k4) hj
    have b4 := k4.blk b3 (by show ¬ siz w = siz w1; omega)
    simp only [stp, Nat.reduceAdd, Int.reduceLT, Int.reduceLE, Int.reduceEq, Int.reduceNe, ne_eq, bne_self_eq_false, beq_self_eq_true, hj']
    refine jn0 (fun w' => ∃ lm, IM w' (siz w1) lm ∧ Bd 4096 lm ∧ (∀ x, valB lm x = overX (revX (valB lt) md) (fun _ => none) (valB (P.take (j + 1))) x) ∧ Keep (fun b => b = siz w1) w3 w') (fun J1 hJ1 => ?_) ?_
    · rw [ix_62 hj, Nat.zero_add]
      simp only [stp, Nat.reduceAdd, Int.reduceLT, Int.reduceLE, Int.reduceEq, Int.reduceNe, ne_eq, bne_self_eq_false, beq_self_eq_true, stm, r0, r1, r2]
      have hP0 := hPc.1 _ (List.getElem_mem hj)
      have hP1 := hPd _ (List.getElem_mem hj)
      have hT := fun x => overX_take (F := revX (valB lt) md) (H := fun _ => none) hPc.apart hj x
      generalize P[j] = p at *
      have b5 : blk (w4.alloc (.cells #[.int .i64 p.1.1, .int .i64 p.1.2, .int .i64 p.2] 65)) (siz w4) = some (.cells #[.int .i64 p.1.1, .int .i64 p.1.2, .int .i64 p.2] 65) := blk_alloc_new
      have k5 : K0 w4 (w4.alloc (.cells #[.int .i64 p.1.1, .int .i64 p.1.2, .int .i64 p.2] 65)) := (K0.refl w4).alloc _
      have s4 := m4.lt
      generalize w4.alloc (.cells #[.int .i64 p.1.1, .int .i64 p.1.2, .int .i64 p.2] 65) = w5 at b5 k5
      have b45 := k5.blk b4 (by exact fun h => h)
      have d0 : cel w5 (siz w4) 0 = some (.int .i64 p.1.1) := by rw [cel_b b5]; rfl
      have d1 : cel w5 (siz w4) 1 = some (.int .i64 p.1.2) := by rw [cel_b b5]; rfl
      have d2 : cel w5 (siz w4) 2 = some (.int .i64 p.2) := by rw [cel_b b5]; rfl
      have y2 : cel w5 (siz w) 2 = some (.int .i64 md) := by rw [cel_b b45]; rfl
      simp only [stp, Nat.reduceAdd, Int.reduceLT, Int.reduceLE, Int.reduceEq, Int.reduceNe, ne_eq, bne_self_eq_false, beq_self_eq_true, stm, d2, y2]
      refine mfit_c ?_
      by_cases hf : fitP p.2 md
      · rw [decide_eq_true (show isMd p.2 ∧ isMd md ∧ (p.2 = 0 ∨ md = 0 ∨ (p.2 = 1 ∧ md = 1)) from hf)]
        simp only [stp, Nat.reduceAdd, Int.reduceLT, Int.reduceLE, Int.reduceEq, Int.reduceNe, ne_eq, bne_self_eq_false, beq_self_eq_true]
        refine hJ1 _ ⟨lm, m4.keep0 k5, hd4, fun x => ?_, k4.trans k5.none⟩
        rw [hT, ← hv4]
        by_cases hx : hasB p.1 x
        · rw [if_pos hx]; unfold revX; rw [if_pos hf]
        · rw [if_neg hx]
      rw [decide_eq_false (show ¬ (isMd p.2 ∧ isMd md ∧ (p.2 = 0 ∨ md = 0 ∨ (p.2 = 1 ∧ md = 1))) from hf)]
      simp only [stp, Nat.reduceAdd, Int.reduceLT, Int.reduceLE, Int.reduceEq, Int.reduceNe, ne_eq, bne_self_eq_false, beq_self_eq_true, stm, d2, y2]
      refine keeps_c ?_
      simp only [stp, Nat.reduceAdd, Int.reduceLT, Int.reduceLE, Int.reduceEq, Int.reduceNe, ne_eq, bne_self_eq_false, beq_self_eq_true, stm, d0, d1]
      generalize hkp : keepsF md p.2 = kp
      have hkr : kp = 0 ∨ kp = 1 := by rw [← hkp]; unfold keepsF; split <;> omega
      refine set_any (v := kp) (m4.keep0 k5) (by omega) fun w6 l6 r6 m6 hv6 hl6 k6 => ?_
      have hd6 : Bd 4096 l6 := bd_of_val m6.canon fun x hx => by
        rw [hv6]; split
        · rename_i hxx
          have h1 := hxx.2.2
          dsimp only at h1
          omega
        · exact val_of_bd hd4 hx
      have k46 := (k4.trans k5.none).trans k6
      have b6 := k6.blk b5 (by show ¬ siz w4 = siz w1; omega)
      have d0 : cel w6 (siz w4) 0 = some (.int .i64 p.1.1) := by rw [cel_b b6]; rfl
      have d1 : cel w6 (siz w4) 1 = some (.int .i64 p.1.2) := by rw [cel_b b6]; rfl
      have t6 : IM w6 mt lt := t3.keepM m3 (by omega) k46
      simp only [stp, Nat.reduceAdd, Int.reduceLT, Int.reduceLE, Int.reduceEq, Int.reduceNe, ne_eq, bne_self_eq_false, beq_self_eq_true, stm, d0, d1]
      refine parts_c (a := p.1.1) (b := p.1.2) t6 (by omega) fun w7 v7 o7 k7 => ?_
      have hQl := partsL_len p.1 lt
      have hQc := partsL_canon (s := p.1) ht.canon
      have hQv := partsL_val p.1 lt ht.canon.1
      change Own w7 (siz w6) 65 3 v7 (partsL p.1 lt).length (flat enc (partsL p.1 lt)) at o7
      generalize hQ : partsL p.1 lt = R at *
      obtain ⟨p7, c7, rfl⟩ := o7.form
      have m7 := m6.keep0 k7
      have s7 := k7.size
      have s46 := k6.size
      have s45 := k5.size
      simp only [stp, Nat.reduceAdd, Int.reduceLT, Int.reduceLE, Int.reduceEq, Int.reduceNe, ne_eq, bne_self_eq_false, beq_self_eq_true]
      refine lpc1 R.length (by omega) (fun n w' => ∃ l', IM w' (siz w1) l' ∧ Bd 4096 l' ∧ (∀ x, valB l' x = overB (tellG kp) (valB l6) (valB (R.take n)) x) ∧ Keep (fun b => b = siz w1) w7 w') ⟨l6, m7, hd6, fun x => rfl, Keep.refl _ _⟩ ?_ ?_
      · rintro n w8 hn ⟨l8, m8, hd8, hv8, k8⟩ J2 hJ2 _j
        have hn' : (n : Int) < (R.length : Int) := by omega
        have hl8 := canon_len (n := 4096) m8.canon hd8
        obtain ⟨g', rfl, u0, u1, u2⟩ := part_at (m7.list o7 (by decide) k8) hn
        have hT8 := fun x => over_take (F := tellG kp) (H := valB l6) hQc.apart hn x
        simp only [stp, Nat.reduceAdd, Int.reduceLT, Int.reduceLE, Int.reduceEq, Int.reduceNe, ne_eq, bne_self_eq_false, beq_self_eq_true, hn']
        refine jn0 (fun w' => ∃ l', IM w' (siz w1) l' ∧ Bd 4096 l' ∧ (∀ x, valB l' x = overB (tellG kp) (valB l6) (valB (R.take (n + 1))) x) ∧ Keep (fun b => b = siz w1) w7 w') (fun J3 hJ3 => ?_) ?_
        · rw [ix_62 hn, Nat.zero_add]
          simp only [stp, Nat.reduceAdd, Int.reduceLT, Int.reduceLE, Int.reduceEq, Int.reduceNe, ne_eq, bne_self_eq_false, beq_self_eq_true, stm, u0, u1, u2]
          generalize R[n] = q at *
          have b9 : blk (w8.alloc (.cells #[.int .i64 q.1.1, .int .i64 q.1.2, .int .i64 q.2] 65)) (siz w8) = some (.cells #[.int .i64 q.1.1, .int .i64 q.1.2, .int .i64 q.2] 65) := blk_alloc_new
          have k9 : K0 w8 (w8.alloc (.cells #[.int .i64 q.1.1, .int .i64 q.1.2, .int .i64 q.2] 65)) := (K0.refl w8).alloc _
          generalize w8.alloc (.cells #[.int .i64 q.1.1, .int .i64 q.1.2, .int .i64 q.2] 65) = w9 at b9 k9
          have f0 : cel w9 (siz w8) 0 = some (.int .i64 q.1.1) := by rw [cel_b b9]; rfl
          have f1 : cel w9 (siz w8) 1 = some (.int .i64 q.1.2) := by rw [cel_b b9]; rfl
          have f2 : cel w9 (siz w8) 2 = some (.int .i64 q.2) := by rw [cel_b b9]; rfl
          have hw : IntKind.i64.wrap (kp + 1) = kp + 1 := wrap_id (by omega) (by omega)
          by_cases hle : q.2 ≤ kp + 1
          · simp only [stp, Nat.reduceAdd, Int.reduceLT, Int.reduceLE, Int.reduceEq, Int.reduceNe, ne_eq, bne_self_eq_false, beq_self_eq_true, stm, f2, hw, hle, f0, f1]
            refine clear_any (m8.keep0 k9) (by omega) fun w10 l10 r10 m10 hv10 hl10 k10 => ?_
            refine hJ3 _ ⟨l10, m10, bd_of_val m10.canon fun x hx => ?_, fun x => ?_, (k8.trans k9.none).trans k10⟩
            · rw [hv10]; split
              · rfl
              · exact val_of_bd hd8 hx
            · rw [hT8, hv10, hv8]
              unfold tellG
              rw [if_pos hle]
          · simp only [stp, Nat.reduceAdd, Int.reduceLT, Int.reduceLE, Int.reduceEq, Int.reduceNe, ne_eq, bne_self_eq_false, beq_self_eq_true, stm, f2, hw, hle]
            refine hJ3 _ ⟨l8, m8.keep0 k9, hd8, fun x => ?_, k8.trans k9.none⟩
            rw [hT8, ← hv8]
            by_cases hx : hasB q.1 x
            · rw [if_pos hx]; unfold tellG; rw [if_neg hle]
            · rw [if_neg hx]
        · rintro w9 h9 _j
          exact hJ2 _ h9
      · rintro w8 ⟨l8, m8, hd8, hv8, k8⟩ J2 _j
        have hn : ¬ ((R.length : Int) < (R.length : Int)) := by omega
        simp only [stp, Nat.reduceAdd, Int.reduceLT, Int.reduceLE, Int.reduceEq, Int.reduceNe, ne_eq, bne_self_eq_false, beq_self_eq_true, hn]
        refine hJ1 _ ⟨l8, m8, hd8, fun x => ?_, (k46.trans k7.none).trans k8⟩
        rw [hT, hv8, List.take_length]
        unfold overB
        rw [hQv]
        have hv6' : valB l6 x = if hasB p.1 x then some kp else valB lm x := hv6 x
        by_cases hx : hasB p.1 x
        · rw [if_pos hx, if_pos hx]
          unfold revX revV
          rw [if_neg hf, hkp]
          cases hvt : valB lt x with
          | none =>
            show valB l6 x = _
            rw [hv6', if_pos hx]
          | some q =>
            show tellG kp (valB l6 x) q = _
            unfold tellG
            rw [hv6', if_pos hx]
        · rw [if_neg hx, if_neg hx]
          show valB l6 x = _
          rw [hv6', if_neg hx, hv4]
    · rintro w5 h5 _j
      exact hJ _ h5
  · rintro w4 ⟨lm, m4, hd4, hv4, k4⟩ J _j
    have hn : ¬ ((P.length : Int) < (P.length : Int)) := by omega
    have hlm4 := canon_len (n := 4096) m4.canon hd4
    have hcl := m4.canon
    simp only [stp, Nat.reduceAdd, Int.reduceLT, Int.reduceLE, Int.reduceEq, Int.reduceNe, ne_eq, bne_self_eq_false, beq_self_eq_true, hn]
    have k04 : K0 w w4 := K0.ofNew (F := fun b => b = siz w1) (kk3.none.trans k4) (fun b e => by omega)
    refine all_c m4 (by omega) fun w5 v5 o5 k5 => ?_
    have s5 := k5.size
    have s04 := k04.size
    obtain ⟨pa, ca, rfl⟩ := o5.form
    simp only [stp, Nat.reduceAdd, Int.reduceLT, Int.reduceLE, Int.reduceEq, Int.reduceNe, ne_eq, bne_self_eq_false, beq_self_eq_true]
    refine lpc2 lm.length (by omega) (fun i x w' => Own w' (siz w5) 29 3 x i (flat enc3 (asLocks (lm.take i))) ∧ K0 w5 w') ⟨Own.nil _ _ _ _, K0.refl _⟩ ?_ ?_
    · rintro n x w6 hn ⟨o6, k6⟩ J2 hJ2 _j
      have hn' : (n : Int) < (lm.length : Int) := by omega
      have hwi := wrap_succ (i := n) (by omega)
      obtain ⟨g', rfl, u0, u1, u2⟩ := part_at (o5.keep k6 fun _ _ e => e) hn
      simp only [stp, Nat.reduceAdd, Int.reduceLT, Int.reduceLE, Int.reduceEq, Int.reduceNe, ne_eq, bne_self_eq_false, beq_self_eq_true, hn']
      rw [ix_62 hn, Nat.zero_add]
      simp only [stp, Nat.reduceAdd, Int.reduceLT, Int.reduceLE, Int.reduceEq, Int.reduceNe, ne_eq, bne_self_eq_false, beq_self_eq_true, stm, u0, u1, u2]
      have k7 := (K0.refl w6).alloc (.cells #[.int .i64 lm[n].1.1, .int .i64 lm[n].1.2, .int .i64 lm[n].2] 65)
      have o7 := o6.keep k7 fun _ _ e => e
      have s7 := k7.size
      have s56 := k6.size
      refine pu_69 o7 (by intro u hu; simp only [List.mem_cons, List.not_mem_nil, or_false] at hu; rcases hu with rfl | rfl | rfl <;> exact one_int) (by omega) (by omega) fun v' w' ho hk hr => ?_
      refine hJ2 _ _ ⟨?_, (k6.trans k7).trans' hk fun b hb e => ?_⟩
      · have e9 : asLocks (lm.take (n + 1)) = asLocks (lm.take n) ++ [(lm[n].1.1, lm[n].1.2, lm[n].2)] := by
          rw [List.take_add_one, List.getElem?_eq_getElem hn, Option.toList_some]; unfold asLocks; rw [List.map_append]; rfl
        rw [e9, flat_append]
        exact ho
      · have := (o7.lt e).1; omega
    · rintro x w6 ⟨o6, k6⟩ J2 _j
      have hn : ¬ ((lm.length : Int) < (lm.length : Int)) := by omega
      rw [List.take_length] at o6
      simp only [stp, Nat.reduceAdd, Int.reduceLT, Int.reduceLE, Int.reduceEq, Int.reduceNe, ne_eq, bne_self_eq_false, beq_self_eq_true, hn]
      exact hq _ _ lm hcl hd4 (hend lm hv4) (by rw [asLocks_len]; exact o6.le (by omega)) ((k04.trans k5).trans k6)
end
end Go.Proofs.YtcekmdpiloegcaaGreat
/- The table of locks: what is to be let go. Conditions: as each says. -/
namespace Go.Proofs.YtcekmdpiloegcaaGreat
open Go.Sh Go.Proofs.YtcekmdpiloegcaaGreat.Mi
set_option maxRecDepth 100000
section
variable {w w' : World} {Q : Value → World → Prop} {B t : Nat} {s : TS}
abbrev R4 := Int × Int × Int × Int
def encR (k : R4) : List Value := [.int .i64 k.1, .int .i64 k.2.1, .int .i64 k.2.2.1, .int .i64 k.2.2.2]
theorem encR_len (k : R4) : (encR k).length = 4 := rfl
/-- What was told of each node, and all that was told. -/
abbrev RS := List (List (Pt Int)) × List R4
def toldB (T : List (List (Pt Int))) (n : Nat) : Int → Option Int := valB (T[n]?.getD [])
def toldN (f told : Int → Option Int) (x : Int) : Option Int := match f x with | some v => some (v + 1) | none => told x
def revN (s : TS) (k : I5) (T : List (List (Pt Int))) (n : Nat) : Int → Option Int := revB (bl s n) (toldB T n) (k.2.2.1, k.2.2.2.1) k.2.2.2.2
def asR (n : Nat) (l : List (Pt Int)) : List R4 := l.map fun p => ((n : Int), p.1.1, p.1.2, p.2)
def rev1 (s : TS) (k : I5) (g : RS) (n : Nat) : RS :=
  if (n : Int) = k.2.1 then g else (g.1.set n (canonL (toldN (revN s k g.1 n) (toldB g.1 n))), g.2 ++ asR n (canonL (revN s k g.1 n)))
/-- The nodes 1..n. -/
def revK (s : TS) (k : I5) (g : RS) : Nat → RS
  | 0 => g
  | n + 1 => rev1 s k (revK s k g n) (n + 1)
def revG (s : TS) (W : List I5) : RS := W.foldl (fun g k => revK s k g s.nodes.toNat) (List.replicate 17 [], [])
def revF (s : TS) : List R4 := (revG s s.ws).2
theorem revG_snoc (s : TS) (W : List I5) (k : I5) : revG s (W ++ [k]) = revK s k (revG s W) s.nodes.toNat := by unfold revG; rw [List.foldl_append]; rfl
structure TA (w : World) (A ta : Nat) (tms : List Nat) (T : List (List (Pt Int))) : Prop where
  b : blk w ta = some (.cells (ptrs tms).toArray 52)
  n : tms.length = 17
  tn : T.length = 17
  h : ∀ (i : Nat) (m : Nat) (l : List (Pt Int)), tms[i]? = some m → T[i]? = some l → IM w m l ∧ Bd 4096 l
  nd : tms.Nodup
  ge : A ≤ ta
  gm : ∀ m ∈ tms, A ≤ m
theorem TA.keepF {A ta : Nat} {tms : List Nat} {T : List (List (Pt Int))} {F : Nat → Prop} (h : TA w A ta tms T) (k : Keep F w w') (hF : ∀ b, F b → ∃ x u, blk w b = some (.cells x u) ∧ u ≠ 76 ∧ u ≠ 65 ∧ u ≠ 52) : TA w' A ta tms T :=
  { h with
    b := k.blk h.b fun e => by
      obtain ⟨x, u, h1, _, _, h3⟩ := hF _ e
      exact ne_of_ty h.b h1 (Ne.symm h3) rfl
    h := fun i m l h1 h2 => ⟨im_keepF (h.h i m l h1 h2).1 k fun b hb => by obtain ⟨x, u, q1, q2, q3, _⟩ := hF b hb; exact ⟨x, u, q1, q2, q3⟩, (h.h i m l h1 h2).2⟩ }
theorem TA.keep0 {A ta : Nat} {tms : List Nat} {T : List (List (Pt Int))} (h : TA w A ta tms T) (k : K0 w w') : TA w' A ta tms T := h.keepF k fun _ e => e.elim
theorem TA.node {A ta : Nat} {tms : List Nat} {T : List (List (Pt Int))} (h : TA w A ta tms T) {i : Nat} (hi : i < 17) : ∃ m l, tms[i]? = some m ∧ T[i]? = some l ∧ cel w ta i = some (.pointer (some ⟨m, 0, none⟩)) ∧ IM w m l ∧ Bd 4096 l ∧ A ≤ m := by
  have h1 : i < tms.length := by rw [h.n]; exact hi
  have h2 : i < T.length := by rw [h.tn]; exact hi
  refine ⟨tms[i], T[i], List.getElem?_eq_getElem h1, List.getElem?_eq_getElem h2, ?_, (h.h i _ _ (List.getElem?_eq_getElem h1) (List.getElem?_eq_getElem h2)).1, (h.h i _ _ (List.getElem?_eq_getElem h1) (List.getElem?_eq_getElem h2)).2, h.gm _ (List.getElem_mem h1)⟩
  rw [cel_b h.b, List.getElem?_toArray]
  simp [ptrs, List.getElem?_map, List.getElem?_eq_getElem h1]
theorem TA.turn {A ta i m : Nat} {tms : List Nat} {T : List (List (Pt Int))} {l' : List (Pt Int)} (h : TA w A ta tms T) (hi : tms[i]? = some m) (k : Keep (fun b => b = m) w w') (hm : IM w' m l') (hd : Bd 4096 l') : TA w' A ta tms (T.set i l') := by
  have hlt : i < tms.length := (List.getElem?_eq_some_iff.1 hi).1
  obtain ⟨m0, l0, e1, _, _, hm0, _⟩ := h.node (i := i) (by rw [← h.n]; exact hlt)
  have e : m0 = m := by rw [hi] at e1; injection e1 with e1; exact e1.symm
  subst e
  obtain ⟨_, hb0⟩ := im_blk hm0
  exact { h with
    b := k.blk h.b fun e => ne_of_ty h.b hb0 (by decide) e
    tn := by rw [List.length_set]; exact h.tn
    h := fun j n l h1 h2 => by
      by_cases hij : j = i
      · subst hij
        rw [hi] at h1
        injection h1 with h1
        subst h1
        rw [List.getElem?_set_self (by rw [h.tn, ← h.n]; exact hlt)] at h2
        injection h2 with h2
        subst h2
        exact ⟨hm, hd⟩
      · rw [List.getElem?_set_ne (Ne.symm hij)] at h2
        obtain ⟨q1, q2⟩ := h.h j n l h1 h2
        have hjl : j < tms.length := (List.getElem?_eq_some_iff.1 h1).1
        refine ⟨q1.keepM hm0 (fun e => hij ?_) k, q2⟩
        subst e
        exact (List.getElem?_inj hjl h.nd).1 (h1.trans hi.symm) }
def P14_2 (J_1 : Cur 2) (t25 : Value) (t4 : Value) (t7 : Value) (v_out : Value) (v_t : Value) (w_7 : World) : Prop :=
 lp 2 (fun J_2 => fun v_out_1 v_node w_8 => ∀ _j : Fr, 
   pur Tryz.prog (nilV v_t) fun t31 => 
   pur Tryz.prog (Instr.fieldAt 54 t31 0) fun t32 => 
   rd Tryz.prog (Instr.loadAt 3 t32) (fun t33 => 
   pur Tryz.prog (binS .leq 3 false false v_node t33) fun t34 => 
   condS t34
    (jn 1 (fun J_3 => 
    pur Tryz.prog (Instr.fieldAt 50 t7 1) fun t38 => 
    rd Tryz.prog (Instr.loadAt 3 t38) (fun t39 => 
    pur Tryz.prog (binS .eql 3 false false v_node t39) fun t40 => 
    condS t40
     (J_3 v_out_1 w_8)
     (pur Tryz.prog (Instr.fieldAt 50 t7 2) fun t43 => 
    rd Tryz.prog (Instr.loadAt 29 t43) (fun t44 => 
    pur Tryz.prog (Instr.indexAt 52 t4 v_node) fun t46 => 
    rd Tryz.prog (Instr.loadAt 51 t46) (fun t47 => 
    callS Tryz.prog 35 #[v_t, v_node, t44, t47] (fun t48 w_9 => 
    pur Tryz.prog (Builtin.len_ #[69] 3 #[t48]) fun t49 => 
    lp 2 (fun J_4 => fun v_out_2 t50 w_10 => ∀ _j : Fr, 
     pur Tryz.prog (binS .lss 3 false false t50 t49) fun t51 => 
     condS t51
      (pur Tryz.prog (Instr.indexAt 69 t48 t50) fun t52 => 
     rd Tryz.prog (Instr.loadAt 29 t52) (fun t53 => 
     act Tryz.prog (Instr.alloc 29 true (.tuple #[])) (fun t10 w_11 => 
     act Tryz.prog (thenU (Instr.storeAt 29 t10 t53)) (fun _ w_12 => 
     rd Tryz.prog (Instr.loadAt 29 t10) (fun t56 => 
     pur Tryz.prog (Instr.build 47 #[(0, v_node), (1, t56)]) fun t57 => 
     act Tryz.prog (Instr.buildSlice 44 1 #[(0, t57)]) (fun t58 w_13 => 
     act Tryz.prog (Builtin.append_ #[44, 44] 44 #[v_out_2, t58]) (fun t59 w_14 => 
     pur Tryz.prog (Instr.indexAt 52 t4 v_node) fun t61 => 
     rd Tryz.prog (Instr.loadAt 51 t61) (fun t62 => 
     pur Tryz.prog (Instr.fieldAt 29 t10 0) fun t63 => 
     rd Tryz.prog (Instr.loadAt 27 t63) (fun t64 => 
     pur Tryz.prog (Instr.fieldAt 29 t10 1) fun t65 => 
     rd Tryz.prog (Instr.loadAt 3 t65) (fun t66 => 
     pur Tryz.prog (binS .add 3 false true t66 (.int .i64 1)) fun t67 => 
     callS Tryz.prog 25 #[t62, t64, t67] (fun _ w_15 => 
     pur Tryz.prog (binS .add 3 false true t50 (.int .i64 1)) fun t69 => 
     J_4 t59 t69 w_15) (World.drew w_14)) (World.drew w_14)) (World.drew w_14)) (World.drew w_14)) w_13) w_12) w_12) w_11) w_10) w_10)
      (J_3 v_out_2 w_10)) [v_out_1, (.int .i64 0)] w_9) (World.drew w_8)) (World.drew w_8)) (World.drew w_8))) w_8)
   (fun v_out_3 w_16 => ∀ _j : Fr, 
    pur Tryz.prog (binS .add 3 false true v_node (.int .i64 1)) fun t36 => 
    J_2 v_out_3 t36 w_16))
    (pur Tryz.prog (binS .add 3 false true t25 (.int .i64 1)) fun t70 => 
  J_1 v_out_1 t70 w_8)) w_8) [v_out, (.int .i64 1)] w_7
def P14_1 (t4 : Value) (v_t : Value) (w_2 : World) (Q : Value → World → Prop) : Prop :=
 pur Tryz.prog (nilV v_t) fun t21 => 
 pur Tryz.prog (Instr.fieldAt 54 t21 2) fun t22 => 
 rd Tryz.prog (Instr.loadAt 35 t22) (fun t23 => 
 pur Tryz.prog (Builtin.len_ #[35] 3 #[t23]) fun t24 => 
 lp 2 (fun J_1 => fun v_out t25 w_5 => ∀ _j : Fr, 
  pur Tryz.prog (binS .lss 3 false false t25 t24) fun t26 => 
  condS t26
   (pur Tryz.prog (Instr.indexAt 35 t23 t25) fun t27 => 
  rd Tryz.prog (Instr.loadAt 50 t27) (fun t28 => 
  act Tryz.prog (Instr.alloc 50 true (.tuple #[])) (fun t7 w_6 => 
  act Tryz.prog (thenU (Instr.storeAt 50 t7 t28)) (fun _ w_7 => 
  P14_2 J_1 t25 t4 t7 v_out v_t w_7) w_6) w_5) w_5)
   (Q v_out w_5)) [(.slice none 0 0), (.int .i64 0)] w_2) w_2
def P14_0 (v_t : Value) (Q : Value → World → Prop) (w : World) : Prop :=
 rd Tryz.prog (binS .eql 24 false true v_t (.pointer none)) (fun t12 => 
 condS t12
  (Q (.slice none 0 0) w)
  (act Tryz.prog (Instr.alloc 52 true (.tuple #[])) (fun t4 w_1 => 
 lp 1 (fun J => fun t13 w_2 => ∀ _j : Fr, 
  pur Tryz.prog (binS .lss 3 false true t13 (.int .i64 17)) fun t14 => 
  condS t14
   (callS Tryz.prog 15 #[] (fun t17 w_3 => 
  pur Tryz.prog (Instr.indexAt 52 t4 t13) fun t18 => 
  act Tryz.prog (thenU (Instr.storeAt 51 t18 t17)) (fun _ w_4 => 
  pur Tryz.prog (binS .add 3 false true t13 (.int .i64 1)) fun t19 => 
  J t19 w_4) w_3) w_2)
   (P14_1 t4 v_t w_2 Q)) [(.int .i64 0)] w_1) w)) w
theorem cut14 (v_t : Value) (Q : Value → World → Prop) (w : World) : S14 v_t Q w = P14_0 v_t Q w := rfl
-- P14_1 t4 v_t w_2 Q
-- P14_2 J_1 t25 t4 t7 v_out v_t w_7
end
end Go.Proofs.YtcekmdpiloegcaaGreat
/- The table of locks: what is to be let go for one request. Conditions: as each says. -/
namespace Go.Proofs.YtcekmdpiloegcaaGreat
open Go.Sh Go.Proofs.YtcekmdpiloegcaaGreat.Mi
set_option maxRecDepth 100000
section
variable {w w' : World} {Q : Value → World → Prop} {B t : Nat} {s : TS}
theorem revB_val {held told : Int → Option Int} {sp : Sp} {md x v : Int} (h : revB held told sp md x = some v) : (v = 0 ∨ v = 1) ∧ hasB sp x ∧ ∃ u, held x = some u := by
  unfold revB at h
  by_cases hx : hasB sp x
  · rw [if_pos hx] at h
    cases hv : held x with
    | none => rw [hv] at h; cases h
    | some u =>
      rw [hv] at h
      dsimp only at h
      refine ⟨?_, hx, u, rfl⟩
      split at h
      · cases h
      · have hk : keepsF md u = 0 ∨ keepsF md u = 1 := by unfold keepsF; split <;> omega
        unfold revV at h
        cases ht : told x with
        | none => rw [ht] at h; injection h with h; omega
        | some q =>
          rw [ht] at h
          dsimp only at h
          split at h
          · cases h
          · injection h with h; omega
  · rw [if_neg hx] at h; cases h
/-- What the telling turns. -/
abbrev rp : Obj → Bool := tys [76, 47]
def stepT (_ : Option Int) (v : Int) : Option Int := some (v + 1)
theorem push_rev {A n ty : Nat} {v : Value} {xs : List Value} {k : R4} {J : Value → World → Prop} (ho : Own w A 47 4 v n xs) (hn : n ≤ 1000000000) (hA : A ≤ siz w)
    (hk : ∀ v' w', Own w' A 47 4 v' (n + 1) (xs ++ encR k) → Keep (fun b => v.ownBlock = some b) w w' → (∀ g, v'.ownBlock = some g → v.ownBlock = some g ∨ siz w ≤ g) → J v' w') :
    act Tryz.prog (Builtin.append_ #[44, 44] ty #[v, .slice (some ⟨siz w, 0, none⟩) 1 1]) J (w.alloc (.cells #[.int .i64 k.1, .int .i64 k.2.1, .int .i64 k.2.2.1, .int .i64 k.2.2.2] 47)) :=
  pu_44 ho (by intro u hu; simp only [List.mem_cons, List.not_mem_nil, or_false] at hu; rcases hu with rfl | rfl | rfl | rfl <;> exact one_int) (by omega) hA hk
theorem asR_len (n : Nat) (l : List (Pt Int)) : (asR n l).length = l.length := by simp [asR]
theorem rev_nodes {J1 : Cur 2} {iv xo : Value} {ta t7 : Nat} {tms : List Nat} {k : I5} {g : RS} {w0 : World} (h0 : TL w0 B t s) (k0 : K0 w0 w) (hA : TA w (siz w0) ta tms g.1)
    (hb7 : blk w t7 = some (.cells #[.int .i64 k.1, .int .i64 k.2.1, .int .i64 k.2.2.1, .int .i64 k.2.2.2.1, .int .i64 k.2.2.2.2] 50)) (ho : Own w (siz w0) 47 4 xo g.2.length (flat encR g.2)) (hl : g.2.length ≤ 800000000)
    (hJ : ∀ xo' w', K0 w0 w' → TA w' (siz w0) ta tms (revK s k g s.nodes.toNat).1 → Own w' (siz w0) 47 4 xo' (revK s k g s.nodes.toNat).2.length (flat encR (revK s k g s.nodes.toNat).2) → (revK s k g s.nodes.toNat).2.length ≤ g.2.length + 80000 →
      KO (siz w0) rp w w' → pur Tryz.prog (binS .add 3 false true iv (.int .i64 1)) fun t70 => J1 xo' t70 w') :
    P14_2 J1 iv (.pointer (some ⟨ta, 0, none⟩)) (.pointer (some ⟨t7, 0, none⟩)) xo (.pointer (some ⟨t, 0, none⟩)) w := by
  unfold P14_2
  obtain ⟨ms, wv, hs⟩ := id (h0.keep0 k0)
  have hnn := hs.nn
  have toK : ∀ {w'}, KO (siz w0) rp w w' → K0 w0 w' := fun k => k0.trans' (k.below (Nat.le_refl _)) fun b hb e => by omega
  refine lp2 (fun mm x y w' => ∃ n : Nat, (n : Int) ≤ s.nodes ∧ y = .int .i64 ((n + 1 : Nat) : Int) ∧ mm = 17 - n ∧ TA w' (siz w0) ta tms (revK s k g n).1 ∧ Own w' (siz w0) 47 4 x (revK s k g n).2.length (flat encR (revK s k g n).2) ∧ (revK s k g n).2.length ≤ g.2.length + 5000 * n ∧ KO (siz w0) rp w w') 17
    ⟨0, by omega, rfl, rfl, hA, ho, Nat.le_refl _, KO.refl _ _ _⟩ ?_
  rintro mm x y w1 ⟨n, hn, rfl, rfl, a1, o1, hl1, k1⟩ J hJ2 _j
  have h1 := h0.keep0 (toK k1)
  obtain ⟨_, _, h1r⟩ := id h1
  have c0 := h1r.c0
  by_cases hle : ((n + 1 : Nat) : Int) ≤ s.nodes
  case neg =>
    simp only [stp, Nat.reduceAdd, Int.reduceLT, Int.reduceLE, Int.reduceEq, Int.reduceNe, ne_eq, bne_self_eq_false, beq_self_eq_true, stm, c0, hle]
    have e : s.nodes.toNat = n := by omega
    rw [e] at hJ
    exact hJ x w1 (toK k1) a1 o1 (by omega) k1
  have hlt : n + 1 < 17 := by omega
  have hwr : IntKind.i64.wrap (((n + 1 : Nat) : Int) + 1) = ((n + 1 + 1 : Nat) : Int) := wrap_succ (by omega)
  have b17 := k1.blk hb7 rfl
  obtain ⟨z0, z1, z2, z3, z4⟩ := wait_cells b17
  simp only [stp, Nat.reduceAdd, Int.reduceLT, Int.reduceLE, Int.reduceEq, Int.reduceNe, ne_eq, bne_self_eq_false, beq_self_eq_true, stm, c0, hle]
  refine jn1 (fun x' w' => TA w' (siz w0) ta tms (revK s k g (n + 1)).1 ∧ Own w' (siz w0) 47 4 x' (revK s k g (n + 1)).2.length (flat encR (revK s k g (n + 1)).2) ∧ (revK s k g (n + 1)).2.length ≤ g.2.length + 5000 * (n + 1) ∧ KO (siz w0) rp w w') (fun J3 hJ3 => ?_) ?_
  · have hst : revK s k g (n + 1) = rev1 s k (revK s k g n) (n + 1) := rfl
    rw [hst] at hJ3
    generalize revK s k g n = g1 at *
    by_cases hon : ((n + 1 : Nat) : Int) = k.2.1
    · simp only [stp, Nat.reduceAdd, Int.reduceLT, Int.reduceLE, Int.reduceEq, Int.reduceNe, ne_eq, bne_self_eq_false, beq_self_eq_true, stm, z1, hon]
      refine hJ3 _ _ ?_
      unfold rev1
      rw [if_pos hon]
      exact ⟨a1, o1, by omega, k1⟩
    have hst1 : rev1 s k g1 (n + 1) = (g1.1.set (n + 1) (canonL (toldN (revN s k g1.1 (n + 1)) (toldB g1.1 (n + 1)))), g1.2 ++ asR (n + 1) (canonL (revN s k g1.1 (n + 1)))) := by unfold rev1; rw [if_neg hon]
    rw [hst1] at hJ3
    simp only [stp, Nat.reduceAdd, Int.reduceLT, Int.reduceLE, Int.reduceEq, Int.reduceNe, ne_eq, bne_self_eq_false, beq_self_eq_true, stm, z1, hon, z2, z3, z4]
    obtain ⟨m, l, e1, e2, e3, hm, hd, hmA⟩ := a1.node hlt
    rw [ixa hlt, Nat.zero_add]
    simp only [stp, Nat.reduceAdd, Int.reduceLT, Int.reduceLE, Int.reduceEq, Int.reduceNe, ne_eq, bne_self_eq_false, beq_self_eq_true, stm, e3]
    have k1d : K0 w1 w1.drew := (K0.refl w1).drew
    refine revoked_c (i := n + 1) (h1.keep0 k1d) (by omega) hle (hm.keep0 k1d) hd fun w2 v2 lm hcm hdm hvm o2 k2 => ?_
    have k2 : K0 w1 w2 := k1d.trans k2
    have hT : toldB g1.1 (n + 1) = valB l := by unfold toldB; rw [e2]; rfl
    have hfl : canonL (revN s k g1.1 (n + 1)) = lm := canonL_eq hcm hdm fun x => by rw [hvm]; unfold revN; rw [hT]
    rw [hfl] at hJ3
    have hlm := canon_len (n := 4096) hcm hdm
    have hlL := asLocks_len lm
    have a2 := a1.keep0 k2
    have o12 := o1.keep k2 fun _ _ e => e
    have kk2 := k1.trans (KO.of0 k2)
    rw [hlL] at o2
    obtain ⟨p2, c2, rfl⟩ := o2.form
    have hset0 : g1.1.set (n + 1) l = g1.1 := by
      have hi' : n + 1 < g1.1.length := by rw [a1.tn]; exact hlt
      have : g1.1[n + 1] = l := by rw [List.getElem?_eq_getElem hi'] at e2; injection e2
      rw [← this, List.set_getElem_self]
    simp only [stp, Nat.reduceAdd, Int.reduceLT, Int.reduceLE, Int.reduceEq, Int.reduceNe, ne_eq, bne_self_eq_false, beq_self_eq_true]
    refine lpc2 lm.length (by omega) (fun j x w' => ∃ lj, TA w' (siz w0) ta tms (g1.1.set (n + 1) lj) ∧ (∀ y, valB lj y = overB stepT (valB l) (valB (lm.take j)) y) ∧ Own w' (siz w0) 47 4 x (g1.2.length + j) (flat encR (g1.2 ++ asR (n + 1) (lm.take j))) ∧ KO (siz w0) rp w2 w')
      ⟨l, by rw [hset0]; exact a2, fun y => rfl, by rw [List.take_zero, show asR (n + 1) [] = [] from rfl, List.append_nil]; exact o12, KO.refl _ _ _⟩ ?_ ?_
    · rintro j x2 w3 hj ⟨lj, a3, hv3, o3, k3⟩ J4 hJ4 _j
      have hj' : (j : Int) < (lm.length : Int) := by omega
      have o23 := k3.own o2 fun cs => rfl
      have hjL : j < (asLocks lm).length := by rw [hlL]; exact hj
      obtain ⟨gg, cg, e, _, _, _, _, _, hcel⟩ := o23.at (by omega)
      injection e with e1' _ e2'
      subst e1' e2'
      have hLj : (asLocks lm)[j]? = some (lm[j].1.1, lm[j].1.2, lm[j].2) := by
        unfold asLocks
        rw [List.getElem?_map, List.getElem?_eq_getElem hj]; rfl
      obtain ⟨u0, u1, u2⟩ := locks_at (b := gg) (o := 0) (L := asLocks lm) (fun i hi => by rw [Nat.zero_add]; exact hcel i (by rw [hlL] at hi; exact hi)) hLj
      rw [Nat.zero_add] at u0 u1 u2
      have hpok := hcm.1 _ (List.getElem_mem hj)
      have hT3 := fun y => over_take (F := stepT) (H := valB l) hcm.apart hj y
      have hp2 : lm[j].2 = 0 ∨ lm[j].2 = 1 := by
        have hv := valB_mem hcm.apart (List.getElem_mem hj) (x := lm[j].1.1) ⟨hpok, Int.le_refl _, hpok.2⟩
        rw [hvm] at hv
        exact (revB_val hv).1
      simp only [stp, Nat.reduceAdd, Int.reduceLT, Int.reduceLE, Int.reduceEq, Int.reduceNe, ne_eq, bne_self_eq_false, beq_self_eq_true, hj']
      rw [ix_69 hj, Nat.zero_add]
      simp only [stp, Nat.reduceAdd, Int.reduceLT, Int.reduceLE, Int.reduceEq, Int.reduceNe, ne_eq, bne_self_eq_false, beq_self_eq_true, stm, u0, u1, u2]
      have htk : asR (n + 1) (lm.take (j + 1)) = asR (n + 1) (lm.take j) ++ [(((n + 1 : Nat) : Int), lm[j].1.1, lm[j].1.2, lm[j].2)] := by
        rw [List.take_add_one, List.getElem?_eq_getElem hj, Option.toList_some]; unfold asR; rw [List.map_append]; rfl
      have hjl : lm[j] ∈ lm := List.getElem_mem hj
      have hpd := hdm _ hjl
      generalize lm[j] = p at *
      have k4 : K0 w3 (w3.alloc (.cells #[.int .i64 p.1.1, .int .i64 p.1.2, .int .i64 p.2] 29)) := (K0.refl w3).alloc _
      have b4 : blk (w3.alloc (.cells #[.int .i64 p.1.1, .int .i64 p.1.2, .int .i64 p.2] 29)) (siz w3) = some (.cells #[.int .i64 p.1.1, .int .i64 p.1.2, .int .i64 p.2] 29) := blk_alloc_new
      generalize w3.alloc (.cells #[.int .i64 p.1.1, .int .i64 p.1.2, .int .i64 p.2] 29) = w4 at k4 b4
      have kk4 := k3.trans (KO.of0 k4)
      have a4 := a3.keep0 k4
      have s4 : siz w0 ≤ siz w4 := by
        have := (toK (kk2.trans kk4)).size
        exact this
      refine push_rev (k := (((n + 1 : Nat) : Int), p.1.1, p.1.2, p.2)) (o3.keep k4 fun _ _ e => e) (by omega) s4 fun v5 w5 o5 k5 hr5 => ?_
      have o34 := o3.keep k4 fun _ _ e => e
      have hF5 : ∀ b, x2.ownBlock = some b → ∃ cs, blk w4 b = some (.cells cs 47) := fun b e => (own_ty o34 e).2
      have a5 := a4.keepF k5 fun b e => by obtain ⟨cs, hc⟩ := hF5 b e; exact ⟨_, _, hc, by decide, by decide, by decide⟩
      have ko5 : KO (siz w0) rp w4 w5 := KO.ofB k5 fun b e => by obtain ⟨h1, cs, hc⟩ := own_ty o34 e; exact ⟨h1, _, hc, rfl⟩
      have b5 := ko5.blk b4 rfl
      obtain ⟨m5, l5, f1, f2, f3, hm5, hd5, hmA5⟩ := a5.node hlt
      rw [List.getElem?_set_self (by rw [a1.tn]; exact hlt)] at f2
      injection f2 with f2
      subst f2
      have hl5 := canon_len (n := 4096) hm5.canon hd5
      have y0 : cel w5 (siz w3) 0 = some (.int .i64 p.1.1) := by rw [cel_b b5]; rfl
      have y1 : cel w5 (siz w3) 1 = some (.int .i64 p.1.2) := by rw [cel_b b5]; rfl
      have y2 : cel w5 (siz w3) 2 = some (.int .i64 p.2) := by rw [cel_b b5]; rfl
      rw [ixa hlt, Nat.zero_add]
      have hwp : IntKind.i64.wrap (p.2 + 1) = p.2 + 1 := wrap_id (by omega) (by omega)
      simp only [stp, Nat.reduceAdd, Int.reduceLT, Int.reduceLE, Int.reduceEq, Int.reduceNe, ne_eq, bne_self_eq_false, beq_self_eq_true, stm, f3, y0, y1, y2, hwp]
      have k5d : K0 w5 w5.drew := (K0.refl w5).drew
      refine set_any (v := p.2 + 1) (hm5.keep0 k5d) (by omega) fun w6 l6 r6 m6 hv6 hl6 k6 => ?_
      have hd6 : Bd 4096 l6 := bd_of_val m6.canon fun y hy => by
        rw [hv6]; split
        · rename_i hxx
          have h1 := hxx.2.2
          dsimp only at h1
          omega
        · exact val_of_bd hd5 hy
      have a6 := (a5.keep0 k5d).turn f1 k6 m6 hd6
      rw [List.set_set] at a6
      obtain ⟨cs5, hcs5⟩ := im_blk (hm5.keep0 k5d)
      have ko6 : KO (siz w0) rp w5.drew w6 := KO.ofB k6 fun b e => by
        have e : b = m5 := e
        subst e
        exact ⟨hmA5, _, hcs5, rfl⟩
      refine hJ4 _ _ ⟨l6, a6, fun y => ?_, ?_, ((kk4.trans ko5).trans (KO.of0 k5d)).trans ko6⟩
      · rw [hT3, hv6, hv3]
        rfl
      · have o6 : Own w6 (siz w0) 47 4 v5 (g1.2.length + j + 1) (flat encR (g1.2 ++ asR (n + 1) (lm.take j)) ++ encR (((n + 1 : Nat) : Int), p.1.1, p.1.2, p.2)) :=
          own_keepT (o5.keep k5d fun _ _ e => e) k6 fun g' cs hg e => ne_of_ty hg hcs5 (by decide) e
        rw [htk, ← List.append_assoc, flat_append, flat_one]
        exact o6
    · rintro x2 w3 ⟨lj, a3, hv3, o3, k3⟩ J4 _j
      have hn' : ¬ ((lm.length : Int) < (lm.length : Int)) := by omega
      rw [List.take_length] at o3 hv3
      simp only [stp, Nat.reduceAdd, Int.reduceLT, Int.reduceLE, Int.reduceEq, Int.reduceNe, ne_eq, bne_self_eq_false, beq_self_eq_true, hn']
      obtain ⟨m5, l5, f1, f2, f3, hm5, hd5, hmA5⟩ := a3.node hlt
      rw [List.getElem?_set_self (by rw [a1.tn]; exact hlt)] at f2
      injection f2 with f2
      subst f2
      have htN : canonL (toldN (revN s k g1.1 (n + 1)) (toldB g1.1 (n + 1))) = lj := canonL_eq hm5.canon hd5 fun y => by
        rw [hv3]
        unfold overB toldN
        rw [show revN s k g1.1 (n + 1) y = valB lm y by rw [hvm]; unfold revN; rw [hT], hT]
        cases valB lm y <;> rfl
      rw [htN] at hJ3
      refine hJ3 _ _ ⟨a3, ?_, ?_, kk2.trans k3⟩
      · rw [List.length_append, asR_len]
        exact o3
      · rw [List.length_append, asR_len]
        omega
  · rintro x' w2 ⟨a2, o2, hl2, k2⟩ _j
    show J x' (.int .i64 (IntKind.i64.wrap (((n + 1 : Nat) : Int) + 1))) w2
    exact hJ2 (17 - (n + 1)) _ _ _ (by omega) ⟨n + 1, hle, by rw [hwr], rfl, a2, o2, by omega, k2⟩
end
end Go.Proofs.YtcekmdpiloegcaaGreat
/- The table of locks: what is to be let go, of all requests; whether all fits. Conditions: as each says. -/
namespace Go.Proofs.YtcekmdpiloegcaaGreat
open Go.Sh Go.Proofs.YtcekmdpiloegcaaGreat.Mi
set_option maxRecDepth 100000
section
variable {w w' : World} {Q : Value → World → Prop} {B t : Nat} {s : TS}
theorem rev_ws {ta : Nat} {tms : List Nat} {w0 : World} (h0 : TL w0 B t s) (hok : WsOk s.ws) (k0 : K0 w0 w) (hA : TA w (siz w0) ta tms (List.replicate 17 []))
    (hq : ∀ w' v', Own w' (siz w0) 47 4 v' (revF s).length (flat encR (revF s)) → K0 w0 w' → Q v' w') :
    P14_1 (.pointer (some ⟨ta, 0, none⟩)) (.pointer (some ⟨t, 0, none⟩)) w Q := by
  unfold P14_1
  obtain ⟨ms, wv, hs⟩ := id (h0.keep0 k0)
  have c18 := hs.c18
  have hwr := hs.wr.rd
  obtain ⟨pa, ca, rfl⟩ := hwr.form
  have hW := hok.1
  have toK : ∀ {w'}, KO (siz w0) rp w w' → K0 w0 w' := fun k => k0.trans' (k.below (Nat.le_refl _)) fun b hb e => by omega
  simp only [stp, Nat.reduceAdd, Int.reduceLT, Int.reduceLE, Int.reduceEq, Int.reduceNe, ne_eq, bne_self_eq_false, beq_self_eq_true, stm, c18]
  refine lpc2 s.ws.length (by omega) (fun i x w' => TA w' (siz w0) ta tms (revG s (s.ws.take i)).1 ∧ Own w' (siz w0) 47 4 x (revG s (s.ws.take i)).2.length (flat encR (revG s (s.ws.take i)).2) ∧ (revG s (s.ws.take i)).2.length ≤ 80000 * i ∧ KO (siz w0) rp w w')
    ⟨hA, Own.nil _ _ _ _, Nat.le_refl _, KO.refl _ _ _⟩ ?_ ?_
  · rintro i x w1 hi ⟨a1, o1, hl1, k1⟩ J hJ _j
    have hi' : (i : Int) < (s.ws.length : Int) := by omega
    have hst : revG s (s.ws.take (i + 1)) = revK s s.ws[i] (revG s (s.ws.take i)) s.nodes.toNat := by
      rw [List.take_add_one, List.getElem?_eq_getElem hi, Option.toList_some, revG_snoc]
    obtain ⟨ms1, wv1, h1⟩ := id (h0.keep0 (toK k1))
    have hwr1 : Rd 5 w1 (.slice pa s.ws.length ca) s.ws.length (flat enc5 s.ws) := by
      refine hwr.keep k1 fun g hg hlt e => ?_
      obtain ⟨hgB, cs, hc⟩ := own_ty hs.wr hg
      obtain ⟨o', ho', hp'⟩ := e.2
      rw [hc] at ho'
      injection ho' with ho'
      subst ho'
      cases hp'
    obtain ⟨b0, o, rfl, q0, q1, q2, q3, q4⟩ := ws_at hwr1 hi
    simp only [stp, Nat.reduceAdd, Int.reduceLT, Int.reduceLE, Int.reduceEq, Int.reduceNe, ne_eq, bne_self_eq_false, beq_self_eq_true, hi']
    rw [ix_35 hi]
    simp only [stp, Nat.reduceAdd, Int.reduceLT, Int.reduceLE, Int.reduceEq, Int.reduceNe, ne_eq, bne_self_eq_false, beq_self_eq_true, stm, q0, q1, q2, q3, q4]
    rw [hst] at hJ
    generalize s.ws[i] = k at *
    generalize revG s (s.ws.take i) = g at *
    have k2 : K0 w1 (w1.alloc (.cells #[.int .i64 k.1, .int .i64 k.2.1, .int .i64 k.2.2.1, .int .i64 k.2.2.2.1, .int .i64 k.2.2.2.2] 50)) := (K0.refl w1).alloc _
    have b2 : blk (w1.alloc (.cells #[.int .i64 k.1, .int .i64 k.2.1, .int .i64 k.2.2.1, .int .i64 k.2.2.2.1, .int .i64 k.2.2.2.2] 50)) (siz w1) = some (.cells #[.int .i64 k.1, .int .i64 k.2.1, .int .i64 k.2.2.1, .int .i64 k.2.2.2.1, .int .i64 k.2.2.2.2] 50) := blk_alloc_new
    generalize w1.alloc (.cells #[.int .i64 k.1, .int .i64 k.2.1, .int .i64 k.2.2.1, .int .i64 k.2.2.2.1, .int .i64 k.2.2.2.2] 50) = w2 at k2 b2
    refine rev_nodes h0 ((toK k1).trans k2) (a1.keep0 k2) b2 (o1.keep k2 fun _ _ e => e) (by omega) fun xo' w3 k3 a3 o3 hl3 ko3 => ?_
    rw [pur_add]
    exact hJ _ _ ⟨a3, o3, by omega, (k1.trans (KO.of0 k2)).trans ko3⟩
  · rintro x w1 ⟨a1, o1, hl1, k1⟩ J _j
    have hn : ¬ ((s.ws.length : Int) < (s.ws.length : Int)) := by omega
    rw [List.take_length] at o1
    simp only [stp, Nat.reduceAdd, Int.reduceLT, Int.reduceLE, Int.reduceEq, Int.reduceNe, ne_eq, bne_self_eq_false, beq_self_eq_true, hn]
    exact hq _ _ o1 (toK k1)
theorem trevokes_c (h : TL w B t s) (hok : WsOk s.ws) (hq : ∀ w' v', Own w' (siz w) 47 4 v' (revF s).length (flat encR (revF s)) → K0 w w' → Q v' w') :
    callS Tryz.prog 14 #[.pointer (some ⟨t, 0, none⟩)] Q w := by
  refine ref14 ?_
  rw [cut14]
  unfold P14_0
  simp only [stp, Nat.reduceAdd, Int.reduceLT, Int.reduceLE, Int.reduceEq, Int.reduceNe, ne_eq, bne_self_eq_false, beq_self_eq_true, stm]
  have kA := (K0.refl w).alloc (.cells (List.replicate 17 (Value.pointer none)).toArray 52)
  have bA : blk (w.alloc (.cells (List.replicate 17 (Value.pointer none)).toArray 52)) (siz w) = some (.cells (List.replicate 17 (Value.pointer none)).toArray 52) := blk_alloc_new
  change lp 1 _ _ (w.alloc (.cells (List.replicate 17 (Value.pointer none)).toArray 52))
  generalize w.alloc (.cells (List.replicate 17 (Value.pointer none)).toArray 52) = wA at kA bA
  refine lpc1 17 (by omega) (fun i w' => ∃ ms : List Nat, ms.length = i ∧ blk w' (siz w) = some (.cells (ptrs ms ++ List.replicate (17 - i) (Value.pointer none)).toArray 52) ∧ (∀ m ∈ ms, IM w' m [] ∧ siz w < m ∧ m < siz w') ∧ ms.Nodup ∧ K0 w w') ⟨[], rfl, bA, fun m hm => (by cases hm), List.nodup_nil, kA⟩ ?_ ?_
  · rintro i w1 hi ⟨ms, hl, hb, hm, hnd, k1⟩ J hJ _j
    have hi' : (i : Int) < 17 := by omega
    simp only [stp, Nat.reduceAdd, Int.reduceLT, Int.reduceLE, Int.reduceEq, Int.reduceNe, ne_eq, bne_self_eq_false, beq_self_eq_true, hi']
    refine new_c fun w2 m2 k2 => ?_
    have hb2 := k2.blk hb id
    have s2 := m2.lt
    have hlt := blk_lt hb
    have hP : i < (ptrs ms ++ List.replicate (17 - i) (Value.pointer none)).length := by simp [ptrs, hl]; omega
    have iP : (cel w2 (siz w) (0 + i)).isSome = true := by rw [cel_b hb2, Nat.zero_add, List.getElem?_toArray, List.getElem?_eq_getElem hP]; rfl
    rw [ixa hi, st_51 one_ptr iP (fre_b hb2)]
    have k3 : Keep (fun b => b = siz w) w2 (sto w2 (siz w) (0 + i) (.pointer (some ⟨siz w1, 0, none⟩))) := (Keep.refl (fun b => b = siz w) w2).sto (.inl rfl) _ _
    have hset : (ptrs ms ++ List.replicate (17 - i) (Value.pointer none)).set i (.pointer (some ⟨siz w1, 0, none⟩)) = ptrs (ms ++ [siz w1]) ++ List.replicate (17 - (i + 1)) (Value.pointer none) := by
      have e : 17 - i = (17 - (i + 1)) + 1 := by omega
      rw [e, List.replicate_succ, List.set_append_right _ _ (by simp [ptrs, hl])]
      simp [ptrs, hl]
    rw [Nat.zero_add] at k3
    simp only [stp, Nat.reduceAdd, Int.reduceLT, Int.reduceLE, Int.reduceEq, Int.reduceNe, ne_eq, bne_self_eq_false, beq_self_eq_true]
    refine hJ _ ⟨ms ++ [siz w1], by simp [hl], ?_, fun m hm' => ?_, ?_, ?_⟩
    · rw [blk_sto hb2, List.setIfInBounds_toArray, hset]
    · rw [List.mem_append, List.mem_singleton] at hm'
      have ss := k3.size
      rcases hm' with hm' | rfl
      · obtain ⟨q1, q2, q3⟩ := hm m hm'
        exact ⟨im_keepT (q1.keep0 k2) hb2 (by decide) (by decide) k3, q2, by have := k2.size; omega⟩
      · exact ⟨im_keepT m2 hb2 (by decide) (by decide) k3, by omega, by omega⟩
    · rw [List.nodup_append]
      exact ⟨hnd, by simp, fun a ha b hb' e => by rw [List.mem_singleton] at hb'; have := (hm a ha).2.2; omega⟩
    · exact (k1.trans k2).trans' k3 fun b hb' e => by omega
  · rintro w1 ⟨ms, hl, hb, hm, hnd, k1⟩ J _j
    have hn' : ¬ ((17 : Nat) : Int) < 17 := by omega
    simp only [stp, Nat.reduceAdd, Int.reduceLT, Int.reduceLE, Int.reduceEq, Int.reduceNe, ne_eq, bne_self_eq_false, beq_self_eq_true, hn']
    have e : ptrs ms ++ List.replicate (17 - 17) (Value.pointer none) = ptrs ms := by simp
    rw [e] at hb
    refine rev_ws h hok k1 (tms := ms) { b := hb, n := hl, tn := rfl, nd := hnd, ge := Nat.le_refl _, gm := fun m hm' => by have := (hm m hm').2.1; omega, h := fun i m l h1 h2 => ?_ } hq
    have : l = [] := by
      rw [List.getElem?_replicate] at h2
      split at h2
      · injection h2 with h2; exact h2.symm
      · cases h2
    subst this
    exact ⟨(hm m (List.mem_of_getElem? h1)).1, fun p hp => by cases hp⟩
/-! ### whether all fits -/
def soundP (s : TS) : Prop := ∀ (n : Nat) l, 1 ≤ n → (n : Int) ≤ s.nodes → s.hs[n]? = some l → ∀ q ∈ l, ∀ (o : Nat) l', 1 ≤ o → (o : Int) ≤ s.nodes → (o : Int) ≠ (n : Int) → s.hs[o]? = some l' → ∀ p ∈ partsL q.1 l', fitP p.2 q.2
theorem tsound_c (h : TL w B t s) (hq : ∀ w' r, (r = true ↔ soundP s) → K0 w w' → Q (.bool r) w') : callS Tryz.prog 11 #[.pointer (some ⟨t, 0, none⟩)] Q w := by
  refine ref11 ?_
  unfold S11
  obtain ⟨ms, wv, hs⟩ := id h
  have hnn := hs.nn
  simp only [stp, Nat.reduceAdd, Int.reduceLT, Int.reduceLE, Int.reduceEq, Int.reduceNe, ne_eq, bne_self_eq_false, beq_self_eq_true, stm]
  refine lp1 (fun m x w' => ∃ o : Nat, 1 ≤ o ∧ (o : Int) ≤ s.nodes + 1 ∧ x = .int .i64 (o : Int) ∧ m = 17 - o ∧ K0 w w' ∧ ∀ (n : Nat) l, 1 ≤ n → n < o → s.hs[n]? = some l → ∀ q ∈ l, ∀ (o : Nat) l', 1 ≤ o → (o : Int) ≤ s.nodes → (o : Int) ≠ (n : Int) → s.hs[o]? = some l' → ∀ p ∈ partsL q.1 l', fitP p.2 q.2) 16 ⟨1, Nat.le_refl _, by omega, rfl, rfl, K0.refl _, fun o' l h1 h2 => by omega⟩ ?_
  rintro m x w1 ⟨o, ho1, ho2, rfl, rfl, k1, hall⟩ J hJ _j
  have h1 := h.keep0 k1
  obtain ⟨_, _, h1r⟩ := id h1
  have c0 := h1r.c0
  by_cases hle : (o : Int) ≤ s.nodes
  case neg =>
    simp only [stp, Nat.reduceAdd, Int.reduceLT, Int.reduceLE, Int.reduceEq, Int.reduceNe, ne_eq, bne_self_eq_false, beq_self_eq_true, stm, c0, hle]
    exact hq _ _ ⟨fun _ n l q1 q2 q3 => hall n l q1 (by omega) q3, fun _ => rfl⟩ k1
  have hlt : o < 17 := by omega
  have hwr : IntKind.i64.wrap ((o : Int) + 1) = ((o + 1 : Nat) : Int) := wrap_succ (by omega)
  simp only [stp, Nat.reduceAdd, Int.reduceLT, Int.reduceLE, Int.reduceEq, Int.reduceNe, ne_eq, bne_self_eq_false, beq_self_eq_true, stm, c0, hle]
  refine tholds_c h1 ho1 hle fun w2 v2 l e2 hcl hdl o2 k2 => ?_
  have hlL := asLocks_len l
  have hln := canon_len (n := 4096) hcl hdl
  rw [hlL] at o2
  obtain ⟨p2, c2, rfl⟩ := o2.form
  have h2 := h1.keep0 k2
  simp only [stp, Nat.reduceAdd, Int.reduceLT, Int.reduceLE, Int.reduceEq, Int.reduceNe, ne_eq, bne_self_eq_false, beq_self_eq_true]
  refine lpc1 l.length (by omega) (fun j w' => K0 w2 w' ∧ ∀ q ∈ l.take j, ∀ (o' : Nat) l', 1 ≤ o' → (o' : Int) ≤ s.nodes → (o' : Int) ≠ (o : Int) → s.hs[o']? = some l' → ∀ p ∈ partsL q.1 l', fitP p.2 q.2) ⟨K0.refl _, fun q hq => by cases hq⟩ ?_ ?_
  · rintro j w3 hj ⟨k3, hgood⟩ J2 hJ2 _j
    have hj' : (j : Int) < (l.length : Int) := by omega
    obtain ⟨gg, cg, e, _, _, _, _, _, hcel⟩ := (o2.keep k3 fun _ _ e => e).at (by omega)
    injection e with e1' _ e2'
    subst e1' e2'
    have hLj : (asLocks l)[j]? = some (l[j].1.1, l[j].1.2, l[j].2) := by
      unfold asLocks
      rw [List.getElem?_map, List.getElem?_eq_getElem hj]; rfl
    obtain ⟨u0, u1, u2⟩ := locks_at (b := gg) (o := 0) (L := asLocks l) (fun i hi => by rw [Nat.zero_add]; exact hcel i (by rw [hlL] at hi; exact hi)) hLj
    rw [Nat.zero_add] at u0 u1 u2
    simp only [stp, Nat.reduceAdd, Int.reduceLT, Int.reduceLE, Int.reduceEq, Int.reduceNe, ne_eq, bne_self_eq_false, beq_self_eq_true, hj']
    rw [ix_69 hj, Nat.zero_add]
    simp only [stp, Nat.reduceAdd, Int.reduceLT, Int.reduceLE, Int.reduceEq, Int.reduceNe, ne_eq, bne_self_eq_false, beq_self_eq_true, stm, u0, u1, u2]
    have k4 : K0 w3 (w3.alloc (.cells #[.int .i64 l[j].1.1, .int .i64 l[j].1.2, .int .i64 l[j].2] 29)) := (K0.refl w3).alloc _
    refine fits_c ((h2.keep0 k3).keep0 k4) fun w5 r hr k5 => ?_
    have kk := (k3.trans k4).trans k5
    cases r with
    | true =>
      simp only [stp, Nat.reduceAdd, Int.reduceLT, Int.reduceLE, Int.reduceEq, Int.reduceNe, ne_eq, bne_self_eq_false, beq_self_eq_true]
      refine hJ2 _ ⟨kk, fun q hq => ?_⟩
      rw [List.take_add_one, List.getElem?_eq_getElem hj, Option.toList_some, List.mem_append, List.mem_singleton] at hq
      rcases hq with hq | rfl
      · exact hgood q hq
      · exact fun o' l' g1 g2 g3 g4 => hr.1 rfl o' l' g1 g2 g3 g4
    | false =>
      simp only [stp, Nat.reduceAdd, Int.reduceLT, Int.reduceLE, Int.reduceEq, Int.reduceNe, ne_eq, bne_self_eq_false, beq_self_eq_true]
      refine hq _ _ ⟨fun h => (by cases h), fun hs => ?_⟩ ((k1.trans k2).trans kk)
      exact hr.2 fun o' l' g1 g2 g3 g4 => hs o l ho1 hle e2 _ (List.getElem_mem hj) o' l' g1 g2 g3 g4
  · rintro w3 ⟨k3, hgood⟩ J2 _j
    have hn : ¬ ((l.length : Int) < (l.length : Int)) := by omega
    rw [List.take_length] at hgood
    simp only [stp, Nat.reduceAdd, Int.reduceLT, Int.reduceLE, Int.reduceEq, Int.reduceNe, ne_eq, bne_self_eq_false, beq_self_eq_true, hn, hwr]
    refine hJ (17 - (o + 1)) _ _ (by omega) ⟨o + 1, by omega, by omega, rfl, rfl, (k1.trans k2).trans k3, fun n l' g1 g2 g3 => ?_⟩
    rcases Nat.lt_succ_iff_lt_or_eq.1 g2 with g | rfl
    · exact hall n l' g1 g g3
    · have e2' : s.hs[n]? = some l := e2
      rw [e2'] at g3
      injection g3 with g3
      subst g3
      exact hgood
end
end Go.Proofs.YtcekmdpiloegcaaGreat
