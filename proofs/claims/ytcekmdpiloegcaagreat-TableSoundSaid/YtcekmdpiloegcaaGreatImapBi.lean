/- Maps of blocks to values of type int: what their functions compute. Conditions: as each says. -/
import Derived.Test.YtcekmdpiloegcaaGreatImapAi
set_option linter.unusedSimpArgs false
set_option linter.unusedVariables false
namespace Go.Proofs.YtcekmdpiloegcaaGreat.Mi
open Go.Sh Go.Proofs.YtcekmdpiloegcaaGreat
set_option maxRecDepth 100000
section
variable {w : World} {Q : Value → World → Prop} {m : Nat} {l : List (Pt Int)}

theorem run_of_rd {s : Sem Value} {v : Value} (h : ∀ k : Value → Prop, rd Tryz.prog s k w = k v) : s.run Tryz.prog w = .ok v w := by
  have : rd Tryz.prog s (fun x => x = v) w := by rw [h]
  obtain ⟨u, hu, e⟩ := this
  rw [hu, e]
theorem hl_span {S : World → Prop} {g o : Nat} {u v : Int} (h : ∀ w', S w' → cel w' g o = some (.int .i64 u) ∧ cel w' g (o + 1) = some (.int .i64 v)) {k : Value → Prop} (hk : k (.agg #[.int .i64 u, .int .i64 v])) : hld Tryz.prog S (Instr.loadAt 27 (.pointer (some ⟨g, o, none⟩))) k :=
  hld_of _ (fun w' hw' => run_of_rd fun _ => by rw [ld_27 (by rw [(h w' hw').1]; rfl) (by rw [(h w' hw').2]; rfl), (h w' hw').1, (h w' hw').2]; rfl) hk

theorem clone_c {v : Value} {n : Nat} {xs : List Value} (h : Rd 3 w v n xs) (h1 : ∀ u ∈ xs, Go.Sh.one u = true) (hn : n ≤ 1000000) (hq : ∀ w' v', Own w' (siz w) 65 3 v' n xs → Keep (fun _ => False) w w' → Q v' w') :
    callS Tryz.prog 61 #[v] Q w := by
  refine ref61 ?_
  unfold S61
  obtain ⟨a, c, rfl⟩ := h.form
  cases a with
  | none =>
    simp only [stp, Nat.reduceAdd, Int.reduceLT, Int.reduceLE, Int.reduceEq, Int.reduceNe, ne_eq, bne_self_eq_false, beq_self_eq_true, stm]
    rcases h.2 with ⟨rfl, _⟩ | ⟨b, o, c', e, _⟩
    · have hx : xs = [] := List.length_eq_zero_iff.1 (by simpa using h.1)
      subst hx
      exact hq w _ (Own.nil _ _ _ _) (Keep.refl _ _)
    · cases e
  | some a =>
    simp only [stp, Nat.reduceAdd, Int.reduceLT, Int.reduceLE, Int.reduceEq, Int.reduceNe, ne_eq, bne_self_eq_false, beq_self_eq_true, stm]
    have k1 := (Keep.refl (fun _ => False) w).alloc (.cells #[] 65)
    have s1 : siz (w.alloc (.cells #[] 65)) = siz w + 1 := siz_alloc
    have o1 : Own (w.alloc (.cells #[] 65)) (siz w) 65 3 (.slice (some ⟨siz w, 0, none⟩) 0 0) 0 [] := Own.empty (Nat.le_refl _)
    have r1 := h.keep0 k1
    generalize w.alloc (.cells #[] 65) = w1 at k1 s1 o1 r1
    rcases Nat.eq_zero_or_pos n with rfl | hp
    · have hx : xs = [] := List.length_eq_zero_iff.1 (by simpa using h.1)
      subst hx
      rw [ap0_62 o1]
      exact hq _ _ o1 k1
    · obtain ⟨b, o, c', e, hc', hcel⟩ := r1.at hp
      injection e with e1 _ e2
      injection e1 with e1
      subst e1 e2
      refine ap_62 o1 r1.len hcel h1 (by omega) (by omega) fun v' w' ho hg hr => ?_
      rw [Nat.zero_add] at ho
      exact hq _ _ ho (k1.grown hg fun g hg' => .inr (by cases hg'; exact Nat.le_refl _))
theorem all_c (hm : IM w m l) (hl : l.length ≤ 1000000) (hq : ∀ w' v', Own w' (siz w) 65 3 v' l.length (flat enc l) → Keep (fun _ => False) w w' → Q v' w') :
    callS Tryz.prog 48 #[.pointer (some ⟨m, 0, none⟩)] Q w := by
  refine ref48 ?_
  unfold S48
  obtain ⟨sl, h1, h2, _⟩ := hm
  simp only [stp, Nat.reduceAdd, Int.reduceLT, Int.reduceLE, Int.reduceEq, Int.reduceNe, ne_eq, bne_self_eq_false, beq_self_eq_true, stm, cel_of h1]
  refine clone_c h2.rd (flatP_one ev_one) (by omega) fun w' v' ho hk => hq w' v' ho hk
theorem nall_c (hq : Q (.slice none 0 0) w) : callS Tryz.prog 48 #[.pointer none] Q w := by
  refine ref48 ?_
  unfold S48
  simp only [stp, Nat.reduceAdd, Int.reduceLT, Int.reduceLE, Int.reduceEq, Int.reduceNe, ne_eq, bne_self_eq_false, beq_self_eq_true, stm]
  exact hq


theorem set_no {a b : Int} {v : Int} (h0 : ¬ ok (a, b)) (hq : ∀ w', Keep (fun _ => False) w w' → Q (.bool false) w') :
    callS Tryz.prog 25 #[.pointer (some ⟨m, 0, none⟩), .agg #[.int .i64 a, .int .i64 b], ev v] Q w := by
  refine ref25 ?_
  unfold S25
  simp only [stp, Nat.reduceAdd, Int.reduceLT, Int.reduceLE, Int.reduceEq, Int.reduceNe, ne_eq, bne_self_eq_false, beq_self_eq_true, stm]
  refine valid_c fun w2 g2 => ?_
  simp only [stp, Nat.reduceAdd, Int.reduceLT, Int.reduceLE, Int.reduceEq, Int.reduceNe, ne_eq, bne_self_eq_false, beq_self_eq_true, stm, h0]
  exact hq _ (((Keep.refl _ w).alloc _).trans g2.1)
theorem set_ok {a b : Int} {v : Int} (hm : IM w m l) (h0 : ok (a, b)) (hl : l.length ≤ 300000)
    (hq : ∀ w' l', IM w' m l' → (∀ x, valB l' x = if hasB (a, b) x then some v else valB l x) → l'.length ≤ l.length + 2 → Keep (fun b => b = m) w w' → Q (.bool true) w') :
    callS Tryz.prog 25 #[.pointer (some ⟨m, 0, none⟩), .agg #[.int .i64 a, .int .i64 b], ev v] Q w := by
  refine ref25 ?_
  unfold S25
  have hcan := hm.canon
  have hmlt := hm.lt
  simp only [act_box, agg_cells]
  have x0 : cel (w.alloc (.cells #[.int .i64 a, .int .i64 b] 27)) (siz w) 0 = some (.int .i64 a) := cel_alloc_new
  have x1 : cel (w.alloc (.cells #[.int .i64 a, .int .i64 b] 27)) (siz w) 1 = some (.int .i64 b) := cel_alloc_new
  have k1 := (Keep.refl (fun _ => False) w).alloc (.cells #[.int .i64 a, .int .i64 b] 27)
  have s1 : siz (w.alloc (.cells #[.int .i64 a, .int .i64 b] 27)) = siz w + 1 := siz_alloc
  generalize w.alloc (.cells #[.int .i64 a, .int .i64 b] 27) = w1 at x0 x1 k1 s1
  simp only [stp, Nat.reduceAdd, Int.reduceLT, Int.reduceLE, Int.reduceEq, Int.reduceNe, ne_eq, bne_self_eq_false, beq_self_eq_true, stm, x0, x1]
  refine valid_c fun w2 g2 => ?_
  simp only [stp, Nat.reduceAdd, Int.reduceLT, Int.reduceLE, Int.reduceEq, Int.reduceNe, ne_eq, bne_self_eq_false, beq_self_eq_true, stm, h0]
  have k2 := k1.trans g2.1
  have y0 := g2.1.cel x0 id
  have y1 := g2.1.cel x1 id
  have s2 := g2.1.size
  have kd : Keep (fun _ => False) w w2.drew := k2.drew
  have md : IM w2.drew m l := hm.keep0 kd
  have mf : Keep (fun b => b = m) w2.drew w2.drew := Keep.refl _ _
  have sd : siz w2.drew = siz w2 := rfl
  refine jn0 (fun w' => ∃ l', IM w' m l' ∧ (∀ x, valB l' x = if hasB (a, b) x then some v else valB l x) ∧ l'.length ≤ l.length + 2 ∧ Keep (fun b => b = m) w w') (fun J hJ => ?_) ?_
  · refine ⟨fun w' => Keep (fun b => b = m) w2.drew w', mf, ?_⟩
    have hS : ∀ w', Keep (fun b => b = m) w2.drew w' → cel w' (siz w) 0 = some (.int .i64 a) ∧ cel w' (siz w) (0 + 1) = some (.int .i64 b) := fun w' k =>
      ⟨k.cel (b := siz w) (o := 0) (by rw [cel_drew]; exact y0) (by omega), k.cel (b := siz w) (o := 1) (by rw [cel_drew]; exact y1) (by omega)⟩
    refine hl_span hS ?_
    refine hl_span hS ?_
    have hput := (outL_outside h0 l hcan.apart).put h0 v
    have hlen := outL_len h0 hcan
    have hlen2 : (outL (a, b) l ++ [((a, b), v)]).length = (outL (a, b) l).length + 1 := by simp
    -- the end: the parts are laid
    have fin : ∀ {w3 : World} {v3 : Value}, Keep (fun _ => False) w2.drew w3 → Own w3 (siz w2) 65 3 v3 (outL (a, b) l ++ [((a, b), v)]).length (flat enc (outL (a, b) l ++ [((a, b), v)])) →
        callS Tryz.prog 43 #[.pointer (some ⟨m, 0, none⟩), v3] (fun _ w_12 => Keep (fun b => b = m) w2.drew w_12 ∧ J w_12) w3 := fun {w3 v3} k3 o3 => by
      have m3 := md.keep0 k3
      obtain ⟨sl3, hb3, _⟩ := m3
      have s3 := k3.size
      refine lay_c hb3 (B := siz w2) (by omega) (by omega) o3 hput.1 (by omega) fun w4 l4 m4 hv4 hl4 k4 => ?_
      have kk : Keep (fun b => b = m) w2.drew w4 := k3.none.trans' k4 fun b hb e => by
        rcases e with e | e
        · exact e
        · have := (o3.lt e).1; omega
      refine ⟨kk, hJ _ ⟨l4, m4, fun x => by rw [hv4, hput.2], by omega, ?_⟩⟩
      exact kd.none.trans kk
    have ext : ∀ {w' : World}, Keep (fun _ => False) w2.drew w' → Keep (fun b => b = m) w2.drew w' := fun k => k.none
    simp only [stp, Nat.reduceAdd, Int.reduceLT, Int.reduceLE, Int.reduceEq, Int.reduceNe, ne_eq, bne_self_eq_false, beq_self_eq_true, stm]
    have hevone : ∀ u ∈ ([.int .i64 a, .int .i64 b, ev v] : List Value), Go.Sh.one u = true := fun u hu => encP_one (ev := ev) ev_one (p := ((a, b), v)) hu
    refine ⟨?_, ?_⟩
    · refine without_c md h0 (by omega) fun w3 v3 o3 k3 => ⟨ext k3, ?_⟩
      have s3 := k3.size
      try simp only [stp, Nat.reduceAdd, Int.reduceLT, Int.reduceLE, Int.reduceEq, Int.reduceNe, ne_eq, bne_self_eq_false, beq_self_eq_true, stm]
      refine ⟨ext (k3.alloc _), ?_⟩
      refine pu_62 (o3.le (show siz w2 ≤ siz w2.drew from Nat.le_refl _)) hevone (by omega) (by omega) fun v4 w4 ho hk hr => ?_
      have k4 : Keep (fun _ => False) w2.drew w4 := k3.trans' hk fun b hb e => by have := (o3.lt e).1; omega
      refine ⟨ext k4, fin k4 ?_⟩
      rw [flat_append, flat_one, List.length_append]; exact ho
    · have ka := (Keep.refl (fun _ => False) w2.drew).alloc (.cells #[.int .i64 a, .int .i64 b, ev v] 65)
      have na : ∀ j, j < 1 * 3 → cel (w2.drew.alloc (.cells #[.int .i64 a, .int .i64 b, ev v] 65)) (siz w2) (0 + j) = (enc ((a, b), v))[j]? := fun j hj => by
        rw [Nat.zero_add]; exact (cel_alloc_new (w := w2.drew)).trans (by rw [List.getElem?_toArray]; rfl)
      generalize w2.drew.alloc (.cells #[.int .i64 a, .int .i64 b, ev v] 65) = w3 at ka na
      refine ⟨ext ka, ?_⟩
      refine without_c (md.keep0 ka) h0 (by omega) fun w4 v4 o4 k4 => ⟨ext (ka.trans k4), ?_⟩
      have sa := ka.size
      have nb : ∀ j, j < 1 * 3 → cel w4 (siz w2) (0 + j) = (enc ((a, b), v))[j]? := fun j hj => by
        have h5 := na j hj
        have hj' : j < (enc ((a, b), v)).length := by show j < 3; omega
        rw [List.getElem?_eq_getElem hj'] at h5 ⊢
        exact k4.cel h5 id
      refine ap_62 (o4.le (show siz w2 ≤ siz w3 by omega)) (b := siz w2) (o := 0) (m := 1) (news := enc ((a, b), v)) rfl nb hevone (by omega) (by have := k4.size; omega) fun v5 w5 ho hg hr => ?_
      have k5 : Keep (fun _ => False) w2.drew w5 := (ka.trans k4).grown hg fun g hg' => .inr (by have := (o4.lt hg').1; omega)
      refine ⟨ext k5, fin k5 ?_⟩
      rw [flat_append, flat_one, List.length_append]; exact ho
  · rintro w' ⟨l', h1, h2, h3, h4⟩ _
    exact hq w' l' h1 h2 h3 h4
theorem nset_c {s v : Value} (hq : ∀ w', Keep (fun _ => False) w w' → Q (.bool false) w') : callS Tryz.prog 25 #[.pointer none, s, v] Q w := by
  refine ref25 ?_
  unfold S25
  simp only [stp, Nat.reduceAdd, Int.reduceLT, Int.reduceLE, Int.reduceEq, Int.reduceNe, ne_eq, bne_self_eq_false, beq_self_eq_true, stm]
  exact hq _ ((Keep.refl _ w).alloc _)

theorem clear_no {a b : Int} (h0 : ¬ ok (a, b)) (hq : ∀ w', Keep (fun _ => False) w w' → Q (.bool false) w') :
    callS Tryz.prog 24 #[.pointer (some ⟨m, 0, none⟩), .agg #[.int .i64 a, .int .i64 b]] Q w := by
  refine ref24 ?_
  unfold S24
  simp only [stp, Nat.reduceAdd, Int.reduceLT, Int.reduceLE, Int.reduceEq, Int.reduceNe, ne_eq, bne_self_eq_false, beq_self_eq_true, stm]
  refine valid_c fun w2 g2 => ?_
  simp only [stp, Nat.reduceAdd, Int.reduceLT, Int.reduceLE, Int.reduceEq, Int.reduceNe, ne_eq, bne_self_eq_false, beq_self_eq_true, stm, h0]
  exact hq _ (((Keep.refl _ w).alloc _).trans g2.1)
theorem clear_ok {a b : Int} (hm : IM w m l) (h0 : ok (a, b)) (hl : l.length ≤ 300000)
    (hq : ∀ w' l', IM w' m l' → (∀ x, valB l' x = if hasB (a, b) x then none else valB l x) → l'.length ≤ l.length + 1 → Keep (fun b => b = m) w w' → Q (.bool true) w') :
    callS Tryz.prog 24 #[.pointer (some ⟨m, 0, none⟩), .agg #[.int .i64 a, .int .i64 b]] Q w := by
  refine ref24 ?_
  unfold S24
  have hcan := hm.canon
  have hmlt := hm.lt
  simp only [act_box, agg_cells]
  have x0 : cel (w.alloc (.cells #[.int .i64 a, .int .i64 b] 27)) (siz w) 0 = some (.int .i64 a) := cel_alloc_new
  have x1 : cel (w.alloc (.cells #[.int .i64 a, .int .i64 b] 27)) (siz w) 1 = some (.int .i64 b) := cel_alloc_new
  have k1 := (Keep.refl (fun _ => False) w).alloc (.cells #[.int .i64 a, .int .i64 b] 27)
  have s1 : siz (w.alloc (.cells #[.int .i64 a, .int .i64 b] 27)) = siz w + 1 := siz_alloc
  generalize w.alloc (.cells #[.int .i64 a, .int .i64 b] 27) = w1 at x0 x1 k1 s1
  simp only [stp, Nat.reduceAdd, Int.reduceLT, Int.reduceLE, Int.reduceEq, Int.reduceNe, ne_eq, bne_self_eq_false, beq_self_eq_true, stm, x0, x1]
  refine valid_c fun w2 g2 => ?_
  have k2 := k1.trans g2.1
  have y0 := g2.1.cel x0 id
  have y1 := g2.1.cel x1 id
  have s2 := g2.1.size
  simp only [stp, Nat.reduceAdd, Int.reduceLT, Int.reduceLE, Int.reduceEq, Int.reduceNe, ne_eq, bne_self_eq_false, beq_self_eq_true, stm, h0, y0, y1]
  have m2 := hm.keep0 k2
  refine without_c m2 h0 (by omega) fun w3 v3 o3 k3 => ?_
  have m3 := m2.keep0 k3
  obtain ⟨sl3, hb3, _⟩ := m3
  have s3 := k3.size
  have hlen := outL_len h0 hcan
  have hout := outL_outside h0 l hcan.apart
  refine lay_c hb3 (B := siz w2) (by omega) (by omega) o3 hout.apart (by omega) fun w4 l4 m4 hv4 hl4 k4 => ?_
  refine hq _ l4 m4 (fun x => by rw [hv4, hout.val]) (by omega) ((k2.trans k3).none.trans' k4 fun b hb e => ?_)
  rcases e with e | e
  · exact e
  · have := (o3.lt e).1; omega
theorem nclear_c {s : Value} (hq : ∀ w', Keep (fun _ => False) w w' → Q (.bool false) w') : callS Tryz.prog 24 #[.pointer none, s] Q w := by
  refine ref24 ?_
  unfold S24
  simp only [stp, Nat.reduceAdd, Int.reduceLT, Int.reduceLE, Int.reduceEq, Int.reduceNe, ne_eq, bne_self_eq_false, beq_self_eq_true, stm]
  exact hq _ ((Keep.refl _ w).alloc _)

theorem nget_c {x : Value} (hq : Q (.tuple #[(.int .i64 0), .bool false]) w) : callS Tryz.prog 50 #[.pointer none, x] Q w := by
  refine ref50 ?_
  unfold S50
  simp only [stp, Nat.reduceAdd, Int.reduceLT, Int.reduceLE, Int.reduceEq, Int.reduceNe, ne_eq, bne_self_eq_false, beq_self_eq_true, stm]
  exact hq
theorem get_c {x : Int} (hm : IM w m l) (hl : l.length ≤ 1000000) (hq : ∀ w', Keep (fun _ => False) w w' → Q (.tuple #[match valB l x with | some v => ev v | none => (.int .i64 0), .bool (valB l x).isSome]) w') :
    callS Tryz.prog 50 #[.pointer (some ⟨m, 0, none⟩), .int .i64 x] Q w := by
  refine ref50 ?_
  unfold S50
  obtain ⟨sl, h1, h2, h3⟩ := hm
  obtain ⟨a, c, rfl⟩ := h2.form
  simp only [stp, Nat.reduceAdd, Int.reduceLT, Int.reduceLE, Int.reduceEq, Int.reduceNe, ne_eq, bne_self_eq_false, beq_self_eq_true, stm, cel_of h1]
  refine lp1 (fun mm y w' => Keep (fun _ => False) w w' ∧ ∃ i : Nat, y = .int .i64 (i : Int) ∧ i ≤ l.length ∧ mm = l.length - i ∧ ∀ p ∈ l.take i, ¬ hasB p.1 x) l.length ⟨Keep.refl _ _, 0, rfl, Nat.zero_le _, by omega, by simp⟩ ?_
  rintro mm y w' ⟨k, i, rfl, hi, rfl, hno⟩ J hJ _
  have hwi := wrap_succ (i := i) (by omega)
  by_cases hlt : i < l.length
  · have hlt' : ((i : Int) < (l.length : Int)) := by omega
    have hs : l[i]? = some l[i] := List.getElem?_eq_getElem hlt
    obtain ⟨g, cg, e, _, _, _, _, _, hcel⟩ := (h2.keep k fun _ _ => id).at (by omega)
    injection e with e1 _ e2
    subst e1 e2
    obtain ⟨c0, c1, c2⟩ := parts_at (ev := ev) (b := g) (o := 0) (l := l) (fun j hj => by rw [Nat.zero_add]; exact hcel j hj) hs
    rw [Nat.zero_add] at c0 c1 c2
    simp only [stp, Nat.reduceAdd, Int.reduceLT, Int.reduceLE, Int.reduceEq, Int.reduceNe, ne_eq, bne_self_eq_false, beq_self_eq_true, hlt']
    rw [ix_62 hlt]
    simp only [stp, Nat.reduceAdd, Int.reduceLT, Int.reduceLE, Int.reduceEq, Int.reduceNe, ne_eq, bne_self_eq_false, beq_self_eq_true, stm, c0, c1, c2]
    have k2 := (Keep.refl (fun _ => False) w').alloc (.cells #[.int .i64 l[i].1.1, .int .i64 l[i].1.2, ev l[i].2] 65)
    have y2 : cel (w'.alloc (.cells #[.int .i64 l[i].1.1, .int .i64 l[i].1.2, ev l[i].2] 65)) (siz w') 2 = some (ev l[i].2) := cel_alloc_new
    refine has_c fun w3 g3 => ?_
    have y2' := g3.1.cel y2 id
    have k3 := k.trans (k2.trans g3.1)
    by_cases hin : hasB (l[i].1.1, l[i].1.2) x
    · simp only [stp, Nat.reduceAdd, Int.reduceLT, Int.reduceLE, Int.reduceEq, Int.reduceNe, ne_eq, bne_self_eq_false, beq_self_eq_true, stm, hin, y2']
      have hv := valB_mem h3.apart (List.getElem_mem hlt) (show hasB l[i].1 x from hin)
      have := hq _ k3
      rw [hv] at this
      exact this
    · simp only [stp, Nat.reduceAdd, Int.reduceLT, Int.reduceLE, Int.reduceEq, Int.reduceNe, ne_eq, bne_self_eq_false, beq_self_eq_true, hin, hwi]
      refine hJ (l.length - (i + 1)) _ _ (by omega) ⟨k3, i + 1, rfl, by omega, rfl, fun p hp => ?_⟩
      rw [List.take_add_one, hs] at hp
      rcases List.mem_append.1 hp with hp | hp
      · exact hno p hp
      · simp at hp; subst hp; exact hin
  · have hlt' : ¬ ((i : Int) < (l.length : Int)) := by omega
    simp only [stp, Nat.reduceAdd, Int.reduceLT, Int.reduceLE, Int.reduceEq, Int.reduceNe, ne_eq, bne_self_eq_false, beq_self_eq_true, hlt']
    rw [List.take_of_length_le (by omega)] at hno
    have := hq _ k
    rw [valB_none.2 hno] at this
    exact this
end
end Go.Proofs.YtcekmdpiloegcaaGreat.Mi
