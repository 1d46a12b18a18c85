/- The table of locks: what is to be let go, of all requests; whether all fits. Conditions: as each says. -/
import Derived.Test.YtiomanikpboclaaTableU
set_option linter.unusedSimpArgs false
set_option linter.unusedVariables false
namespace Go.Proofs.Ytiomanikpboclaa
open Go.Sh Go.Proofs.Ytiomanikpboclaa.Mi
set_option maxRecDepth 100000
section
variable {w w' : World} {Q : Value → World → Prop} {B t : Nat} {s : TS}
theorem rev_ws {ta : Nat} {tms : List Nat} {w0 : World} (h0 : TL w0 B t s) (hok : WsOk s.ws) (k0 : K0 w0 w) (hA : TA w (siz w0) ta tms (List.replicate 17 []))
    (hq : ∀ w' v', Own w' (siz w0) 58 4 v' (revF s).length (flat encR (revF s)) → K0 w0 w' → Q v' w') :
    P18_1 (.pointer (some ⟨ta, 0, none⟩)) (.pointer (some ⟨t, 0, none⟩)) w Q := by
  unfold P18_1
  obtain ⟨ms, wv, hs⟩ := id (h0.keep0 k0)
  have c18 := hs.c18
  have hwr := hs.wr.rd
  obtain ⟨pa, ca, rfl⟩ := hwr.form
  have hW := hok.1
  have toK : ∀ {w'}, KO (siz w0) rp w w' → K0 w0 w' := fun k => k0.trans' (k.below (Nat.le_refl _)) fun b hb e => by omega
  simp only [stp, Nat.reduceAdd, Int.reduceLT, Int.reduceLE, Int.reduceEq, Int.reduceNe, ne_eq, bne_self_eq_false, beq_self_eq_true, stm, c18]
  refine lpc2 s.ws.length (by omega) (fun i x w' => TA w' (siz w0) ta tms (revG s (s.ws.take i)).1 ∧ Own w' (siz w0) 58 4 x (revG s (s.ws.take i)).2.length (flat encR (revG s (s.ws.take i)).2) ∧ (revG s (s.ws.take i)).2.length ≤ 80000 * i ∧ KO (siz w0) rp w w')
    ⟨hA, Own.nil _ _ _ _, Nat.le_refl _, KO.refl _ _ _⟩ ?_ ?_
  · rintro i x w1 hi ⟨a1, o1, hl1, k1⟩ J hJ _j
    have hi' : (i : Int) < (s.ws.length : Int) := by omega
    have hst : revG s (s.ws.take (i + 1)) = revK s s.ws[i] (revG s (s.ws.take i)) s.nodes.toNat := by
      rw [List.take_add_one, List.getElem?_eq_getElem hi, Option.toList_some, revG_snoc]
    obtain ⟨ms1, wv1, h1⟩ := id (h0.keep0 (toK k1))
    have hwr1 : Rd 5 w1 (.slice pa s.ws.length ca) s.ws.length (flat enc5 s.ws) := by
      refine hwr.keep k1 fun g hg hlt e => ?_
      obtain ⟨hgB, cs, hc⟩ := own_ty hs.wr hg
      obtain ⟨o', ho', hp'⟩ := e.2
      rw [hc] at ho'
      injection ho' with ho'
      subst ho'
      cases hp'
    obtain ⟨b0, o, rfl, q0, q1, q2, q3, q4⟩ := ws_at hwr1 hi
    simp only [stp, Nat.reduceAdd, Int.reduceLT, Int.reduceLE, Int.reduceEq, Int.reduceNe, ne_eq, bne_self_eq_false, beq_self_eq_true, hi']
    rw [ix_32 hi]
    simp only [stp, Nat.reduceAdd, Int.reduceLT, Int.reduceLE, Int.reduceEq, Int.reduceNe, ne_eq, bne_self_eq_false, beq_self_eq_true, stm, q0, q1, q2, q3, q4]
    rw [hst] at hJ
    generalize s.ws[i] = k at *
    generalize revG s (s.ws.take i) = g at *
    have k2 : K0 w1 (w1.alloc (.cells #[.int .i64 k.1, .int .i64 k.2.1, .int .i64 k.2.2.1, .int .i64 k.2.2.2.1, .int .i64 k.2.2.2.2] 36)) := (K0.refl w1).alloc _
    have b2 : blk (w1.alloc (.cells #[.int .i64 k.1, .int .i64 k.2.1, .int .i64 k.2.2.1, .int .i64 k.2.2.2.1, .int .i64 k.2.2.2.2] 36)) (siz w1) = some (.cells #[.int .i64 k.1, .int .i64 k.2.1, .int .i64 k.2.2.1, .int .i64 k.2.2.2.1, .int .i64 k.2.2.2.2] 36) := blk_alloc_new
    generalize w1.alloc (.cells #[.int .i64 k.1, .int .i64 k.2.1, .int .i64 k.2.2.1, .int .i64 k.2.2.2.1, .int .i64 k.2.2.2.2] 36) = w2 at k2 b2
    refine rev_nodes h0 ((toK k1).trans k2) (a1.keep0 k2) b2 (o1.keep k2 fun _ _ e => e) (by omega) fun xo' w3 k3 a3 o3 hl3 ko3 => ?_
    rw [pur_add]
    exact hJ _ _ ⟨a3, o3, by omega, (k1.trans (KO.of0 k2)).trans ko3⟩
  · rintro x w1 ⟨a1, o1, hl1, k1⟩ J _j
    have hn : ¬ ((s.ws.length : Int) < (s.ws.length : Int)) := by omega
    rw [List.take_length] at o1
    simp only [stp, Nat.reduceAdd, Int.reduceLT, Int.reduceLE, Int.reduceEq, Int.reduceNe, ne_eq, bne_self_eq_false, beq_self_eq_true, hn]
    exact hq _ _ o1 (toK k1)
theorem trevokes_c (h : TL w B t s) (hok : WsOk s.ws) (hq : ∀ w' v', Own w' (siz w) 58 4 v' (revF s).length (flat encR (revF s)) → K0 w w' → Q v' w') :
    callS Try.prog 18 #[.pointer (some ⟨t, 0, none⟩)] Q w := by
  refine ref18 ?_
  rw [cut18]
  unfold P18_0
  simp only [stp, Nat.reduceAdd, Int.reduceLT, Int.reduceLE, Int.reduceEq, Int.reduceNe, ne_eq, bne_self_eq_false, beq_self_eq_true, stm]
  have kA := (K0.refl w).alloc (.cells (List.replicate 17 (Value.pointer none)).toArray 47)
  have bA : blk (w.alloc (.cells (List.replicate 17 (Value.pointer none)).toArray 47)) (siz w) = some (.cells (List.replicate 17 (Value.pointer none)).toArray 47) := blk_alloc_new
  change lp 1 _ _ (w.alloc (.cells (List.replicate 17 (Value.pointer none)).toArray 47))
  generalize w.alloc (.cells (List.replicate 17 (Value.pointer none)).toArray 47) = wA at kA bA
  refine lpc1 17 (by omega) (fun i w' => ∃ ms : List Nat, ms.length = i ∧ blk w' (siz w) = some (.cells (ptrs ms ++ List.replicate (17 - i) (Value.pointer none)).toArray 47) ∧ (∀ m ∈ ms, IM w' m [] ∧ siz w < m ∧ m < siz w') ∧ ms.Nodup ∧ K0 w w') ⟨[], rfl, bA, fun m hm => (by cases hm), List.nodup_nil, kA⟩ ?_ ?_
  · rintro i w1 hi ⟨ms, hl, hb, hm, hnd, k1⟩ J hJ _j
    have hi' : (i : Int) < 17 := by omega
    simp only [stp, Nat.reduceAdd, Int.reduceLT, Int.reduceLE, Int.reduceEq, Int.reduceNe, ne_eq, bne_self_eq_false, beq_self_eq_true, hi']
    refine new_c fun w2 m2 k2 => ?_
    have hb2 := k2.blk hb id
    have s2 := m2.lt
    have hlt := blk_lt hb
    have hP : i < (ptrs ms ++ List.replicate (17 - i) (Value.pointer none)).length := by simp [ptrs, hl]; omega
    have iP : (cel w2 (siz w) (0 + i)).isSome = true := by rw [cel_b hb2, Nat.zero_add, List.getElem?_toArray, List.getElem?_eq_getElem hP]; rfl
    rw [ixa hi, st_46 one_ptr iP (fre_b hb2)]
    have k3 : Keep (fun b => b = siz w) w2 (sto w2 (siz w) (0 + i) (.pointer (some ⟨siz w1, 0, none⟩))) := (Keep.refl (fun b => b = siz w) w2).sto (.inl rfl) _ _
    have hset : (ptrs ms ++ List.replicate (17 - i) (Value.pointer none)).set i (.pointer (some ⟨siz w1, 0, none⟩)) = ptrs (ms ++ [siz w1]) ++ List.replicate (17 - (i + 1)) (Value.pointer none) := by
      have e : 17 - i = (17 - (i + 1)) + 1 := by omega
      rw [e, List.replicate_succ, List.set_append_right _ _ (by simp [ptrs, hl])]
      simp [ptrs, hl]
    rw [Nat.zero_add] at k3
    simp only [stp, Nat.reduceAdd, Int.reduceLT, Int.reduceLE, Int.reduceEq, Int.reduceNe, ne_eq, bne_self_eq_false, beq_self_eq_true]
    refine hJ _ ⟨ms ++ [siz w1], by simp [hl], ?_, fun m hm' => ?_, ?_, ?_⟩
    · rw [blk_sto hb2, List.setIfInBounds_toArray, hset]
    · rw [List.mem_append, List.mem_singleton] at hm'
      have ss := k3.size
      rcases hm' with hm' | rfl
      · obtain ⟨q1, q2, q3⟩ := hm m hm'
        exact ⟨im_keepT (q1.keep0 k2) hb2 (by decide) (by decide) k3, q2, by have := k2.size; omega⟩
      · exact ⟨im_keepT m2 hb2 (by decide) (by decide) k3, by omega, by omega⟩
    · rw [List.nodup_append]
      exact ⟨hnd, by simp, fun a ha b hb' e => by rw [List.mem_singleton] at hb'; have := (hm a ha).2.2; omega⟩
    · exact (k1.trans k2).trans' k3 fun b hb' e => by omega
  · rintro w1 ⟨ms, hl, hb, hm, hnd, k1⟩ J _j
    have hn' : ¬ ((17 : Nat) : Int) < 17 := by omega
    simp only [stp, Nat.reduceAdd, Int.reduceLT, Int.reduceLE, Int.reduceEq, Int.reduceNe, ne_eq, bne_self_eq_false, beq_self_eq_true, hn']
    have e : ptrs ms ++ List.replicate (17 - 17) (Value.pointer none) = ptrs ms := by simp
    rw [e] at hb
    refine rev_ws h hok k1 (tms := ms) { b := hb, n := hl, tn := rfl, nd := hnd, ge := Nat.le_refl _, gm := fun m hm' => by have := (hm m hm').2.1; omega, h := fun i m l h1 h2 => ?_ } hq
    have : l = [] := by
      rw [List.getElem?_replicate] at h2
      split at h2
      · injection h2 with h2; exact h2.symm
      · cases h2
    subst this
    exact ⟨(hm m (List.mem_of_getElem? h1)).1, fun p hp => by cases hp⟩
/-! ### whether all fits -/
def soundP (s : TS) : Prop := ∀ (n : Nat) l, 1 ≤ n → (n : Int) ≤ s.nodes → s.hs[n]? = some l → ∀ q ∈ l, ∀ (o : Nat) l', 1 ≤ o → (o : Int) ≤ s.nodes → (o : Int) ≠ (n : Int) → s.hs[o]? = some l' → ∀ p ∈ partsL q.1 l', fitP p.2 q.2
theorem tsound_c (h : TL w B t s) (hq : ∀ w' r, (r = true ↔ soundP s) → K0 w w' → Q (.bool r) w') : callS Try.prog 19 #[.pointer (some ⟨t, 0, none⟩)] Q w := by
  refine ref19 ?_
  unfold S19
  obtain ⟨ms, wv, hs⟩ := id h
  have hnn := hs.nn
  simp only [stp, Nat.reduceAdd, Int.reduceLT, Int.reduceLE, Int.reduceEq, Int.reduceNe, ne_eq, bne_self_eq_false, beq_self_eq_true, stm]
  refine lp1 (fun m x w' => ∃ o : Nat, 1 ≤ o ∧ (o : Int) ≤ s.nodes + 1 ∧ x = .int .i64 (o : Int) ∧ m = 17 - o ∧ K0 w w' ∧ ∀ (n : Nat) l, 1 ≤ n → n < o → s.hs[n]? = some l → ∀ q ∈ l, ∀ (o : Nat) l', 1 ≤ o → (o : Int) ≤ s.nodes → (o : Int) ≠ (n : Int) → s.hs[o]? = some l' → ∀ p ∈ partsL q.1 l', fitP p.2 q.2) 16 ⟨1, Nat.le_refl _, by omega, rfl, rfl, K0.refl _, fun o' l h1 h2 => by omega⟩ ?_
  rintro m x w1 ⟨o, ho1, ho2, rfl, rfl, k1, hall⟩ J hJ _j
  have h1 := h.keep0 k1
  obtain ⟨_, _, h1r⟩ := id h1
  have c0 := h1r.c0
  by_cases hle : (o : Int) ≤ s.nodes
  case neg =>
    simp only [stp, Nat.reduceAdd, Int.reduceLT, Int.reduceLE, Int.reduceEq, Int.reduceNe, ne_eq, bne_self_eq_false, beq_self_eq_true, stm, c0, hle]
    exact hq _ _ ⟨fun _ n l q1 q2 q3 => hall n l q1 (by omega) q3, fun _ => rfl⟩ k1
  have hlt : o < 17 := by omega
  have hwr : IntKind.i64.wrap ((o : Int) + 1) = ((o + 1 : Nat) : Int) := wrap_succ (by omega)
  simp only [stp, Nat.reduceAdd, Int.reduceLT, Int.reduceLE, Int.reduceEq, Int.reduceNe, ne_eq, bne_self_eq_false, beq_self_eq_true, stm, c0, hle]
  refine tholds_c h1 ho1 hle fun w2 v2 l e2 hcl hdl o2 k2 => ?_
  have hlL := asLocks_len l
  have hln := canon_len (n := 4096) hcl hdl
  rw [hlL] at o2
  obtain ⟨p2, c2, rfl⟩ := o2.form
  have h2 := h1.keep0 k2
  simp only [stp, Nat.reduceAdd, Int.reduceLT, Int.reduceLE, Int.reduceEq, Int.reduceNe, ne_eq, bne_self_eq_false, beq_self_eq_true]
  refine lpc1 l.length (by omega) (fun j w' => K0 w2 w' ∧ ∀ q ∈ l.take j, ∀ (o' : Nat) l', 1 ≤ o' → (o' : Int) ≤ s.nodes → (o' : Int) ≠ (o : Int) → s.hs[o']? = some l' → ∀ p ∈ partsL q.1 l', fitP p.2 q.2) ⟨K0.refl _, fun q hq => by cases hq⟩ ?_ ?_
  · rintro j w3 hj ⟨k3, hgood⟩ J2 hJ2 _j
    have hj' : (j : Int) < (l.length : Int) := by omega
    obtain ⟨gg, cg, e, _, _, _, _, _, hcel⟩ := (o2.keep k3 fun _ _ e => e).at (by omega)
    injection e with e1' _ e2'
    subst e1' e2'
    have hLj : (asLocks l)[j]? = some (l[j].1.1, l[j].1.2, l[j].2) := by
      unfold asLocks
      rw [List.getElem?_map, List.getElem?_eq_getElem hj]; rfl
    obtain ⟨u0, u1, u2⟩ := locks_at (b := gg) (o := 0) (L := asLocks l) (fun i hi => by rw [Nat.zero_add]; exact hcel i (by rw [hlL] at hi; exact hi)) hLj
    rw [Nat.zero_add] at u0 u1 u2
    simp only [stp, Nat.reduceAdd, Int.reduceLT, Int.reduceLE, Int.reduceEq, Int.reduceNe, ne_eq, bne_self_eq_false, beq_self_eq_true, hj']
    rw [ix_43 hj, Nat.zero_add]
    simp only [stp, Nat.reduceAdd, Int.reduceLT, Int.reduceLE, Int.reduceEq, Int.reduceNe, ne_eq, bne_self_eq_false, beq_self_eq_true, stm, u0, u1, u2]
    have k4 : K0 w3 (w3.alloc (.cells #[.int .i64 l[j].1.1, .int .i64 l[j].1.2, .int .i64 l[j].2] 31)) := (K0.refl w3).alloc _
    refine fits_c ((h2.keep0 k3).keep0 k4) fun w5 r hr k5 => ?_
    have kk := (k3.trans k4).trans k5
    cases r with
    | true =>
      simp only [stp, Nat.reduceAdd, Int.reduceLT, Int.reduceLE, Int.reduceEq, Int.reduceNe, ne_eq, bne_self_eq_false, beq_self_eq_true]
      refine hJ2 _ ⟨kk, fun q hq => ?_⟩
      rw [List.take_add_one, List.getElem?_eq_getElem hj, Option.toList_some, List.mem_append, List.mem_singleton] at hq
      rcases hq with hq | rfl
      · exact hgood q hq
      · exact fun o' l' g1 g2 g3 g4 => hr.1 rfl o' l' g1 g2 g3 g4
    | false =>
      simp only [stp, Nat.reduceAdd, Int.reduceLT, Int.reduceLE, Int.reduceEq, Int.reduceNe, ne_eq, bne_self_eq_false, beq_self_eq_true]
      refine hq _ _ ⟨fun h => (by cases h), fun hs => ?_⟩ ((k1.trans k2).trans kk)
      exact hr.2 fun o' l' g1 g2 g3 g4 => hs o l ho1 hle e2 _ (List.getElem_mem hj) o' l' g1 g2 g3 g4
  · rintro w3 ⟨k3, hgood⟩ J2 _j
    have hn : ¬ ((l.length : Int) < (l.length : Int)) := by omega
    rw [List.take_length] at hgood
    simp only [stp, Nat.reduceAdd, Int.reduceLT, Int.reduceLE, Int.reduceEq, Int.reduceNe, ne_eq, bne_self_eq_false, beq_self_eq_true, hn, hwr]
    refine hJ (17 - (o + 1)) _ _ (by omega) ⟨o + 1, by omega, by omega, rfl, rfl, (k1.trans k2).trans k3, fun n l' g1 g2 g3 => ?_⟩
    rcases Nat.lt_succ_iff_lt_or_eq.1 g2 with g | rfl
    · exact hall n l' g1 g g3
    · have e2' : s.hs[n]? = some l := e2
      rw [e2'] at g3
      injection g3 with g3
      subst g3
      exact hgood
end
end Go.Proofs.Ytiomanikpboclaa
