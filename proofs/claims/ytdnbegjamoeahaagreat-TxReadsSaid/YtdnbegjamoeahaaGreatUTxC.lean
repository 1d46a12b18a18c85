/- A transaction: check, making, writing. Conditions: as each says. -/
import Derived.Test.YtdnbegjamoeahaaGreatUTxB
import Derived.Test.YtdnbegjamoeahaaGreatULayR
set_option linter.unusedSimpArgs false
set_option linter.unusedVariables false
namespace Go.Proofs.YtdnbegjamoeahaaGreatU
open Go.Sh Go.Proofs.YtdnbegjamoeahaaGreatU.Mi
set_option maxRecDepth 100000
section
variable {w w' : World} {Q : Value → World → Prop} {B t m a b : Nat} {s : TS}
abbrev mdOk (k : I3) : Prop := k.2.2 = 1 ∨ k.2.2 = 2
abbrev spOk (s : Sh5) (k : I3) : Prop := ok (k.1, k.2.1) ∧ k.2.1 ≤ s.blocks
/-- What a check tells. -/
def CkIs (s : Sh5) (L : List I3) (e : Int) : Prop :=
  (¬ s.ok ∧ e = 1) ∨ s.ok ∧ ((L.length = 0 ∨ 16 < L.length) ∧ e = 2 ∨ (0 < L.length ∧ L.length ≤ 16) ∧
    ((¬ (∀ k ∈ L, mdOk k) ∧ e = 1) ∨ (∀ k ∈ L, mdOk k) ∧ ((¬ (∀ k ∈ L, spOk s k) ∧ e = 30) ∨ (∀ k ∈ L, spOk s k) ∧ e = 0)))
theorem all_take {α : Type} {P : α → Prop} {L : List α} (h : ∀ j (hj : j < L.length), P L[j]) : ∀ k ∈ L, P k := fun k hk => by
  obtain ⟨j, hj, rfl⟩ := List.getElem_of_mem hk
  exact h j hj
theorem row_at {v : Value} {L : List I3} {i : Nat} (h : Rd 3 w v L.length (flat enc3 L)) (hi : i < L.length) : ∃ g o c, v = .slice (some ⟨g, o, none⟩) L.length c ∧
    Sh.cel w g (o + i * 3) = some (.int .i64 L[i].1) ∧ Sh.cel w g (o + i * 3 + 1) = some (.int .i64 L[i].2.1) ∧ Sh.cel w g (o + i * 3 + 2) = some (.int .i64 L[i].2.2) := by
  obtain ⟨g, o, c, e, _, hc⟩ := h.at (by omega)
  exact ⟨g, o, c, e, locks_at hc (List.getElem?_eq_getElem hi)⟩
theorem tcheck_c {s : Sh5} {v : Value} {L : List I3} (hL : Rd 3 w v L.length (flat enc3 L)) (hlen : L.length ≤ 1000000) (hq : ∀ w' e, CkIs s L e → K0 w w' → Q (.int .i64 e) w') :
    callS Tryz.prog 105 #[.agg s.vals.toArray, v] Q w := by
  refine ref105 ?_
  unfold S105
  rw [act_box]
  generalize hw1 : w.alloc _ = w1
  have b1 : blk w1 (siz w) = some (.cells s.vals.toArray 142) := by rw [← hw1]; exact blk_alloc_new
  have k1 : K0 w w1 := by rw [← hw1]; exact (K0.refl w).alloc _
  have e0 : Sh.cel w1 (siz w) 0 = some (.int .i64 s.nodes) := cel_b b1 0
  have e1 : Sh.cel w1 (siz w) 1 = some (.int .i64 s.blocks) := cel_b b1 1
  have e2 : Sh.cel w1 (siz w) 2 = some (.int .i64 s.log) := cel_b b1 2
  have e3 : Sh.cel w1 (siz w) 3 = some (.int .i64 s.cache) := cel_b b1 3
  have e4 : Sh.cel w1 (siz w) 4 = some (.int .i64 s.lease) := cel_b b1 4
  simp only [stp, Nat.reduceAdd, Int.reduceLT, Int.reduceLE, Int.reduceEq, Int.reduceNe, ne_eq, bne_self_eq_false, beq_self_eq_true, stm, e0, e1, e2, e3, e4, Option.isSome_some, Option.getD_some]
  refine svalid_c (s := s) (fun w2 hok k2 => ?_) (fun w2 hno k2 => ?_)
  rotate_left
  · simp only [stp, Nat.reduceAdd, Int.reduceLT, Int.reduceLE, Int.reduceEq, Int.reduceNe, ne_eq, bne_self_eq_false, beq_self_eq_true, stm]
    exact hq _ _ (.inl ⟨hno, rfl⟩) (k1.trans k2)
  have hL2 := hL.keep0 (k1.trans k2)
  obtain ⟨pa, ca, rfl⟩ := hL.form
  have k02 := k1.trans k2
  by_cases h0 : L.length = 0
  · have h0' : (L.length : Int) = 0 := by omega
    simp only [stp, Nat.reduceAdd, Int.reduceLT, Int.reduceLE, Int.reduceEq, Int.reduceNe, ne_eq, bne_self_eq_false, beq_self_eq_true, stm, h0']
    exact hq _ _ (.inr ⟨hok, .inl ⟨.inl h0, rfl⟩⟩) k02
  have h0' : ¬ (L.length : Int) = 0 := by omega
  by_cases h16 : (16 : Int) < (L.length : Int)
  · simp only [stp, Nat.reduceAdd, Int.reduceLT, Int.reduceLE, Int.reduceEq, Int.reduceNe, ne_eq, bne_self_eq_false, beq_self_eq_true, stm, h0', h16]
    exact hq _ _ (.inr ⟨hok, .inl ⟨.inr (by omega), rfl⟩⟩) k02
  simp only [stp, Nat.reduceAdd, Int.reduceLT, Int.reduceLE, Int.reduceEq, Int.reduceNe, ne_eq, bne_self_eq_false, beq_self_eq_true, stm, h0', h16]
  have hl16 : 0 < L.length ∧ L.length ≤ 16 := by omega
  refine lpc1 L.length (by omega) (fun i w' => K0 w2 w' ∧ ∀ j (hj : j < L.length), j < i → mdOk L[j]) ⟨K0.refl _, fun j _ h => by omega⟩ (fun i w3 hi ⟨k3, hI⟩ J hJ => ?_) (fun w3 ⟨k3, hI⟩ J => ?_)
  · intro _j
    have hi' : ((i : Int) < (L.length : Int)) := by omega
    obtain ⟨g, o, c, e, p0, p1, p2⟩ := row_at (hL2.keep0 k3) hi
    injection e with eA _ eC
    subst eA eC
    simp only [stp, Nat.reduceAdd, Int.reduceLT, Int.reduceLE, Int.reduceEq, Int.reduceNe, ne_eq, bne_self_eq_false, beq_self_eq_true, hi']
    rw [ix_129 hi]
    simp only [stp, Nat.reduceAdd, Int.reduceLT, Int.reduceLE, Int.reduceEq, Int.reduceNe, ne_eq, bne_self_eq_false, beq_self_eq_true, stm, p0, p1, p2, Option.isSome_some, Option.getD_some]
    generalize hw4 : w3.alloc _ = w4
    have b4 : blk w4 (siz w3) = some (.cells #[.int .i64 L[i].1, .int .i64 L[i].2.1, .int .i64 L[i].2.2] 148) := by rw [← hw4]; exact blk_alloc_new
    have k4 : K0 w3 w4 := by rw [← hw4]; exact (K0.refl w3).alloc _
    have d2 : Sh.cel w4 (siz w3) 2 = some (.int .i64 L[i].2.2) := cel_b b4 2
    have nxt : mdOk L[i] → ∀ j (hj : j < L.length), j < i + 1 → mdOk L[j] := fun hm j hj hji => by
      by_cases e : j = i
      · subst e; exact hm
      · exact hI j hj (by omega)
    by_cases m1 : L[i].2.2 = 1
    · simp only [stp, Nat.reduceAdd, Int.reduceLT, Int.reduceLE, Int.reduceEq, Int.reduceNe, ne_eq, bne_self_eq_false, beq_self_eq_true, stm, d2, Option.isSome_some, Option.getD_some, m1]
      exact hJ _ ⟨k3.trans k4, nxt (.inl m1)⟩
    by_cases m2 : L[i].2.2 = 2
    · simp only [stp, Nat.reduceAdd, Int.reduceLT, Int.reduceLE, Int.reduceEq, Int.reduceNe, ne_eq, bne_self_eq_false, beq_self_eq_true, stm, d2, Option.isSome_some, Option.getD_some, m2]
      exact hJ _ ⟨k3.trans k4, nxt (.inr m2)⟩
    simp only [stp, Nat.reduceAdd, Int.reduceLT, Int.reduceLE, Int.reduceEq, Int.reduceNe, ne_eq, bne_self_eq_false, beq_self_eq_true, stm, d2, Option.isSome_some, Option.getD_some, m1, m2]
    refine hq _ _ (.inr ⟨hok, .inr ⟨hl16, .inl ⟨fun h => ?_, rfl⟩⟩⟩) ((k02.trans k3).trans k4)
    exact (h _ (List.getElem_mem hi)).elim m1 m2
  · intro _j
    have hi' : ¬ ((L.length : Int) < (L.length : Int)) := by omega
    simp only [stp, Nat.reduceAdd, Int.reduceLT, Int.reduceLE, Int.reduceEq, Int.reduceNe, ne_eq, bne_self_eq_false, beq_self_eq_true, hi']
    have hmd : ∀ k ∈ L, mdOk k := all_take fun j hj => hI j hj hj
    refine lpc1 L.length (by omega) (fun i w' => K0 w3 w' ∧ ∀ j (hj : j < L.length), j < i → spOk s L[j]) ⟨K0.refl _, fun j _ h => by omega⟩ (fun i w4 hi ⟨k4, hI'⟩ J' hJ => ?_) (fun w4 ⟨k4, hI'⟩ J' => ?_)
    · intro _j
      have hi' : ((i : Int) < (L.length : Int)) := by omega
      obtain ⟨g, o, c, e, p0, p1, p2⟩ := row_at ((hL2.keep0 k3).keep0 k4) hi
      injection e with eA _ eC
      subst eA eC
      simp only [stp, Nat.reduceAdd, Int.reduceLT, Int.reduceLE, Int.reduceEq, Int.reduceNe, ne_eq, bne_self_eq_false, beq_self_eq_true, hi']
      rw [ix_129 hi]
      simp only [stp, Nat.reduceAdd, Int.reduceLT, Int.reduceLE, Int.reduceEq, Int.reduceNe, ne_eq, bne_self_eq_false, beq_self_eq_true, stm, p0, p1, p2, Option.isSome_some, Option.getD_some]
      generalize hw5 : w4.alloc _ = w5
      have b5 : blk w5 (siz w4) = some (.cells #[.int .i64 L[i].1, .int .i64 L[i].2.1, .int .i64 L[i].2.2] 148) := by rw [← hw5]; exact blk_alloc_new
      have k5 : K0 w4 w5 := by rw [← hw5]; exact (K0.refl w4).alloc _
      have d0 : Sh.cel w5 (siz w4) 0 = some (.int .i64 L[i].1) := cel_b b5 0
      have d1 : Sh.cel w5 (siz w4) 1 = some (.int .i64 L[i].2.1) := cel_b b5 1

      try simp only [stp, Nat.reduceAdd, Int.reduceLT, Int.reduceLE, Int.reduceEq, Int.reduceNe, ne_eq, bne_self_eq_false, beq_self_eq_true, stm, d0, d1, Option.isSome_some, Option.getD_some]
      refine valid_c fun w6 g6 => ?_
      have k6 : K0 w5 w6 := g6.1
      have kk := ((k3.trans k4).trans k5).trans k6
      have d1' : Sh.cel w6 (siz w4) 1 = some (.int .i64 L[i].2.1) := k6.cel d1 id
      have e1' : Sh.cel w6 (siz w) 1 = some (.int .i64 s.blocks) := (k2.trans kk).cel e1 id
      have nxt : spOk s L[i] → ∀ j (hj : j < L.length), j < i + 1 → spOk s L[j] := fun hm j hj hji => by
        by_cases e : j = i
        · subst e; exact hm
        · exact hI' j hj (by omega)
      have bad : ¬ spOk s L[i] → CkIs s L 30 := fun hb => .inr ⟨hok, .inr ⟨hl16, .inr ⟨hmd, .inl ⟨fun h => hb (h _ (List.getElem_mem hi)), rfl⟩⟩⟩⟩
      by_cases hv : ok (L[i].1, L[i].2.1)
      · by_cases hr : s.blocks < L[i].2.1
        · simp only [stp, Nat.reduceAdd, Int.reduceLT, Int.reduceLE, Int.reduceEq, Int.reduceNe, ne_eq, bne_self_eq_false, beq_self_eq_true, stm, hv, hr, d1', e1', Option.isSome_some, Option.getD_some, decide_true]
          exact hq _ _ (bad fun h => by have := h.2; omega) (k02.trans kk)
        · simp only [stp, Nat.reduceAdd, Int.reduceLT, Int.reduceLE, Int.reduceEq, Int.reduceNe, ne_eq, bne_self_eq_false, beq_self_eq_true, stm, hv, hr, d1', e1', Option.isSome_some, Option.getD_some, decide_true]
          exact hJ _ ⟨(k4.trans k5).trans k6, nxt ⟨hv, by omega⟩⟩
      · simp only [stp, Nat.reduceAdd, Int.reduceLT, Int.reduceLE, Int.reduceEq, Int.reduceNe, ne_eq, bne_self_eq_false, beq_self_eq_true, stm, hv, decide_false]
        exact hq _ _ (bad fun h => hv h.1) (k02.trans kk)
    · intro _j
      simp only [stp, Nat.reduceAdd, Int.reduceLT, Int.reduceLE, Int.reduceEq, Int.reduceNe, ne_eq, bne_self_eq_false, beq_self_eq_true, hi']
      exact hq _ _ (.inr ⟨hok, .inr ⟨hl16, .inr ⟨hmd, .inr ⟨all_take fun j hj => hI' j hj hj, rfl⟩⟩⟩⟩) ((k02.trans k3).trans k4)
end
end Go.Proofs.YtdnbegjamoeahaaGreatU
