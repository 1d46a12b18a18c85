/- The table of locks: the first block that hinders a request. Conditions: as each says. -/
import Derived.Test.YtiomanikpboclaaTableG
set_option linter.unusedSimpArgs false
set_option linter.unusedVariables false
namespace Go.Proofs.Ytiomanikpboclaa
open Go.Sh Go.Proofs.Ytiomanikpboclaa.Mi
set_option maxRecDepth 100000
section
variable {w w' : World} {Q : Value → World → Prop} {B t : Nat} {s : TS}
theorem ws_at {pa : Option Addr} {ca : Nat} {l : List I5} (h : Rd 5 w (.slice pa l.length ca) l.length (flat enc5 l)) {i : Nat} (hi : i < l.length) :
    ∃ b o, pa = some ⟨b, o, none⟩ ∧ cel w b (o + i * 5) = some (.int .i64 l[i].1) ∧ cel w b (o + i * 5 + 1) = some (.int .i64 l[i].2.1) ∧ cel w b (o + i * 5 + 2) = some (.int .i64 l[i].2.2.1) ∧ cel w b (o + i * 5 + 3) = some (.int .i64 l[i].2.2.2.1) ∧ cel w b (o + i * 5 + 4) = some (.int .i64 l[i].2.2.2.2) := by
  obtain ⟨b, o, c', e, _, hcel⟩ := h.at (by omega)
  injection e with e1 _ e2
  subst e1 e2
  have hb : (i + 1) * 5 ≤ l.length * 5 := Nat.mul_le_mul_right _ hi
  have g : ∀ j, j < 5 → cel w b (o + i * 5 + j) = (enc5 l[i])[j]? := fun j hj => by
    rw [Nat.add_assoc, hcel _ (by omega)]
    exact flat_get (enc := enc5) enc5_len (List.getElem?_eq_getElem hi) (by omega)
  exact ⟨b, o, rfl, g 0 (by omega), g 1 (by omega), g 2 (by omega), g 3 (by omega), g 4 (by omega)⟩
/-- One claim ahead. -/
def wp1 (node a b md : Int) (f : Int) (k : I5) : Int := if meetsB (k.2.2.1, k.2.2.2.1) (a, b) ∧ k.2.1 ≠ node ∧ ¬ fitP k.2.2.2.2 md then min f (max k.2.2.1 a) else f
theorem hinders2 {g : Nat} {node a b md f0 : Int} {pa : Option Addr} {ca : Nat} {A : List I5} (hb : blk w g = some (.cells #[.int .i64 a, .int .i64 b, .int .i64 md] 31)) (hA : Rd 5 w (.slice pa A.length ca) A.length (flat enc5 A)) (hl : A.length ≤ 100000)
    (hq : ∀ w', K0 w w' → Q (.tuple #[.int .i64 (A.foldl (wp1 node a b md) f0), .bool (decide (A.foldl (wp1 node a b md) f0 < b))]) w') :
    P41_1 (.pointer (some ⟨g, 0, none⟩)) (.slice pa A.length ca) (.int .i64 f0) (.int .i64 node) w Q := by
  unfold P41_1
  simp only [stp, Nat.reduceAdd, Int.reduceLT, Int.reduceLE, Int.reduceEq, Int.reduceNe, ne_eq, bne_self_eq_false, beq_self_eq_true]
  refine lpc2 A.length (by omega) (fun i x w' => x = .int .i64 ((A.take i).foldl (wp1 node a b md) f0) ∧ K0 w w') ⟨rfl, K0.refl _⟩ ?_ ?_
  · rintro i x w2 hi ⟨rfl, k2⟩ J hJ _j
    have hi' : (i : Int) < (A.length : Int) := by omega
    obtain ⟨b0, o, rfl, q0, q1, q2, q3, q4⟩ := ws_at (hA.keep0 k2) hi
    have b2 := k2.blk hb (by exact fun h => h)
    obtain ⟨y0, y1, y2⟩ : cel w2 g 0 = some (.int .i64 a) ∧ cel w2 g 1 = some (.int .i64 b) ∧ cel w2 g 2 = some (.int .i64 md) := by
      refine ⟨?_, ?_, ?_⟩ <;> (rw [cel_b b2]; rfl)
    have hst : (A.take (i + 1)).foldl (wp1 node a b md) f0 = wp1 node a b md ((A.take i).foldl (wp1 node a b md) f0) A[i] := by
      rw [List.take_add_one, List.getElem?_eq_getElem hi, Option.toList_some, List.foldl_append]
      rfl
    simp only [stp, Nat.reduceAdd, Int.reduceLT, Int.reduceLE, Int.reduceEq, Int.reduceNe, ne_eq, bne_self_eq_false, beq_self_eq_true, hi']
    refine jn1 (fun x' w' => x' = .int .i64 ((A.take (i + 1)).foldl (wp1 node a b md) f0) ∧ K0 w w') (fun J3 hJ3 => ?_) ?_
    · rw [ix_32 hi]
      simp only [stp, Nat.reduceAdd, Int.reduceLT, Int.reduceLE, Int.reduceEq, Int.reduceNe, ne_eq, bne_self_eq_false, beq_self_eq_true, stm, q0, q1, q2, q3, q4, y0, y1]
      have k3 : K0 w2 (w2.alloc (.cells #[.int .i64 A[i].1, .int .i64 A[i].2.1, .int .i64 A[i].2.2.1, .int .i64 A[i].2.2.2.1, .int .i64 A[i].2.2.2.2] 36)) := (K0.refl w2).alloc _
      have b3 : blk (w2.alloc (.cells #[.int .i64 A[i].1, .int .i64 A[i].2.1, .int .i64 A[i].2.2.1, .int .i64 A[i].2.2.2.1, .int .i64 A[i].2.2.2.2] 36)) (siz w2) = some (.cells #[.int .i64 A[i].1, .int .i64 A[i].2.1, .int .i64 A[i].2.2.1, .int .i64 A[i].2.2.2.1, .int .i64 A[i].2.2.2.2] 36) := blk_alloc_new
      generalize w2.alloc (.cells #[.int .i64 A[i].1, .int .i64 A[i].2.1, .int .i64 A[i].2.2.1, .int .i64 A[i].2.2.2.1, .int .i64 A[i].2.2.2.2] 36) = w3 at k3 b3
      have y0 := k3.cel y0 (by exact fun h => h)
      have y1 := k3.cel y1 (by exact fun h => h)
      simp only [stp, Nat.reduceAdd, Int.reduceLT, Int.reduceLE, Int.reduceEq, Int.reduceNe, ne_eq, bne_self_eq_false, beq_self_eq_true, stm, y0, y1]
      refine meet_c fun w4 g4 => ?_
      have k4 : K0 w3 w4 := g4.1
      have b4 := k4.blk b3 (by exact fun h => h)
      have y2 := k4.cel (k3.cel y2 (by exact fun h => h)) (by exact fun h => h)
      by_cases hm : meetsB (A[i].2.2.1, A[i].2.2.2.1) (a, b)
      case neg =>
        rw [if_neg (show ¬ (ok (A[i].2.2.1, A[i].2.2.2.1) ∧ ok (a, b) ∧ ok (max A[i].2.2.1 a, min A[i].2.2.2.1 b)) from hm)]
        simp only [stp, Nat.reduceAdd, Int.reduceLT, Int.reduceLE, Int.reduceEq, Int.reduceNe, ne_eq, bne_self_eq_false, beq_self_eq_true, stm]
        exact hJ3 _ _ ⟨by rw [hst]; unfold wp1; rw [if_neg fun h => hm h.1], ((k2.trans k3).trans k4).alloc _⟩
      rw [if_pos (show ok (A[i].2.2.1, A[i].2.2.2.1) ∧ ok (a, b) ∧ ok (max A[i].2.2.1 a, min A[i].2.2.2.1 b) from hm)]
      simp only [stp, Nat.reduceAdd, Int.reduceLT, Int.reduceLE, Int.reduceEq, Int.reduceNe, ne_eq, bne_self_eq_false, beq_self_eq_true, stm]
      have k5 : K0 w4 (w4.alloc (.cells #[.int .i64 (max A[i].2.2.1 a), .int .i64 (min A[i].2.2.2.1 b)] 23)) := (K0.refl w4).alloc _
      have b5 : blk (w4.alloc (.cells #[.int .i64 (max A[i].2.2.1 a), .int .i64 (min A[i].2.2.2.1 b)] 23)) (siz w4) = some (.cells #[.int .i64 (max A[i].2.2.1 a), .int .i64 (min A[i].2.2.2.1 b)] 23) := blk_alloc_new
      generalize w4.alloc (.cells #[.int .i64 (max A[i].2.2.1 a), .int .i64 (min A[i].2.2.2.1 b)] 23) = w5 at k5 b5
      have b45 := k5.blk b4 (by exact fun h => h)
      have d1 : cel w5 (siz w2) 1 = some (.int .i64 A[i].2.1) := by rw [cel_b b45]; rfl
      have d4 : cel w5 (siz w2) 4 = some (.int .i64 A[i].2.2.2.2) := by rw [cel_b b45]; rfl
      have e0 : cel w5 (siz w4) 0 = some (.int .i64 (max A[i].2.2.1 a)) := by rw [cel_b b5]; rfl
      have y2 := k5.cel y2 (by exact fun h => h)
      have kk := ((k2.trans k3).trans k4).trans k5
      by_cases hne : A[i].2.1 = node
      · simp only [stp, Nat.reduceAdd, Int.reduceLT, Int.reduceLE, Int.reduceEq, Int.reduceNe, ne_eq, bne_self_eq_false, beq_self_eq_true, stm, d1, hne]
        exact hJ3 _ _ ⟨by rw [hst]; unfold wp1; rw [if_neg fun h => h.2.1 hne], kk⟩
      simp only [stp, Nat.reduceAdd, Int.reduceLT, Int.reduceLE, Int.reduceEq, Int.reduceNe, ne_eq, bne_self_eq_false, beq_self_eq_true, stm, d1, d4, y2, hne]
      refine mfit_c ?_
      by_cases hf : fitP A[i].2.2.2.2 md
      · rw [decide_eq_true (show isMd A[i].2.2.2.2 ∧ isMd md ∧ (A[i].2.2.2.2 = 0 ∨ md = 0 ∨ (A[i].2.2.2.2 = 1 ∧ md = 1)) from hf)]
        simp only [stp, Nat.reduceAdd, Int.reduceLT, Int.reduceLE, Int.reduceEq, Int.reduceNe, ne_eq, bne_self_eq_false, beq_self_eq_true]
        exact hJ3 _ _ ⟨by rw [hst]; unfold wp1; rw [if_neg fun h => h.2.2 hf], kk⟩
      · rw [decide_eq_false (show ¬ (isMd A[i].2.2.2.2 ∧ isMd md ∧ (A[i].2.2.2.2 = 0 ∨ md = 0 ∨ (A[i].2.2.2.2 = 1 ∧ md = 1))) from hf)]
        simp only [stp, Nat.reduceAdd, Int.reduceLT, Int.reduceLE, Int.reduceEq, Int.reduceNe, ne_eq, bne_self_eq_false, beq_self_eq_true, stm, e0]
        exact hJ3 _ _ ⟨by rw [hst]; unfold wp1; rw [if_pos ⟨hm, hne, hf⟩], kk⟩
    · rintro x' w5 ⟨rfl, k5⟩ _j
      exact hJ _ _ ⟨rfl, k5⟩
  · rintro x w2 ⟨rfl, k2⟩ J _j
    have b2 := k2.blk hb (by exact fun h => h)
    have y1 : cel w2 g 1 = some (.int .i64 b) := by rw [cel_b b2]; rfl
    have hn : ¬ ((A.length : Int) < (A.length : Int)) := by omega
    rw [List.take_length]
    simp only [stp, Nat.reduceAdd, Int.reduceLT, Int.reduceLE, Int.reduceEq, Int.reduceNe, ne_eq, bne_self_eq_false, beq_self_eq_true, stm, hn, y1]
    exact hq _ k2.drew
/-- The first block that hinders a request, with these claims ahead of it. -/
def hindF (s : TS) (A : List I5) (node a b md : Int) : Int := A.foldl (wp1 node a b md) (hAll s node a b md s.nodes.toNat)
theorem hinders_c {node a b md : Int} {pa : Option Addr} {ca : Nat} {A : List I5} (h : TL w B t s) (hA : Rd 5 w (.slice pa A.length ca) A.length (flat enc5 A)) (hl : A.length ≤ 100000)
    (hq : ∀ w', K0 w w' → Q (.tuple #[.int .i64 (hindF s A node a b md), .bool (decide (hindF s A node a b md < b))]) w') :
    callS Try.prog 41 #[.pointer (some ⟨t, 0, none⟩), .int .i64 node, .agg #[.int .i64 a, .int .i64 b, .int .i64 md], .slice pa A.length ca] Q w :=
  hinders1 h fun w1 g n hn hb _ k1 => hinders2 hb (hA.keep0 k1) hl fun w2 k2 => by
    have e : n = s.nodes.toNat := by omega
    have := hq w2 (k1.trans k2)
    unfold hindF at this
    rw [← e] at this
    exact this
end
end Go.Proofs.Ytiomanikpboclaa
