/- The table of locks: which nodes and locks are right; what a node holds. Conditions: as each says. -/
import Derived.Test.YtiomanikpboclaaTableA
set_option linter.unusedSimpArgs false
set_option linter.unusedVariables false
namespace Go.Proofs.Ytiomanikpboclaa
open Go.Sh Go.Proofs.Ytiomanikpboclaa.Mi
set_option maxRecDepth 100000
section
variable {w w' : World} {Q : Value → World → Prop} {B t : Nat} {s : TS}
theorem is_c {nodes node : Int} (hc : cel w t 0 = some (.int .i64 nodes)) (hq : Q (.bool (decide (1 ≤ node ∧ node ≤ nodes))) w) : callS Try.prog 21 #[.pointer (some ⟨t, 0, none⟩), .int .i64 node] Q w := by
  refine ref21 ?_
  unfold S21
  by_cases h1 : 1 ≤ node
  · by_cases h2 : node ≤ nodes
    · simp only [stp, Nat.reduceAdd, Int.reduceLT, Int.reduceLE, Int.reduceEq, Int.reduceNe, ne_eq, bne_self_eq_false, beq_self_eq_true, stm, h1, h2, hc]
      rw [decide_eq_true ⟨h1, h2⟩] at hq
      exact hq
    · simp only [stp, Nat.reduceAdd, Int.reduceLT, Int.reduceLE, Int.reduceEq, Int.reduceNe, ne_eq, bne_self_eq_false, beq_self_eq_true, stm, h1, h2, hc]
      rw [decide_eq_false fun h => h2 h.2] at hq
      exact hq
  · simp only [stp, Nat.reduceAdd, Int.reduceLT, Int.reduceLE, Int.reduceEq, Int.reduceNe, ne_eq, bne_self_eq_false, beq_self_eq_true, stm, h1]
    rw [decide_eq_false fun h => h1 h.1] at hq
    exact hq
theorem is_nil {node : Int} (hq : Q (.bool false) w) : callS Try.prog 21 #[.pointer none, .int .i64 node] Q w := by
  refine ref21 ?_
  unfold S21
  simp only [stp, Nat.reduceAdd, Int.reduceLT, Int.reduceLE, Int.reduceEq, Int.reduceNe, ne_eq, bne_self_eq_false, beq_self_eq_true, stm]
  exact hq
theorem TLr.c0 {ms : List Nat} {wv : Value} (h : TLr w B t s ms wv) : cel w t 0 = some (.int .i64 s.nodes) := by rw [cel_b h.b]; rfl
/-- A node's map. -/
theorem TLr.node {ms : List Nat} {wv : Value} (h : TLr w B t s ms wv) {i : Nat} (hi : i < 17) : ∃ m l, ms[i]? = some m ∧ s.hs[i]? = some l ∧ cel w t (1 + i) = some (.pointer (some ⟨m, 0, none⟩)) ∧ IM w m l ∧ Bd 4096 l := by
  have h1 : i < ms.length := by rw [h.n]; exact hi
  have h2 : i < s.hs.length := by rw [h.hn]; exact hi
  refine ⟨ms[i], s.hs[i], List.getElem?_eq_getElem h1, List.getElem?_eq_getElem h2, ?_, h.h i _ _ (List.getElem?_eq_getElem h1) (List.getElem?_eq_getElem h2)⟩
  rw [cel_b h.b, tcells_get (by simpa [ptrs] using h1)]
  simp [ptrs, List.getElem?_map, List.getElem?_eq_getElem h1]
/-- A lock that can be asked for. -/
def rightL (k : I3) : Prop := ok (k.1, k.2.1) ∧ k.2.1 ≤ 4096 ∧ (k.2.2 = 1 ∨ k.2.2 = 2)
instance (k : I3) : Decidable (rightL k) := by unfold rightL ok; infer_instance
theorem right_c {a b md : Int} (hq : ∀ w', K0 w w' → Q (.bool (decide (rightL (a, b, md)))) w') : callS Try.prog 22 #[.agg #[.int .i64 a, .int .i64 b, .int .i64 md]] Q w := by
  refine ref22 ?_
  unfold S22
  simp only [stp, Nat.reduceAdd, Int.reduceLT, Int.reduceLE, Int.reduceEq, Int.reduceNe, ne_eq, bne_self_eq_false, beq_self_eq_true, stm, act_box, agg_cells]
  have b1 : blk (w.alloc (.cells #[.int .i64 a, .int .i64 b, .int .i64 md] 31)) (siz w) = some (.cells #[.int .i64 a, .int .i64 b, .int .i64 md] 31) := blk_alloc_new
  have k1 : K0 w (w.alloc (.cells #[.int .i64 a, .int .i64 b, .int .i64 md] 31)) := (K0.refl w).alloc _
  generalize w.alloc (.cells #[.int .i64 a, .int .i64 b, .int .i64 md] 31) = w1 at b1 k1
  refine valid_c fun w2 g2 => ?_
  have k2 : K0 w1 w2 := g2.1
  have b2 := k2.blk b1 id
  have kk := k1.trans k2
  have c1 : cel w2 (siz w) 1 = some (.int .i64 b) := by rw [cel_b b2]; rfl
  have c2 : cel w2 (siz w) 2 = some (.int .i64 md) := by rw [cel_b b2]; rfl
  have fin : ∀ r : Bool, (r = true ↔ rightL (a, b, md)) → Q (.bool r) w2 := fun r hr => by
    have e : r = decide (rightL (a, b, md)) := by
      cases r with
      | true => rw [decide_eq_true (hr.1 rfl)]
      | false => rw [decide_eq_false fun h => by have := hr.2 h; cases this]
    rw [e]
    exact hq _ kk
  by_cases h0 : ok (a, b)
  · by_cases h1 : b ≤ 4096
    · by_cases h2 : md = 1
      · rw [decide_eq_true h0]
        simp only [stp, Nat.reduceAdd, Int.reduceLT, Int.reduceLE, Int.reduceEq, Int.reduceNe, ne_eq, bne_self_eq_false, beq_self_eq_true, stm, c1, c2, h1, h2]
        exact fin _ (by simp [rightL, h0, h1, h2])
      · by_cases h3 : md = 2
        · have h2' : ¬ (2 : Int) = 1 := by omega
          rw [decide_eq_true h0]
          simp only [stp, Nat.reduceAdd, Int.reduceLT, Int.reduceLE, Int.reduceEq, Int.reduceNe, ne_eq, bne_self_eq_false, beq_self_eq_true, stm, c1, c2, h1, h3, h2']
          exact fin _ (by simp [rightL, h0, h1, h3])
        · rw [decide_eq_true h0]
          simp only [stp, Nat.reduceAdd, Int.reduceLT, Int.reduceLE, Int.reduceEq, Int.reduceNe, ne_eq, bne_self_eq_false, beq_self_eq_true, stm, c1, c2, h1, h2, h3]
          exact fin _ (by simp [rightL, h0, h1, h2, h3])
    · rw [decide_eq_true h0]
      simp only [stp, Nat.reduceAdd, Int.reduceLT, Int.reduceLE, Int.reduceEq, Int.reduceNe, ne_eq, bne_self_eq_false, beq_self_eq_true, stm, c1, c2, h1]
      exact fin _ (by simp [rightL, h1])
  · rw [decide_eq_false h0]
    simp only [stp, Nat.reduceAdd, Int.reduceLT, Int.reduceLE, Int.reduceEq, Int.reduceNe, ne_eq, bne_self_eq_false, beq_self_eq_true]
    exact fin _ (by simp [rightL, h0])
theorem tmode_no {node x : Int} (h : TL w B t s) (hn : ¬ (1 ≤ node ∧ node ≤ s.nodes)) (hq : Q (.int .i64 0) w) : callS Try.prog 12 #[.pointer (some ⟨t, 0, none⟩), .int .i64 node, .int .i64 x] Q w := by
  refine ref12 ?_
  unfold S12
  obtain ⟨ms, wv, h⟩ := h
  refine is_c h.c0 ?_
  rw [decide_eq_false hn]
  simp only [stp, Nat.reduceAdd, Int.reduceLT, Int.reduceLE, Int.reduceEq, Int.reduceNe, ne_eq, bne_self_eq_false, beq_self_eq_true]
  exact hq
theorem tmode_c {i : Nat} {x : Int} (h : TL w B t s) (hi : 1 ≤ i) (hi' : (i : Int) ≤ s.nodes) (hq : ∀ w' l, s.hs[i]? = some l → K0 w w' → Q (.int .i64 ((valB l x).getD 0)) w') :
    callS Try.prog 12 #[.pointer (some ⟨t, 0, none⟩), .int .i64 (i : Int), .int .i64 x] Q w := by
  refine ref12 ?_
  unfold S12
  obtain ⟨ms, wv, h⟩ := h
  refine is_c h.c0 ?_
  rw [decide_eq_true ⟨by omega, hi'⟩]
  have hlt : i < 17 := by have := h.nn.2; omega
  obtain ⟨m, l, e1, e2, e3, hm, hd⟩ := h.node hlt
  have hl := canon_len (n := 4096) hm.canon hd
  simp only [stp, Nat.reduceAdd, Int.reduceLT, Int.reduceLE, Int.reduceEq, Int.reduceNe, ne_eq, bne_self_eq_false, beq_self_eq_true]
  rw [ixa hlt]
  simp only [stp, Nat.reduceAdd, Int.reduceLT, Int.reduceLE, Int.reduceEq, Int.reduceNe, ne_eq, bne_self_eq_false, beq_self_eq_true, stm, e3]
  refine get_c hm (by omega) fun w1 k1 => ?_
  simp only [stp, Nat.reduceAdd, Int.reduceLT, Int.reduceLE, Int.reduceEq, Int.reduceNe, ne_eq, bne_self_eq_false, beq_self_eq_true]
  have := hq w1 l e2 k1
  cases hv : valB l x with
  | none => rw [hv] at this; exact this
  | some v => rw [hv] at this; exact this
end
end Go.Proofs.Ytiomanikpboclaa
