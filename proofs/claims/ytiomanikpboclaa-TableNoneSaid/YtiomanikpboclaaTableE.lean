/- The table of locks: a node's map turns; of a nil and of a zero table. Conditions: as each says. -/
import Derived.Test.YtiomanikpboclaaTableD
set_option linter.unusedSimpArgs false
set_option linter.unusedVariables false
namespace Go.Proofs.Ytiomanikpboclaa
open Go.Sh Go.Proofs.Ytiomanikpboclaa.Mi
set_option maxRecDepth 100000
section
variable {w w' : World} {Q : Value → World → Prop} {B t : Nat} {s : TS}
/-- A node's map is another one. -/
theorem TLr.turn {ms : List Nat} {wv : Value} {i m : Nat} {l' : List (Pt Int)} (h : TLr w B t s ms wv) (hi : ms[i]? = some m) (k : Keep (fun b => b = m) w w') (hm : IM w' m l') (hd : Bd 4096 l') : TLr w' B t { s with hs := s.hs.set i l' } ms wv := by
  have hlt : i < ms.length := (List.getElem?_eq_some_iff.1 hi).1
  obtain ⟨m0, l0, e1, _, _, hm0, _⟩ := h.node (i := i) (by rw [← h.n]; exact hlt)
  have e : m0 = m := by rw [hi] at e1; injection e1 with e1; exact e1.symm
  subst e
  obtain ⟨_, hb0⟩ := im_blk hm0
  exact { h with
    b := k.blk h.b fun e => ne_of_ty h.b hb0 (by decide) e
    hn := by simpa using h.hn
    h := fun j n l h1 h2 => by
      have h2 : (s.hs.set i l')[j]? = some l := h2
      by_cases hij : j = i
      · subst hij
        rw [hi] at h1
        injection h1 with h1
        subst h1
        rw [List.getElem?_set_self (by rw [h.hn, ← h.n]; exact hlt)] at h2
        injection h2 with h2
        subst h2
        exact ⟨hm, hd⟩
      · rw [List.getElem?_set_ne (Ne.symm hij)] at h2
        obtain ⟨q1, q2⟩ := h.h j n l h1 h2
        have hjl : j < ms.length := (List.getElem?_eq_some_iff.1 h1).1
        refine ⟨q1.keepM hm0 (fun e => hij ?_) k, q2⟩
        subst e
        exact (List.getElem?_inj hjl h.nd).1 (h1.trans hi.symm)
    wr := own_keepT h.wr k fun g cs hg e => ne_of_ty hg hb0 (by decide) e }
theorem TLr.ko {ms : List Nat} {wv : Value} {i m : Nat} (h : TLr w B t s ms wv) (hi : ms[i]? = some m) (k : Keep (fun b => b = m) w w') : KO B tp w w' := by
  have hlt : i < ms.length := (List.getElem?_eq_some_iff.1 hi).1
  obtain ⟨m0, l0, e1, _, _, hm0, _⟩ := h.node (i := i) (by rw [← h.n]; exact hlt)
  have e : m0 = m := by rw [hi] at e1; injection e1 with e1; exact e1.symm
  subst e
  obtain ⟨cs, hb0⟩ := im_blk hm0
  exact KO.ofB k fun b e => by
    have e : b = m0 := e
    subst e
    exact ⟨h.Bm _ (List.mem_of_getElem? hi), _, hb0, rfl⟩
/-! ### of a nil table -/
theorem task_nil {node : Int} {v : Value} (hv : ∃ a b md : Int, v = .agg #[.int .i64 a, .int .i64 b, .int .i64 md]) (hq : ∀ w', K0 w w' → Q (.tuple #[.int .i64 0, .bool false, .int .i64 1]) w') : callS Try.prog 10 #[.pointer none, .int .i64 node, v] Q w := by
  refine ref10 ?_
  unfold S10
  obtain ⟨a, b, md, rfl⟩ := hv
  simp only [act_box, agg_cells]
  refine is_nil ?_
  simp only [stp, Nat.reduceAdd, Int.reduceLT, Int.reduceLE, Int.reduceEq, Int.reduceNe, ne_eq, bne_self_eq_false, beq_self_eq_true]
  exact hq _ ((K0.refl w).alloc _)
theorem tforce_nil {node : Int} {v : Value} (hv : ∃ a b md : Int, v = .agg #[.int .i64 a, .int .i64 b, .int .i64 md]) (hq : ∀ w', K0 w w' → Q (.int .i64 1) w') : callS Try.prog 16 #[.pointer none, .int .i64 node, v] Q w := by
  refine ref16 ?_
  unfold S16
  obtain ⟨a, b, md, rfl⟩ := hv
  simp only [act_box, agg_cells]
  refine is_nil ?_
  simp only [stp, Nat.reduceAdd, Int.reduceLT, Int.reduceLE, Int.reduceEq, Int.reduceNe, ne_eq, bne_self_eq_false, beq_self_eq_true]
  exact hq _ ((K0.refl w).alloc _)
theorem trelease_nil {node keep : Int} {v : Value} (hv : ∃ a b : Int, v = .agg #[.int .i64 a, .int .i64 b]) (hq : ∀ w', K0 w w' → Q (.tuple #[.slice none 0 0, .int .i64 1]) w') : callS Try.prog 11 #[.pointer none, .int .i64 node, v, .int .i64 keep] Q w := by
  refine ref11 ?_
  unfold S11
  obtain ⟨a, b, rfl⟩ := hv
  simp only [act_box, agg_cells]
  refine is_nil ?_
  simp only [stp, Nat.reduceAdd, Int.reduceLT, Int.reduceLE, Int.reduceEq, Int.reduceNe, ne_eq, bne_self_eq_false, beq_self_eq_true]
  exact hq _ ((K0.refl w).alloc _)
theorem twaits_nil (hq : Q (.slice none 0 0) w) : callS Try.prog 13 #[.pointer none] Q w := by
  refine ref13 ?_
  unfold S13
  simp only [stp, Nat.reduceAdd, Int.reduceLT, Int.reduceLE, Int.reduceEq, Int.reduceNe, ne_eq, bne_self_eq_false, beq_self_eq_true, stm]
  exact hq
theorem trevokes_nil (hq : Q (.slice none 0 0) w) : callS Try.prog 18 #[.pointer none] Q w := by
  refine ref18 ?_
  unfold S18
  simp only [stp, Nat.reduceAdd, Int.reduceLT, Int.reduceLE, Int.reduceEq, Int.reduceNe, ne_eq, bne_self_eq_false, beq_self_eq_true, stm]
  exact hq
theorem tsound_nil (hq : Q (.bool true) w) : callS Try.prog 19 #[.pointer none] Q w := by
  refine ref19 ?_
  unfold S19
  simp only [stp, Nat.reduceAdd, Int.reduceLT, Int.reduceLE, Int.reduceEq, Int.reduceNe, ne_eq, bne_self_eq_false, beq_self_eq_true, stm]
  exact hq
theorem tholds_nil {node : Int} (hq : Q (.slice none 0 0) w) : callS Try.prog 14 #[.pointer none, .int .i64 node] Q w := by
  refine ref14 ?_
  unfold S14
  refine is_nil ?_
  simp only [stp, Nat.reduceAdd, Int.reduceLT, Int.reduceLE, Int.reduceEq, Int.reduceNe, ne_eq, bne_self_eq_false, beq_self_eq_true]
  exact hq
theorem tmode_nil {node x : Int} (hq : Q (.int .i64 0) w) : callS Try.prog 12 #[.pointer none, .int .i64 node, .int .i64 x] Q w := by
  refine ref12 ?_
  unfold S12
  refine is_nil ?_
  simp only [stp, Nat.reduceAdd, Int.reduceLT, Int.reduceLE, Int.reduceEq, Int.reduceNe, ne_eq, bne_self_eq_false, beq_self_eq_true]
  exact hq
theorem tcancel_nil {node : Int} (hq : ∀ w', K0 w w' → Q (.tuple #[.slice none 0 0, .bool false]) w') : callS Try.prog 15 #[.pointer none, .int .i64 node] Q w := by
  refine ref15 ?_
  unfold S15
  simp only [stp, Nat.reduceAdd, Int.reduceLT, Int.reduceLE, Int.reduceEq, Int.reduceNe, ne_eq, bne_self_eq_false, beq_self_eq_true, stm]
  exact hq _ ((K0.refl w).alloc _)
theorem tdrop_nil {node : Int} (hq : ∀ w', K0 w w' → Q (.slice none 0 0) w') : callS Try.prog 17 #[.pointer none, .int .i64 node] Q w := by
  refine ref17 ?_
  unfold S17
  simp only [stp, Nat.reduceAdd, Int.reduceLT, Int.reduceLE, Int.reduceEq, Int.reduceNe, ne_eq, bne_self_eq_false, beq_self_eq_true, act_box]
  have c0 : cel (w.alloc (.cells (Value.int .i64 node).cells 3)) (siz w) 0 = some (.int .i64 node) := by rw [cel_alloc_new]; rfl
  simp only [stp, Nat.reduceAdd, Int.reduceLT, Int.reduceLE, Int.reduceEq, Int.reduceNe, ne_eq, bne_self_eq_false, beq_self_eq_true, stm, c0]
  refine is_nil ?_
  simp only [stp, Nat.reduceAdd, Int.reduceLT, Int.reduceLE, Int.reduceEq, Int.reduceNe, ne_eq, bne_self_eq_false, beq_self_eq_true]
  exact hq _ ((K0.refl w).alloc _)
end
end Go.Proofs.Ytiomanikpboclaa
