/- What ClerkNone computes: true. Conditions: none. -/
import Derived.Test.YtknklmemadediaaClerkM
import Derived.Test.YtknklmemadediaaShV
set_option linter.unusedSimpArgs false
set_option linter.unusedVariables false
namespace Go.Proofs.Ytknklmemadediaa
open Go.Sh Go.Proofs.Ytknklmemadediaa.Mi
set_option maxRecDepth 100000
section
variable {w w' : World} {Q : Value → World → Prop} {B c : Nat} {s : CS}
theorem cwant_nil {v : Value} (hq : ∀ w', K0 w w' → Q (.tuple #[.slice none 0 0, .bool false]) w') : callS Try.prog 13 #[.pointer none, v] Q w := by
  refine ref13 ?_
  unfold S13
  refine cnone_nil ?_
  simp only [stp, Nat.reduceAdd, Int.reduceLT, Int.reduceLE, Int.reduceEq, Int.reduceNe, ne_eq, bne_self_eq_false, beq_self_eq_true, stm]
  exact hq _ (K0.refl w)
theorem cjoin_nil {a b : Value} (hq : ∀ w', K0 w w' → Q (.bool false) w') : callS Try.prog 12 #[.pointer none, a, b] Q w := by
  refine ref12 ?_
  unfold S12
  refine cnone_nil ?_
  simp only [stp, Nat.reduceAdd, Int.reduceLT, Int.reduceLE, Int.reduceEq, Int.reduceNe, ne_eq, bne_self_eq_false, beq_self_eq_true, stm]
  exact hq _ (K0.refl w)
theorem cuse_nil {v : Value} (hq : ∀ w', K0 w w' → Q (.bool false) w') : callS Try.prog 25 #[.pointer none, v] Q w := by
  refine ref25 ?_
  unfold S25
  refine cnone_nil ?_
  simp only [stp, Nat.reduceAdd, Int.reduceLT, Int.reduceLE, Int.reduceEq, Int.reduceNe, ne_eq, bne_self_eq_false, beq_self_eq_true, stm]
  exact hq _ (K0.refl w)
theorem cowed_nil (hq : Q (.slice none 0 0) w) : callS Try.prog 19 #[.pointer none] Q w := by
  refine ref19 ?_
  unfold S19
  refine cnone_nil ?_
  simp only [stp, Nat.reduceAdd, Int.reduceLT, Int.reduceLE, Int.reduceEq, Int.reduceNe, ne_eq, bne_self_eq_false, beq_self_eq_true, stm]
  exact hq
theorem cquit_nil (hq : Q (.slice none 0 0) w) : callS Try.prog 14 #[.pointer none] Q w := by
  refine ref14 ?_
  unfold S14
  refine cnone_nil ?_
  simp only [stp, Nat.reduceAdd, Int.reduceLT, Int.reduceLE, Int.reduceEq, Int.reduceNe, ne_eq, bne_self_eq_false, beq_self_eq_true, stm]
  exact hq
theorem cheld_nil (hq : Q (.slice none 0 0) w) : callS Try.prog 20 #[.pointer none] Q w := by
  refine ref20 ?_
  unfold S20
  refine cnone_nil ?_
  simp only [stp, Nat.reduceAdd, Int.reduceLT, Int.reduceLE, Int.reduceEq, Int.reduceNe, ne_eq, bne_self_eq_false, beq_self_eq_true, stm]
  exact hq
theorem cgive_nil {v : Value} (hq : ∀ w', K0 w w' → Q (.tuple #[.agg (msgC 0 0 0 0 0 0 0 (.slice none 0 0)), .bool false]) w') : callS Try.prog 22 #[.pointer none, v] Q w := by
  refine ref22 ?_
  unfold S22
  simp only [stp, Nat.reduceAdd, Int.reduceLT, Int.reduceLE, Int.reduceEq, Int.reduceNe, ne_eq, bne_self_eq_false, beq_self_eq_true]
  generalize hw1 : w.alloc (.cells #[.int .i64 0, .int .i64 0, .int .i64 0, .int .i64 0, .int .i64 0, .int .u64 0, .int .i64 0, .slice none 0 0] 39) = w1
  have b2 : blk w1 (siz w) = some (.cells #[.int .i64 0, .int .i64 0, .int .i64 0, .int .i64 0, .int .i64 0, .int .u64 0, .int .i64 0, .slice none 0 0] 39) := by rw [← hw1]; exact blk_alloc_new
  have k1 : K0 w w1 := by rw [← hw1]; exact (K0.refl w).alloc _
  refine cnone_nil ?_
  simp only [stp, Nat.reduceAdd, Int.reduceLT, Int.reduceLE, Int.reduceEq, Int.reduceNe, ne_eq, bne_self_eq_false, beq_self_eq_true]
  have y : ∀ o, o < 8 → (cel w1 (siz w) o).isSome = true := fun o ho => by rw [cel_b b2, Array.getElem?_eq_getElem ho]; rfl
  rw [st_39 one_int one_int one_int one_int one_int one_int one_int one_slice (y 0 (by omega)) (by rw [Nat.zero_add]; exact y 1 (by omega)) (by rw [Nat.zero_add]; exact y 2 (by omega)) (by rw [Nat.zero_add]; exact y 3 (by omega)) (by rw [Nat.zero_add]; exact y 4 (by omega)) (by rw [Nat.zero_add]; exact y 5 (by omega)) (by rw [Nat.zero_add]; exact y 6 (by omega)) (by rw [Nat.zero_add]; exact y 7 (by omega)) (fre_b b2)]
  have be := blk_stoL_all (xs := [.int .i64 0, .int .i64 0, .int .i64 0, .int .i64 0, .int .i64 0, .int .u64 0, .int .i64 0, .slice none 0 0]) (zs := [.int .i64 0, .int .i64 0, .int .i64 0, .int .i64 0, .int .i64 0, .int .u64 0, .int .i64 0, .slice none 0 0]) rfl b2
  have ke : K0 w (stoL w1 (siz w) 0 [.int .i64 0, .int .i64 0, .int .i64 0, .int .i64 0, .int .i64 0, .int .u64 0, .int .i64 0, .slice none 0 0]) := Keep.stoL _ 0 k1 (.inr (Nat.le_refl _))
  generalize stoL w1 (siz w) 0 [.int .i64 0, .int .i64 0, .int .i64 0, .int .i64 0, .int .i64 0, .int .u64 0, .int .i64 0, .slice none 0 0] = w9 at be ke
  obtain ⟨z0, z1, z2, z3, z4, z5, z6, z7⟩ := msg_cells be
  simp only [stp, Nat.reduceAdd, Int.reduceLT, Int.reduceLE, Int.reduceEq, Int.reduceNe, ne_eq, bne_self_eq_false, beq_self_eq_true, stm, z0, z1, z2, z3, z4, z5, z6, z7]
  exact hq _ ke
/-- A message, read off the statement's own reading. -/
theorem msg_of {cs : List Value} (h : AllOkW w [.b (.int .i64), .b (.int .i64), .b (.int .i64), .b (.int .i64), .b (.int .i64), .b (.int .u64), .b (.int .i64), .rows [.int .i64, .int .i64, .int .i64]] cs) :
    ∃ (kind mi node gen stamp epoch err : Int) (a : Option Addr) (l n : Nat) (xs : List I3), cs.toArray = msgC kind mi node gen stamp epoch err (.slice a l n) ∧ xs.length = l ∧ Rd 3 w (.slice a l n) l (flat enc3 xs) ∧ (∀ s ∈ xs, good3 s) := by
  obtain ⟨v0, cs, rfl, h0, h⟩ := h.cons
  obtain ⟨v1, cs, rfl, h1, h⟩ := h.cons
  obtain ⟨v2, cs, rfl, h2, h⟩ := h.cons
  obtain ⟨v3, cs, rfl, h3, h⟩ := h.cons
  obtain ⟨v4, cs, rfl, h4, h⟩ := h.cons
  obtain ⟨v5, cs, rfl, h5, h⟩ := h.cons
  obtain ⟨v6, cs, rfl, h6, h⟩ := h.cons
  obtain ⟨v7, cs, rfl, h7, h⟩ := h.cons
  obtain rfl := h.nil
  obtain ⟨x0, rfl, _⟩ := h0
  obtain ⟨x1, rfl, _⟩ := h1
  obtain ⟨x2, rfl, _⟩ := h2
  obtain ⟨x3, rfl, _⟩ := h3
  obtain ⟨x4, rfl, _⟩ := h4
  obtain ⟨x5, rfl, _⟩ := h5
  obtain ⟨x6, rfl, _⟩ := h6
  obtain ⟨a, l, n, xs, rfl, hl, hr, hm, hg⟩ := rows3 dec3 rfl h7
  exact ⟨x0, x1, x2, x3, x4, x5, x6, a, l, n, xs, rfl, hl, hr, hg⟩
theorem none_law {cs : List Value} {l : I3} (hm : AllOkW w [.b (.int .i64), .b (.int .i64), .b (.int .i64), .b (.int .i64), .b (.int .i64), .b (.int .u64), .b (.int .i64), .rows [.int .i64, .int .i64, .int .i64]] cs) (_ : good3 l) (hq : ∀ w', Keep (fun b => siz w ≤ b) w w' → Q (.bool true) w') :
    callS Try.prog 8 #[.agg cs.toArray, .agg (enc3 l).toArray] Q w := by
  refine ref8 ?_
  obtain ⟨kind, mi, node, gen, stamp, epoch, err, a, n, cc, xs, e, _, _, _⟩ := msg_of hm
  obtain ⟨la, lb, lm⟩ := l
  rw [e]
  clear e hm
  unfold S8 msgC enc3
  try simp only [stp, Nat.reduceAdd, Int.reduceLT, Int.reduceLE, Int.reduceEq, Int.reduceNe, ne_eq, bne_self_eq_false, beq_self_eq_true, act_box, agg_cells]
  generalize hw1 : w.alloc (.cells #[.int .i64 kind, .int .i64 mi, .int .i64 node, .int .i64 gen, .int .i64 stamp, .int .u64 epoch, .int .i64 err, .slice a n cc] 39) = w1
  have b1 : blk w1 (siz w) = some (.cells #[.int .i64 kind, .int .i64 mi, .int .i64 node, .int .i64 gen, .int .i64 stamp, .int .u64 epoch, .int .i64 err, .slice a n cc] 39) := by rw [← hw1]; exact blk_alloc_new
  have k1 : K0 w w1 := by rw [← hw1]; exact (K0.refl w).alloc _
  generalize hw2 : w1.alloc (.cells _ 25) = w2
  have b2 : blk w2 (siz w1) = some (.cells #[.int .i64 la, .int .i64 lb, .int .i64 lm] 25) := by rw [← hw2]; exact blk_alloc_new
  have k2 : K0 w1 w2 := by rw [← hw2]; exact (K0.refl w1).alloc _
  have b1 := k2.blk b1 id
  have k2 := k1.trans k2
  clear hw1 hw2
  obtain ⟨x0, x1, x2, x3, x4, x5, x6, x7⟩ := msg_cells b1
  obtain ⟨y0, y1, y2⟩ := lock_cells b2
  simp only [stp, Nat.reduceAdd, Int.reduceLT, Int.reduceLE, Int.reduceEq, Int.reduceNe, ne_eq, bne_self_eq_false, beq_self_eq_true, stm, x7]
  by_cases h20 : (20 : Int) < (n : Int)
  · simp only [stp, Nat.reduceAdd, Int.reduceLT, Int.reduceLE, Int.reduceEq, Int.reduceNe, ne_eq, bne_self_eq_false, beq_self_eq_true, h20]
    exact alive_c fun w' k' => hq _ (k2.trans k'.old').new
  simp only [stp, Nat.reduceAdd, Int.reduceLT, Int.reduceLE, Int.reduceEq, Int.reduceNe, ne_eq, bne_self_eq_false, beq_self_eq_true, stm, h20, y0, y1, y2]
  have k3 : K0 w2 (w2.alloc (.cells #[.int .i64 la, .int .i64 lb, .int .i64 lm] 25)) := (K0.refl w2).alloc _
  generalize w2.alloc (.cells #[.int .i64 la, .int .i64 lb, .int .i64 lm] 25) = w3 at k3
  refine cwant_nil fun w4 k4 => ?_
  have k4 := k3.trans k4
  have b14 := k4.blk b1 (by exact fun h => h)
  have b24 := k4.blk b2 (by exact fun h => h)
  have kk4 := k2.trans k4
  obtain ⟨x0, x1, x2, x3, x4, x5, x6, x7⟩ := msg_cells b14
  simp only [stp, Nat.reduceAdd, Int.reduceLT, Int.reduceLE, Int.reduceEq, Int.reduceNe, ne_eq, bne_self_eq_false, beq_self_eq_true, stm, x0, x1, x2, x3, x4, x5, x6, x7]
  refine ctake_nil (kind := kind) (mi := mi) (node := node) (gen := gen) (stamp := stamp) (epoch := epoch) (err := err) fun w5 k5 => ?_
  have b15 := k5.blk b14 (by exact fun h => h)
  have b25 := k5.blk b24 (by exact fun h => h)
  have kk5 := kk4.trans k5
  obtain ⟨y0, y1, y2⟩ := lock_cells b25
  simp only [stp, Nat.reduceAdd, Int.reduceLT, Int.reduceLE, Int.reduceEq, Int.reduceNe, ne_eq, bne_self_eq_false, beq_self_eq_true, stm, y0, y1, y2]
  have k6 : K0 w5 (w5.alloc (.cells #[.int .i64 la, .int .i64 lb, .int .i64 lm] 25)) := (K0.refl w5).alloc _
  generalize w5.alloc (.cells #[.int .i64 la, .int .i64 lb, .int .i64 lm] 25) = w6 at k6
  refine cgive_nil fun w7 k7 => ?_
  have k7 := k6.trans k7
  have b27 := k7.blk b25 (by exact fun h => h)
  have kk7 := kk5.trans k7
  unfold msgC
  simp only [stp, Nat.reduceAdd, Int.reduceLT, Int.reduceLE, Int.reduceEq, Int.reduceNe, ne_eq, bne_self_eq_false, beq_self_eq_true, stm]
  generalize hw8 : w7.alloc (.cells #[.int .i64 0, .int .i64 0, .int .i64 0, .int .i64 0, .int .i64 0, .int .u64 0, .int .i64 0, .slice none 0 0] 39) = w8
  have k8 : K0 w7 w8 := by rw [← hw8]; exact (K0.refl w7).alloc _
  have b8 : blk w8 (siz w7) = some (.cells #[.int .i64 0, .int .i64 0, .int .i64 0, .int .i64 0, .int .i64 0, .int .u64 0, .int .i64 0, .slice none 0 0] 39) := by rw [← hw8]; exact blk_alloc_new
  have b28 := k8.blk b27 (by exact fun h => h)
  have kk8 := kk7.trans k8
  clear hw8
  refine cunuse_nil ?_
  try simp only [stp, Nat.reduceAdd, Int.reduceLT, Int.reduceLE, Int.reduceEq, Int.reduceNe, ne_eq, bne_self_eq_false, beq_self_eq_true]
  refine alive_c fun w9 k9 => ?_
  have k9 := k9.old'
  have b9 := k9.blk b8 (by exact fun h => h)
  have b29 := k9.blk b28 (by exact fun h => h)
  have kk9 := kk8.trans k9
  obtain ⟨z0, z1, z2, z3, z4, z5, z6, z7⟩ := msg_cells b9
  simp only [stp, Nat.reduceAdd, Int.reduceLT, Int.reduceLE, Int.reduceEq, Int.reduceNe, ne_eq, bne_self_eq_false, beq_self_eq_true]
  refine cjoin_nil fun w10 k10 => ?_
  have z7 := k10.cel z7 (by exact fun h => h)
  have b210 := k10.blk b29 (by exact fun h => h)
  have kk10 := kk9.trans k10
  obtain ⟨y0, y1, y2⟩ := lock_cells b210
  have e0 : (IntKind.i64.wrap (IntKind.i64.wrap (((0 : Nat) : Int) + ((0 : Nat) : Int)) + ((0 : Nat) : Int)) = 0) := by decide
  simp only [stp, Nat.reduceAdd, Int.reduceLT, Int.reduceLE, Int.reduceEq, Int.reduceNe, ne_eq, bne_self_eq_false, beq_self_eq_true, stm, z7, y0, y1, y2, e0]
  have k11 : K0 w10 (w10.alloc (.cells #[.int .i64 la, .int .i64 lb, .int .i64 lm] 25)) := (K0.refl w10).alloc _
  generalize w10.alloc (.cells #[.int .i64 la, .int .i64 lb, .int .i64 lm] 25) = w11 at k11
  refine cuse_nil fun w12 k12 => ?_
  simp only [stp, Nat.reduceAdd, Int.reduceLT, Int.reduceLE, Int.reduceEq, Int.reduceNe, ne_eq, bne_self_eq_false, beq_self_eq_true]
  refine cowed_nil ?_
  simp only [stp, Nat.reduceAdd, Int.reduceLT, Int.reduceLE, Int.reduceEq, Int.reduceNe, ne_eq, bne_self_eq_false, beq_self_eq_true]
  refine cquit_nil ?_
  simp only [stp, Nat.reduceAdd, Int.reduceLT, Int.reduceLE, Int.reduceEq, Int.reduceNe, ne_eq, bne_self_eq_false, beq_self_eq_true]
  refine cheld_nil ?_
  simp only [stp, Nat.reduceAdd, Int.reduceLT, Int.reduceLE, Int.reduceEq, Int.reduceNe, ne_eq, bne_self_eq_false, beq_self_eq_true]
  refine cgen_nil ?_
  have e1 : (IntKind.i64.wrap (IntKind.i64.wrap (IntKind.i64.wrap (((0 : Nat) : Int) + ((0 : Nat) : Int)) + ((0 : Nat) : Int)) + 0) = 0) := by decide
  simp only [stp, Nat.reduceAdd, Int.reduceLT, Int.reduceLE, Int.reduceEq, Int.reduceNe, ne_eq, bne_self_eq_false, beq_self_eq_true, stm, e1]
  refine cdenied_nil ?_
  simp only [stp, Nat.reduceAdd, Int.reduceLT, Int.reduceLE, Int.reduceEq, Int.reduceNe, ne_eq, bne_self_eq_false, beq_self_eq_true, stm]
  refine cepoch_nil ?_
  simp only [stp, Nat.reduceAdd, Int.reduceLT, Int.reduceLE, Int.reduceEq, Int.reduceNe, ne_eq, bne_self_eq_false, beq_self_eq_true, stm]
  exact hq _ (kk10.trans (k11.trans k12)).new
end
end Go.Proofs.Ytknklmemadediaa
