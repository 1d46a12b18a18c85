/- The table of locks: what a request claims that is hindered. Conditions: as each says. -/
import Derived.Test.YtiomanikpboclaaTableH
set_option linter.unusedSimpArgs false
set_option linter.unusedVariables false
namespace Go.Proofs.Ytiomanikpboclaa
open Go.Sh Go.Proofs.Ytiomanikpboclaa.Mi
set_option maxRecDepth 100000
section
variable {w w' : World} {Q : Value → World → Prop} {B t : Nat} {s : TS}
theorem wait_cells {b : Nat} {x0 x1 x2 x3 x4 : Value} (h : blk w b = some (.cells #[x0, x1, x2, x3, x4] 36)) : cel w b 0 = some x0 ∧ cel w b 1 = some x1 ∧ cel w b 2 = some x2 ∧ cel w b 3 = some x3 ∧ cel w b 4 = some x4 := by
  refine ⟨?_, ?_, ?_, ?_, ?_⟩ <;> (rw [cel_b h]; rfl)
theorem claim_c {i n a b md at' : Int} (h1 : -1 ≤ at' ∧ at' ≤ 1000000) (hq : ∀ w', K0 w w' → Q (.agg #[.int .i64 i, .int .i64 n, .int .i64 a, .int .i64 (at' + 1), .int .i64 md]) w') :
    callS Try.prog 49 #[.agg #[.int .i64 i, .int .i64 n, .int .i64 a, .int .i64 b, .int .i64 md], .int .i64 at'] Q w := by
  refine ref49 ?_
  unfold S49
  have hw : IntKind.i64.wrap (at' + 1) = at' + 1 := wrap_id (by omega) (by omega)
  simp only [stp, Nat.reduceAdd, Int.reduceLT, Int.reduceLE, Int.reduceEq, Int.reduceNe, ne_eq, bne_self_eq_false, beq_self_eq_true, act_box, agg_cells, hw]
  have k1 : K0 w (w.alloc (.cells #[.int .i64 i, .int .i64 n, .int .i64 a, .int .i64 b, .int .i64 md] 36)) := (K0.refl w).alloc _
  have b1 : blk (w.alloc (.cells #[.int .i64 i, .int .i64 n, .int .i64 a, .int .i64 b, .int .i64 md] 36)) (siz w) = some (.cells #[.int .i64 i, .int .i64 n, .int .i64 a, .int .i64 b, .int .i64 md] 36) := blk_alloc_new
  have s1 : siz w < siz (w.alloc (.cells #[.int .i64 i, .int .i64 n, .int .i64 a, .int .i64 b, .int .i64 md] 36)) := blk_lt b1
  generalize w.alloc (.cells #[.int .i64 i, .int .i64 n, .int .i64 a, .int .i64 b, .int .i64 md] 36) = w1 at k1 b1 s1
  have k2 : K0 w1 (w1.alloc (.cells #[.int .i64 0, .int .i64 0, .int .i64 0, .int .i64 0, .int .i64 0] 36)) := (K0.refl w1).alloc _
  have b2 : blk (w1.alloc (.cells #[.int .i64 0, .int .i64 0, .int .i64 0, .int .i64 0, .int .i64 0] 36)) (siz w1) = some (.cells #[.int .i64 0, .int .i64 0, .int .i64 0, .int .i64 0, .int .i64 0] 36) := blk_alloc_new
  generalize w1.alloc (.cells #[.int .i64 0, .int .i64 0, .int .i64 0, .int .i64 0, .int .i64 0] 36) = w2 at k2 b2
  have b1 := k2.blk b1 (by exact fun h => h)
  have i3 : (cel w2 (siz w) 3).isSome = true := by rw [cel_b b1]; rfl
  rw [st_3 one_int i3 (fre_b b1)]
  have b3 := blk_sto (o := 3) (v := .int .i64 (at' + 1)) b1
  have k3 : Keep (fun b => b = siz w) w2 (sto w2 (siz w) 3 (.int .i64 (at' + 1))) := (Keep.refl (fun b => b = siz w) w2).sto (.inl rfl) _ _
  have b2 := k3.blk b2 (by show ¬ siz w1 = siz w; omega)
  generalize sto w2 (siz w) 3 (.int .i64 (at' + 1)) = w3 at k3 b2 b3
  have b3 : blk w3 (siz w) = some (.cells #[.int .i64 i, .int .i64 n, .int .i64 a, .int .i64 (at' + 1), .int .i64 md] 36) := b3
  obtain ⟨x0, x1, x2, x3, x4⟩ := wait_cells b3
  simp only [stp, Nat.reduceAdd, Int.reduceLT, Int.reduceLE, Int.reduceEq, Int.reduceNe, ne_eq, bne_self_eq_false, beq_self_eq_true, stm, x0, x1, x2, x3, x4]
  have y : ∀ o, o < 5 → (cel w3 (siz w1) o).isSome = true := fun o ho => by rw [cel_b b2, Array.getElem?_eq_getElem ho]; rfl
  rw [st_36 one_int one_int one_int one_int one_int (y 0 (by omega)) (by rw [Nat.zero_add]; exact y 1 (by omega)) (by rw [Nat.zero_add]; exact y 2 (by omega)) (by rw [Nat.zero_add]; exact y 3 (by omega)) (by rw [Nat.zero_add]; exact y 4 (by omega)) (fre_b b2)]
  have be := blk_stoL_all (xs := [.int .i64 i, .int .i64 n, .int .i64 a, .int .i64 (at' + 1), .int .i64 md]) (zs := [.int .i64 0, .int .i64 0, .int .i64 0, .int .i64 0, .int .i64 0]) rfl b2
  have ke : K0 w (stoL w3 (siz w1) 0 [.int .i64 i, .int .i64 n, .int .i64 a, .int .i64 (at' + 1), .int .i64 md]) := Keep.stoL _ 0 ((k1.trans k2).trans' k3 fun b hb e => by omega) (.inr (by omega))
  generalize stoL w3 (siz w1) 0 [.int .i64 i, .int .i64 n, .int .i64 a, .int .i64 (at' + 1), .int .i64 md] = w9 at be ke
  obtain ⟨z0, z1, z2, z3, z4⟩ := wait_cells be
  simp only [stp, Nat.reduceAdd, Int.reduceLT, Int.reduceLE, Int.reduceEq, Int.reduceNe, ne_eq, bne_self_eq_false, beq_self_eq_true, stm, z0, z1, z2, z3, z4]
  exact hq _ ke
/-! ### the first block that hinders is none below 0 -/
theorem hp_pos {md : Int} : ∀ (P : List (Pt Int)) {f : Int}, 0 ≤ f → (∀ p ∈ P, 0 ≤ p.1.1) → 0 ≤ P.foldl (hp1 md) f
  | [], _, h, _ => h
  | p :: P, f, h, hp => by
    refine hp_pos P (f := hp1 md f p) ?_ fun q hq => hp q (by simp [hq])
    have := hp p (by simp)
    unfold hp1
    split
    · exact h
    · omega
theorem hAll_pos {node a b md : Int} (ha : 0 ≤ a) (hb : 0 ≤ b) : ∀ n, 0 ≤ hAll s node a b md n
  | 0 => hb
  | n + 1 => by
    show 0 ≤ hNode s node a b md (hAll s node a b md n) (n + 1)
    unfold hNode
    split
    · exact hAll_pos ha hb n
    · refine hp_pos _ (hAll_pos ha hb n) fun p hp => ?_
      obtain ⟨q, _, _, rfl⟩ := partsL_mem hp
      show 0 ≤ max q.1.1 a
      omega
theorem wp_pos {node a b md : Int} (ha : 0 ≤ a) : ∀ (A : List I5) {f : Int}, 0 ≤ f → 0 ≤ A.foldl (wp1 node a b md) f
  | [], _, h => h
  | k :: A, f, h => by
    refine wp_pos ha A (f := wp1 node a b md f k) ?_
    unfold wp1
    split
    · omega
    · exact h
theorem hindF_pos {A : List I5} {node a b md : Int} (ha : 0 ≤ a) (hb : 0 ≤ b) : 0 ≤ hindF s A node a b md := wp_pos ha A (hAll_pos ha hb _)
end
end Go.Proofs.Ytiomanikpboclaa
