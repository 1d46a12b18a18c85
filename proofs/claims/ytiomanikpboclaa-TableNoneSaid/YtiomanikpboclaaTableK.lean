/- The table of locks: whether a request is free. Conditions: as each says. -/
import Derived.Test.YtiomanikpboclaaTableJ
set_option linter.unusedSimpArgs false
set_option linter.unusedVariables false
namespace Go.Proofs.Ytiomanikpboclaa
open Go.Sh Go.Proofs.Ytiomanikpboclaa.Mi
set_option maxRecDepth 100000
section
variable {w w' : World} {Q : Value → World → Prop} {B t : Nat} {s : TS}
theorem hld_lock {S : World → Prop} {k : Value → Prop} {g : Nat} {x y z : Value} (h : ∀ w', S w' → blk w' g = some (.cells #[x, y, z] 31)) (hk : k (.agg #[x, y, z])) : hld Try.prog S (Instr.loadAt 31 (.pointer (some ⟨g, 0, none⟩))) k :=
  hld_of _ (fun w' hS => run_of_rd fun _ => by
    have b := h w' hS
    rw [ld_31 (by rw [cel_b b]; rfl) (by rw [cel_b b]; rfl) (by rw [cel_b b]; rfl), cel_b b, cel_b b, cel_b b]; rfl) hk
theorem free_c {node a b md : Int} (h : TL w B t s) (hok : WsOk s.ws)
    (hq : ∀ w', K0 w w' → Q (.bool (!decide (hindF s (claimsF s s.ws) node a b md < b))) w') :
    callS Try.prog 24 #[.pointer (some ⟨t, 0, none⟩), .int .i64 node, .agg #[.int .i64 a, .int .i64 b, .int .i64 md]] Q w := by
  refine ref24 ?_
  unfold S24
  simp only [act_box, agg_cells]
  have b1 : blk (w.alloc (.cells #[.int .i64 a, .int .i64 b, .int .i64 md] 31)) (siz w) = some (.cells #[.int .i64 a, .int .i64 b, .int .i64 md] 31) := blk_alloc_new
  have k1 : K0 w (w.alloc (.cells #[.int .i64 a, .int .i64 b, .int .i64 md] 31)) := (K0.refl w).alloc _
  generalize w.alloc (.cells #[.int .i64 a, .int .i64 b, .int .i64 md] 31) = w1 at b1 k1
  have hl := cl_len s s.ws []
  have hl : (claimsF s s.ws).length ≤ 1000 := Nat.le_trans hl (by have := hok.1; rw [List.length_nil]; omega)
  have k1d : K0 w w1.drew := k1.drew
  have b1d : blk w1.drew (siz w) = some (.cells #[.int .i64 a, .int .i64 b, .int .i64 md] 31) := b1
  refine ⟨fun w' => blk w' (siz w) = some (.cells #[.int .i64 a, .int .i64 b, .int .i64 md] 31), b1d, ?_⟩
  refine hld_lock (fun w' hS => hS) ?_
  refine claims_c (h.keep0 k1d) hok fun w2 v2 o2 k2 => ⟨k2.blk b1d (by exact fun h => h), ?_⟩
  obtain ⟨p2, c2, rfl⟩ := o2.form
  refine hinders_c (A := claimsF s s.ws) ((h.keep0 k1d).keep0 k2) o2.rd (by omega) fun w3 k3 => ⟨k3.blk (k2.blk b1d (by exact fun h => h)) (by exact fun h => h), ?_⟩
  have := hq w3 ((k1d.trans k2).trans k3)
  by_cases hlt : hindF s (claimsF s s.ws) node a b md < b
  · rw [decide_eq_true hlt] at this
    simp only [stp, Nat.reduceAdd, Int.reduceLT, Int.reduceLE, Int.reduceEq, Int.reduceNe, ne_eq, bne_self_eq_false, beq_self_eq_true, stm, hlt]
    exact this
  · rw [decide_eq_false hlt] at this
    simp only [stp, Nat.reduceAdd, Int.reduceLT, Int.reduceLE, Int.reduceEq, Int.reduceNe, ne_eq, bne_self_eq_false, beq_self_eq_true, stm, hlt]
    exact this
end
end Go.Proofs.Ytiomanikpboclaa
