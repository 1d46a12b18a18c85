/- slices.Backward over a row of ints, in a range over a function. Conditions: as each says. -/
import Derived.RangeFuncBox
import Derived.RangeFuncLeaves
import Derived.RangeFuncFrom
import Derived.RangeFuncCalls
import Derived.Shelf.Abstract
import Derived.WalkKit
import Derived.OwnWalkIn
import Derived.TacticsInMore
import Derived.LoopNIn
import Derived.LoopIn
import Derived.Test.YtjfookddoaemfaaCacK
set_option linter.unusedSimpArgs false
set_option linter.unusedVariables false
namespace Go.Proofs.Ytjfookddoaemfaa
open Go.RowKit Go.Shelf
attribute [local go_sem] Oper.semAt_some
/-- What has come behind k rounds: the last one first, each with its place. -/
def backL (f : Nat → Int) (len k : Nat) : List (Int × Int) := (List.range k).map fun j => (((len - 1 - j : Nat) : Int), f (len - 1 - j))
theorem backL_succ (f : Nat → Int) (len k : Nat) : backL f len (k + 1) = backL f len k ++ [(((len - 1 - k : Nat) : Int), f (len - 1 - k))] := by simp [backL, List.range_succ]
theorem backL_len (f : Nat → Int) (len k : Nat) : (backL f len k).length = k := by simp [backL]
/-- These two blocks stand. -/
def Two (x y : Nat) (W W' : World) : Prop := W'.heap[x]? = W.heap[x]? ∧ W'.heap[y]? = W.heap[y]?
theorem Two.refl (x y : Nat) (W : World) : Two x y W W := ⟨rfl, rfl⟩
theorem Two.trans {x y : Nat} {A B C : World} (h : Two x y A B) (k : Two x y B C) : Two x y A C := ⟨k.1.trans h.1, k.2.trans h.2⟩
theorem Two.cell {x y : Nat} {W W' : World} (h : Two x y W W') (o : Nat) : W'.cell? ⟨x, o, none⟩ = W.cell? ⟨x, o, none⟩ ∧ W'.cell? ⟨y, o, none⟩ = W.cell? ⟨y, o, none⟩ := by
  simp only [World.cell?, h.1, h.2, and_self]
set_option maxRecDepth 100000 in
set_option maxHeartbeats 2000000 in
theorem back1_in (F : Fence) (n : Nat) (h7 : F.fn 59) (hro : F.round = none) (hn : 1 ≤ n) (l Bs b len cap : Nat) (f : Nat → Int) (hreach : len * 8 ≤ 140737488351232) (J Jx : List (Int × Int) → World → Prop)
    (hY : ∀ pre x W, J pre W → pre.length < len → YieldAt F (n - 1) Try.prog l #[.int .i64 x.1, .int .i64 x.2] W fun e W' =>
      (e = .returned (.bool true) ∧ J (pre ++ [x]) W' ∧ Two Bs b W W') ∨ (e = .returned (.bool false) ∧ Jx (pre ++ [x]) W'))
    (W : World) (hBs : W.cell? ⟨Bs, 0, none⟩ = some (.slice (some ⟨b, 0, none⟩) len cap)) (hc : ∀ j, j < len → W.cell? ⟨b, j, none⟩ = some (.int .i64 (f j))) (h0 : J [] W) :
    CallsIn F n Try.prog 59 #[.func (.yield l) #[] #[], .pointer (some ⟨Bs, 0, none⟩)] W fun e W' => (∃ v, e = .returned v) ∧
      ((∃ ys, ys = backL f len len ∧ J ys W') ∨ (∃ pre, True ∧ Jx pre W')) := by
  refine callsIn_of_wp Try.func59 rfl h7 ?_ hro
  simp only [Try.ntmps59, List.size_toArray, List.length_cons, List.length_nil, Nat.reduceAdd, Nat.reduceSub, Array.replicate_succ, Array.replicate_zero, List.push_toArray, List.append_toArray, List.nil_append, List.cons_append]
  have hw0 : IntKind.i64.wrap ((len : Int) - 1) = (len : Int) - 1 := Go.Sh.wrap_id (by omega) (by omega)
  gi_wp2
  gi_loopw [3] (fun i wr => ∃ k : Nat, k ≤ len ∧ i = .int .i64 ((len : Int) - 1 - k) ∧ J (backL f len k) wr ∧ Two Bs b W wr)
    (fun i _ => (intOf i + 1).toNat)
  case atStart => exact ⟨0, Nat.zero_le _, by simp [hw0], h0, Two.refl _ _ _⟩
  case round =>
    obtain ⟨k, hk, rfl, hJs, hnx⟩ := hrel
    have hBx : wr.cell? ⟨Bs, 0, none⟩ = some (.slice (some ⟨b, 0, none⟩) len cap) := ((hnx.cell 0).1).trans hBs
    by_cases hlt : k < len
    · have hix : (len : Int) - 1 - k = ((len - 1 - k : Nat) : Int) := by omega
      have hcx' : wr.cell? ⟨b, len - 1 - k, none⟩ = some (.int .i64 (f (len - 1 - k))) := ((hnx.cell _).2).trans (hc _ (by omega))
      obtain ⟨fn, tmps, assign, body, hy, hR⟩ := hY _ (((len - 1 - k : Nat) : Int), f (len - 1 - k)) wr hJs (by rw [backL_len]; exact hlt)
      dsimp only at hy
      rw [hix]
      have hge : (0 : Int) ≤ ((len - 1 - k : Nat) : Int) := by omega
      have hix2 : len - 1 - k < len := by omega
      gi_wp2
      refine hR.mono ?_
      rintro e W3 (⟨rfl, hJ3, hk3⟩ | ⟨rfl, hJx3⟩)
      · have hsub : IntKind.i64.wrap (((len - 1 - k : Nat) : Int) - 1) = (len : Int) - 1 - ((k + 1 : Nat) : Int) := by rw [Go.Sh.wrap_id (by omega) (by omega)]; omega
        gi_wp2
        go_roundw
        case rel => exact ⟨k + 1, by omega, by congr 1 <;> omega, by rw [backL_succ]; exact hJ3, hnx.trans hk3⟩
        case measure => simp [intOf, hsub]; omega
      · gi_wp2
        refine bodyPost_ret (results_none rfl _ _ _) rfl ?_
        exact ⟨⟨_, rfl⟩, .inr ⟨_, trivial, hJx3⟩⟩
    · obtain rfl : k = len := by omega
      have hneg : ¬ ((0 : Int) ≤ (k : Int) - 1 - k) := by omega
      gi_wp2
      go_end0
      exact ⟨⟨_, rfl⟩, by simpa using Or.inl hJs⟩
set_option maxHeartbeats 2000000 in
/-- The function value that slices.Backward hands back tells the row, the last one first. -/
theorem back_stops (F : Fence) (n : Nat) (h7 : F.fn 59) (hro : F.round = none) (hn : 1 ≤ n) (Bs b len cap : Nat) (f : Nat → Int) (hreach : len * 8 ≤ 140737488351232) (w : World) (hBs : Bs < w.heap.size) (hb : b < w.heap.size)
    (hc0 : w.cell? ⟨Bs, 0, none⟩ = some (.slice (some ⟨b, 0, none⟩) len cap)) (hc : ∀ j, j < len → w.cell? ⟨b, j, none⟩ = some (.int .i64 (f j))) :
    SeqStopsK F n Try.prog 59 #[.pointer (some ⟨Bs, 0, none⟩)] (fun x : Int × Int => #[Value.int .i64 x.1, .int .i64 x.2]) (Two Bs b) (fun ys => ys = backL f len len) (fun _ => True) len w := fun l J Jx W hW _ _ hY h0 => by
  refine (back1_in F n h7 hro hn l Bs b len cap f hreach J Jx hY W ((hW.cell (p := ⟨Bs, 0, none⟩) hBs).trans hc0) (fun j hj => (hW.cell (p := ⟨b, j, none⟩) hb).trans (hc j hj)) h0).mono ?_
  rintro e W' ⟨h1, h2⟩
  refine ⟨h1, ?_⟩
  rcases h2 with ⟨ys, h3, h4⟩ | ⟨pre, _, h4⟩
  · exact .inl ⟨ys, h3, h4⟩
  · exact .inr ⟨pre, trivial, h4⟩
end Go.Proofs.Ytjfookddoaemfaa
