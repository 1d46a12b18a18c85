/- slices.Collect over slices.Values at the heap's items, in a range over a function. Conditions: as each says. -/
import Derived.RangeFuncBox
import Derived.RangeFuncLeaves
import Derived.RangeFuncFrom
import Derived.RangeFuncCalls
import Derived.Shelf.Abstract
import Derived.WalkKit
import Derived.OwnWalkIn
import Derived.TacticsInMore
import Derived.LoopNIn
import Derived.LoopIn
import Derived.Test.YtndjohbbaplekaaGreatHHeapCi
import Derived.Test.YtndjohbbaplekaaGreatHHeapAlive
import Derived.Test.YtndjohbbaplekaaGreatHSort1
import Derived.Test.YtndjohbbaplekaaGreatHLay
set_option linter.unusedSimpArgs false
set_option linter.unusedVariables false
namespace Go.Proofs.YtndjohbbaplekaaGreatH.V
open Go.RowKit Go.Shelf
section
attribute [local go_sem] Oper.semAt_some
def two (x y : Nat) (W W' : World) : Prop := W'.heap[x]? = W.heap[x]? ∧ W'.heap[y]? = W.heap[y]?
theorem two.refl (x y : Nat) (W : World) : two x y W W := ⟨rfl, rfl⟩
theorem two.trans {x y : Nat} {A B C : World} (h : two x y A B) (k : two x y B C) : two x y A C := ⟨k.1.trans h.1, k.2.trans h.2⟩
theorem two.cell {x y : Nat} {W W' : World} (h : two x y W W') (o : Nat) : W'.cell? ⟨x, o, none⟩ = W.cell? ⟨x, o, none⟩ ∧ W'.cell? ⟨y, o, none⟩ = W.cell? ⟨y, o, none⟩ := by
  simp only [World.cell?, h.1, h.2, and_self]
def upto (f : Nat → Nat) (k : Nat) : List Nat := (List.range k).map f
theorem upto_succ (f : Nat → Nat) (k : Nat) : upto f (k + 1) = upto f k ++ [f k] := by simp [upto, List.range_succ]
theorem upto_len (f : Nat → Nat) (k : Nat) : (upto f k).length = k := by simp [upto]
abbrev pp (x : Nat) : Value := .pointer (some ⟨x, 0, none⟩)
set_option maxRecDepth 100000 in
set_option maxHeartbeats 2000000 in
theorem vals1_in (F : Fence) (n : Nat) (h7 : F.fn 194) (hro : F.round = none) (hn : 1 ≤ n) (l Bs b len cap : Nat) (sa : Option Addr) (ha : 0 < len → sa = some ⟨b, 0, none⟩) (f : Nat → Nat) (hreach : len * 8 ≤ 140737488351232) (J Jx : List Nat → World → Prop)
    (hY : ∀ pre x W, J pre W → pre.length < len → YieldAt F (n - 1) Tryz.prog l #[pp x] W fun e W' =>
      (e = .returned (.bool true) ∧ J (pre ++ [x]) W' ∧ two Bs b W W') ∨ (e = .returned (.bool false) ∧ Jx (pre ++ [x]) W'))
    (W : World) (hBs : W.cell? ⟨Bs, 0, none⟩ = some (.slice sa len cap)) (hc : ∀ j, j < len → W.cell? ⟨b, j, none⟩ = some (pp (f j))) (h0 : J [] W) :
    CallsIn F n Tryz.prog 194 #[.func (.yield l) #[] #[], .pointer (some ⟨Bs, 0, none⟩)] W fun e W' => (∃ v, e = .returned v) ∧
      ((∃ ys, ys = upto f len ∧ J ys W') ∨ (∃ pre, True ∧ Jx pre W')) := by
  refine callsIn_of_wp Tryz.func194 rfl h7 ?_ hro
  simp only [Tryz.ntmps194, List.size_toArray, List.length_cons, List.length_nil, Nat.reduceAdd, Nat.reduceSub, Array.replicate_succ, Array.replicate_zero, List.push_toArray, List.append_toArray, List.nil_append, List.cons_append]
  gi_wp2
  gi_loopw [7] (fun i wr => ∃ k : Nat, k ≤ len ∧ i = .int .i64 k ∧ J (upto f k) wr ∧ two Bs b W wr)
    (fun i _ => len - (intOf i).toNat)
  case atStart => exact ⟨0, Nat.zero_le _, rfl, h0, two.refl _ _ _⟩
  case round =>
    obtain ⟨k, hk, rfl, hJs, hnx⟩ := hrel
    have hBx : wr.cell? ⟨Bs, 0, none⟩ = some (.slice sa len cap) := ((hnx.cell 0).1).trans hBs
    by_cases hlt : k < len
    · obtain rfl := ha (by omega)
      obtain ⟨fn, tmps, assign, body, hy, hR⟩ := hY _ (f k) wr hJs (by rw [upto_len]; exact hlt)
      have hcx' : wr.cell? ⟨b, k, none⟩ = some (pp (f k)) := ((hnx.cell _).2).trans (hc _ hlt)
      dsimp only [pp] at hy hcx'
      gi_wp2
      refine hR.mono ?_
      rintro e W3 (⟨rfl, hJ3, hk3⟩ | ⟨rfl, hJx3⟩)
      · gi_wp2
        go_roundw
        case rel => exact ⟨k + 1, by omega, by simp, by rw [upto_succ]; exact hJ3, hnx.trans hk3⟩
        case measure => simp [intOf]; omega
      · gi_wp2
        refine bodyPost_ret (results_none rfl _ _ _) rfl ?_
        exact ⟨⟨_, rfl⟩, .inr ⟨_, trivial, hJx3⟩⟩
    · obtain rfl : k = len := by omega
      gi_wp2
      go_end0
      exact ⟨⟨_, rfl⟩, .inl ⟨_, rfl, hJs⟩⟩
set_option maxHeartbeats 2000000 in
theorem vals_stops (F : Fence) (n : Nat) (h7 : F.fn 194) (hro : F.round = none) (hn : 1 ≤ n) (Bs b len cap : Nat) (sa : Option Addr) (ha : 0 < len → sa = some ⟨b, 0, none⟩) (f : Nat → Nat) (hreach : len * 8 ≤ 140737488351232) (w : World) (hBs : Bs < w.heap.size) (hb : b < w.heap.size)
    (hc0 : w.cell? ⟨Bs, 0, none⟩ = some (.slice sa len cap)) (hc : ∀ j, j < len → w.cell? ⟨b, j, none⟩ = some (pp (f j))) :
    SeqStopsK F n Tryz.prog 194 #[.pointer (some ⟨Bs, 0, none⟩)] (fun x : Nat => #[pp x]) (two Bs b) (fun ys => ys = upto f len) (fun _ => True) len w := fun l J Jx W hW _ _ hY h0 => by
  refine (vals1_in F n h7 hro hn l Bs b len cap sa ha f hreach J Jx hY W ((hW.cell (p := ⟨Bs, 0, none⟩) hBs).trans hc0) (fun j hj => (hW.cell (p := ⟨b, j, none⟩) hb).trans (hc j hj)) h0).mono ?_
  rintro e W' ⟨h1, h2⟩
  refine ⟨h1, ?_⟩
  rcases h2 with ⟨ys, h3, h4⟩ | ⟨pre, _, h4⟩
  · exact .inl ⟨ys, h3, h4⟩
  · exact .inr ⟨pre, trivial, h4⟩
end
end Go.Proofs.YtndjohbbaplekaaGreatH.V
