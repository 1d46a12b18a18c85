/- Slices that came in: what a walk is told of them; how they are read off the statement's own reading of the arguments. Conditions: none. -/
import Derived.Test.YtcekmdpiloegcaaGreatShQ
import Derived.Carry
import Derived.Deep.Slices
import Derived.SliceStrings
set_option linter.unusedSimpArgs false
set_option linter.unusedVariables false
namespace Go.Sh
open Go.ChangeShapes Go.WideShapes Go.RowKit

/-- A slice value of n elements of z cells each; V j is the j-th cell. -/
def Row (z : Nat) (w : World) (v : Value) (n : Nat) (V : Nat → Value) : Prop :=
  (n = 0 ∧ ∃ a c, v = .slice a 0 c) ∨ ∃ b o c, v = .slice (some ⟨b, o, none⟩) n c ∧ n ≤ c ∧ ∀ j, j < n * z → cel w b (o + j) = some (V j)

theorem Row.keep {F : Nat → Prop} {z : Nat} {w w' : World} {v : Value} {n : Nat} {V : Nat → Value} (h : Row z w v n V) (k : Keep F w w') (hF : ∀ b, b < siz w → ¬ F b) : Row z w' v n V := by
  rcases h with h | ⟨b, o, c, hv, hn, hc⟩
  · exact .inl h
  · exact .inr ⟨b, o, c, hv, hn, fun j hj => k.cel (hc j hj) (hF b (cel_lt (hc j hj)))⟩
theorem Row.form {z : Nat} {w : World} {v : Value} {n : Nat} {V : Nat → Value} (h : Row z w v n V) : ∃ a c, v = .slice a n c := by
  rcases h with ⟨rfl, a, c, rfl⟩ | ⟨b, o, c, rfl, _⟩
  · exact ⟨_, _, rfl⟩
  · exact ⟨_, _, rfl⟩
theorem Row.at {z : Nat} {w : World} {v : Value} {n : Nat} {V : Nat → Value} (h : Row z w v n V) (hn : 0 < n) : ∃ b o c, v = .slice (some ⟨b, o, none⟩) n c ∧ n ≤ c ∧ ∀ j, j < n * z → cel w b (o + j) = some (V j) := by
  rcases h with ⟨rfl, _⟩ | h
  · omega
  · exact h

theorem cel_cell {w : World} {b o : Nat} {v : Value} (h : w.cell? ⟨b, o, none⟩ = some v) : cel w b o = some v := by
  simp only [World.cell?] at h
  simp only [cel, celO, blk]
  split at h <;> rename_i hx
  · rw [hx]; simpa using h
  · cases h

theorem row_of {w : World} {a : Addr} {l c m : Nat} {V : Nat → Value} (h : ∀ i, i < m → w.cell? (a.add i) = some (V i)) (hl : l ≤ m) (hc : l ≤ c) : Row 1 w (.slice (some a) l c) l V := by
  rcases Nat.eq_zero_or_pos l with rfl | hp
  · exact .inl ⟨rfl, _, _, rfl⟩
  · obtain ⟨b, o, spot⟩ := a
    have hs : spot = none := by simpa [Addr.add] using World.cell?_spot (h 0 (by omega))
    subst hs
    exact .inr ⟨b, o, c, rfl, hc, fun j hj => cel_cell (by rw [← Go.WideShapes.add_plain]; exact h j (by omega))⟩

section
variable {H : Type} {enc : TypeId × Value → H} {P : Program} {w : World} {d : DataW H} {ps : List MemPlace}

theorem row_ints {t e : TypeId} {k : IntKind} {a : Option Addr} {l c : Nat} (ht : P.underlying t = some (.slice e)) (he : P.underlying e = some (.int k)) (hc : P.cellsOf e = 1)
    (h : DataW.Trod enc P w 0 (fun _ => true) true t (.slice a l c) d ps) : ∃ zs : List Int, Row 1 w (.slice a l c) zs.length (fun i => .int k (zs.getD i 0)) ∧ zs.length = l ∧ l ≤ maxLen ∧ ∀ n ∈ zs, (Lit.int k n).wf = true := by
  obtain ⟨fuel, hf⟩ := h
  rcases open_ints ht he hc hf with ⟨hcs, _⟩ | ⟨x, l', c', zs, hcs, _, hl, hm, hz, _, hcell, hwz⟩
  · simp [Value.cells] at hcs
    obtain ⟨rfl, rfl, rfl⟩ := hcs
    exact ⟨[], .inl ⟨rfl, _, _, rfl⟩, rfl, Nat.zero_le _, by simp⟩
  · simp [Value.cells] at hcs
    obtain ⟨rfl, rfl, rfl⟩ := hcs
    have hz' : zs.length = c := by simpa using hz
    have hlen : (zs.take l).length = l := by rw [List.length_take]; omega
    refine ⟨zs.take l, ?_, hlen, by omega, fun n hn => hwz n (List.mem_of_mem_take hn)⟩
    rw [hlen]
    refine row_of (m := l) (fun i hi => ?_) (Nat.le_refl _) hl
    rw [hcell i (by omega)]
    simp [List.getD, List.getElem?_take, hi]
theorem row_strs {t e : TypeId} {a : Option Addr} {l c : Nat} (ht : P.underlying t = some (.slice e)) (he : P.underlying e = some .string) (hc : P.cellsOf e = 1)
    (h : DataW.Trod enc P w 0 (fun _ => true) true t (.slice a l c) d ps) : ∃ ss : List ByteArray, Row 1 w (.slice a l c) ss.length (fun i => .string (ss.getD i ByteArray.empty)) ∧ ss.length = l ∧ l ≤ maxLen ∧ ∀ s ∈ ss, s.size ≤ maxLen := by
  obtain ⟨fuel, hf⟩ := h
  rcases open_strings ht he hc hf with ⟨hcs, _⟩ | ⟨x, l', c', ss, hcs, _, hl, hm, hz, _, hcell, hwz⟩
  · simp [Value.cells] at hcs
    obtain ⟨rfl, rfl, rfl⟩ := hcs
    exact ⟨[], .inl ⟨rfl, _, _, rfl⟩, rfl, Nat.zero_le _, by simp⟩
  · simp [Value.cells] at hcs
    obtain ⟨rfl, rfl, rfl⟩ := hcs
    have hz' : ss.length = c := by simpa using hz
    have hlen : (ss.take l).length = l := by rw [List.length_take]; omega
    refine ⟨ss.take l, ?_, hlen, by omega, fun n hn => hwz n (List.mem_of_mem_take hn)⟩
    rw [hlen]
    refine row_of (m := l) (fun i hi => ?_) (Nat.le_refl _) hl
    rw [hcell i (by omega)]
    simp [List.getD, List.getElem?_take, hi]
end
theorem wf64 {n : Int} (h : (Lit.int .i64 n).wf = true) : -9223372036854775808 ≤ n ∧ n ≤ 9223372036854775807 := by
  simpa [Lit.wf, IntKind.min, IntKind.max, IntKind.signed, IntKind.bits] using h
end Go.Sh
