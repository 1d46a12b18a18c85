/- slices.Sort over a row of one's own of numbers. Conditions: the library's contract lies at the program. -/
import Derived.Test.YtmmnifbponhhfaaGreatTSort1
import Derived.Shelf.SortM.Plain
import Derived.Shelf.SortM.SortNone
set_option linter.unusedSimpArgs false
set_option linter.unusedVariables false
namespace Go.Sh
open Go.Sort Go.Shelf Go.Proofs
section
theorem sortInts_c {P : Program} {ρ : Ren} (L : Go.Proofs.SlLaysM.n5 P ρ) (E : Enters P (ρ.f 5)) {zs : List Int} {w : World} {base : Nat} {e : TypeId} {v : Value} (hown : Own w base e 1 v zs.length (zs.map (Value.int .i64))) (hlen : zs.length ≤ 1000000) {Q : Value → World → Prop}
    (hq : ∀ w', Own w' base e 1 v zs.length ((zs.mergeSort fun x y => decide (x ≤ y)).map (Value.int .i64)) → Keep (fun c => v.ownBlock = some c) w w' → Q (.tuple #[]) w') :
    callS P (ρ.f 5) #[v] Q w := by
  refine ⟨E, ?_⟩
  have hl : (zs.mergeSort fun x y => decide (x ≤ y)).length = zs.length := List.length_mergeSort _
  rcases hown.2 with ⟨h, h0⟩ | ⟨b, cap, cur, rfl, hb, hg, h2, h3, h4, h5⟩
  · subst h
    have h7 := Go.Proofs.AnyM.slices_Sort_int_none L none 0 w
    refine h7.mono fun e' w' ⟨he, hw⟩ => ⟨_, he, ?_⟩
    subst hw
    have : zs = [] := List.length_eq_zero_iff.1 h0
    subst this
    exact hq _ (by rw [List.mergeSort_nil]; exact hown) (Keep.refl _ _)
  · have hgs : b < w.heap.size := (Array.getElem?_eq_some_iff.1 hg).1
    have hH : Holds (Value.int .i64) w b 0 zs.toArray := fun j hj => by
      have hj' : j < zs.length := by simpa using hj
      refine ⟨?_, ?_⟩
      · rw [Nat.zero_add, cell_cel]
        simp only [cel, blk, hg, celO]
        have h6 : (zs.map (Value.int .i64))[j]? = some (Value.int .i64 zs.toArray[j]!) := by
          rw [List.getElem?_map, List.getElem?_eq_getElem hj', getElem!_pos _ j hj]; simp
        rw [← h5, List.getElem?_take, if_pos (by omega), Array.getElem?_toList] at h6
        exact h6
      · exact frozen_fre (by simp [fre, blk, hg, freeO])
    have h7 := Go.Proofs.AnyM.slices_Sort_int L b 0 cap zs w hH hgs (by omega)
    refine h7.mono fun e' w' ⟨he, n, os, hw⟩ => ⟨_, he, ?_⟩
    subst hw
    have hk : Keep (fun c => c = b) w (sortWorld (Value.int .i64) w b 0 n (zs.mergeSort fun x y => decide (x ≤ y)).toArray os) := sortWorld_keep
    refine hq _ ?_ (hk.mono fun c _ e => by rw [show c = b from e]; rfl)
    have hds : (zs.mergeSort fun x y => decide (x ≤ y)).toArray.size = zs.length := by simp
    refine ⟨by simp, .inr ⟨b, cap, putCells (Value.int .i64) 0 (zs.mergeSort fun x y => decide (x ≤ y)).toArray cur, rfl, hb, sortWorld_own hg, h2, h3, by simp [putCells]; omega, ?_⟩⟩
    have := putCells_take1 (enc := Value.int .i64) (F := (zs.mergeSort fun x y => decide (x ≤ y)).toArray) (cur := cur) (by omega)
    rw [hds] at this
    rw [Nat.mul_one]
    exact this
end
end Go.Sh
