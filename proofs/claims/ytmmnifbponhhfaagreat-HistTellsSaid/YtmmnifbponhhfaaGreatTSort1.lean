/- slices.SortFunc over a row of one's own whose elements are one cell each (pointers among them): the comparator is asked only where nothing but the row has turned. Conditions: as it says. -/
import Derived.Test.YtmmnifbponhhfaaGreatTShS
import Derived.Test.YtmmnifbponhhfaaGreatTSort
import Derived.Shelf.SlSortCmp.NoneTotal
set_option linter.unusedSimpArgs false
set_option linter.unusedVariables false
namespace Go.Sh
open Go.Sort Go.Shelf Go.Proofs
section
variable {α : Type} [Inhabited α] {enc : α → Value}
theorem sortWorld_blk {w : World} {b off n : Nat} {d : Array α} {os : Array Obj} {c : Nat} (hc : c < siz w) (hne : c ≠ b) : blk (sortWorld enc w b off n d os) c = blk w c := by
  simp only [blk, sortWorld, putRow, mapBlock, Sort.grow, Sort.ahead]
  rw [Array.getElem?_append_left (by rw [Array.size_modify]; exact hc), Array.getElem?_modify, if_neg (fun e => hne e.symm)]
theorem sortWorld_own {w : World} {b off n : Nat} {d : Array α} {os : Array Obj} {cur : Array Value} {e : TypeId} (h : w.heap[b]? = some (.cells cur e (0, 0))) :
    (sortWorld enc w b off n d os).heap[b]? = some (.cells (putCells enc off d cur) e (0, 0)) := by
  have hb := (Array.getElem?_eq_some_iff.1 h).1
  simp only [sortWorld, putRow, mapBlock, Sort.grow, Sort.ahead]
  rw [Array.getElem?_append_left (by rw [Array.size_modify]; exact hb), Array.getElem?_modify, if_pos rfl, h]; rfl
theorem sortWorld_keep {w : World} {b off n : Nat} {d : Array α} {os : Array Obj} : Keep (fun c => c = b) w (sortWorld enc w b off n d os) := by
  refine ⟨rfl, rfl, rfl, ?_, fun c hc hn => sortWorld_blk hc hn⟩
  simp only [siz, sortWorld, size_grow, putRow, mapBlock, Array.size_modify, Sort.ahead]
  omega
theorem putCells_take1 {F : Array α} {cur : Array Value} (h : F.size ≤ cur.size) : (putCells enc 0 F cur).toList.take F.size = F.toList.map enc := by
  apply List.ext_getElem?
  intro t
  rw [List.getElem?_take]
  by_cases ht : t < F.size
  · rw [if_pos ht, Array.getElem?_toList, List.getElem?_map, Array.getElem?_toList, putCells, Array.getElem?_mapIdx, Array.getElem?_eq_getElem (show t < cur.size by omega), Array.getElem?_eq_getElem ht]
    simp [ht]
  · rw [if_neg ht, List.getElem?_eq_none (by simp; omega)]
theorem sortFunc1_s {P : Program} {ρ : Ren} (L : SlLaysF.n6 P ρ) (h1 : ∀ x, one (enc x) = true) (cf : α → α → Int) (hO : SWO (Go.Proofs.ltOf cf)) {g : Nat} (eg : Enters P g) (E : Enters P (ρ.f 6))
    {l : List α} {w : World} {base : Nat} {e : TypeId} {b cap : Nat} (hown : Own w base e 1 (.slice (some ⟨b, 0, none⟩) l.length cap) l.length (l.map enc)) (hlen : l.length < 4611686018427387904)
    (hcmp : ∀ x y w', Keep (fun c => c = b) w w' → callS P g #[enc x, enc y] (fun v w'' => v = .int .i64 (cf x y) ∧ Grw w' w'') w') {Q : Value → World → Prop}
    (hq : ∀ (l' : List α) (w' : World), l'.Perm l → l'.Pairwise (fun x y => ¬ cf y x < 0) → Own w' base e 1 (.slice (some ⟨b, 0, none⟩) l.length cap) l.length (l'.map enc) → Keep (fun c => c = b) w w' → Q (.tuple #[]) w') :
    callS P (ρ.f 6) #[.slice (some ⟨b, 0, none⟩) l.length cap, .func (.func g) #[] #[]] Q w := by
  refine ⟨E, ?_⟩
  rcases hown.2 with ⟨h, _⟩ | ⟨b', cap', cur, he, hb, hg, h2, h3, h4, h5⟩
  · cases h
  · injection he with e1 _ e2
    injection e1 with e1
    injection e1 with e1 _ _
    subst e1 e2
    have hgs : b < w.heap.size := (Array.getElem?_eq_some_iff.1 hg).1
    have hH : Holds enc w b 0 l.toArray := fun j hj => by
      have hj' : j < l.length := by simpa using hj
      refine ⟨?_, ?_⟩
      · rw [Nat.zero_add, cell_cel]
        simp only [cel, blk, hg, celO]
        have h6 : (l.map enc)[j]? = some (enc l.toArray[j]!) := by
          rw [List.getElem?_map, List.getElem?_eq_getElem hj', getElem!_pos _ j hj]; simp
        rw [← h5, List.getElem?_take, if_pos (by omega), Array.getElem?_toList] at h6
        exact h6
      · exact frozen_fre (by simp [fre, blk, hg, freeO])
    have hC : Go.Proofs.CmpLays1 P g #[] enc cf b 0 l.toArray.size w := fun m os dk _ x y => by
      have h6 := (hcmp x y (sortWorld enc w b 0 m dk os) sortWorld_keep).2
      simp only [Array.append_empty]
      exact Calls.mono h6 fun e w' ⟨v, he, hv, hgw⟩ => ⟨by rw [he, hv], hgw.grow⟩
    have h7 := Go.Proofs.Any.slices_SortFunc L enc (fun x => one_oneCell (h1 x)) cf hO g #[] b 0 cap l.toArray w eg hC hH hgs (by simpa using hlen)
    simp only [List.size_toArray] at h7
    refine h7.mono fun e' w' ⟨he, d', n, os, hp, hs, hw⟩ => ⟨_, he, ?_⟩
    subst hw
    obtain ⟨p1, _, p3⟩ := hp
    have hds : d'.size = l.length := by simpa using p1
    refine hq d'.toList _ ?_ ?_ ?_ sortWorld_keep
    · have e1 : (d'.extract 0 l.length).toList = d'.toList := by rw [← hds]; simp
      have e2 : (l.toArray.extract 0 l.length).toList = l := by simp
      rw [e1, e2] at p3; exact p3
    · rw [List.pairwise_iff_getElem]
      intro i j hi hj hij hlt
      simp only [Array.length_toList] at hi hj
      have h8 := hs i j (Nat.zero_le _) hij (by omega)
      rw [getElem!_pos d' i hi, getElem!_pos d' j hj] at h8
      simp only [Array.getElem_toList] at hlt
      simp only [Go.Proofs.ltOf, decide_eq_false_iff_not] at h8
      exact h8 hlt
    · refine ⟨by simp [hds], .inr ⟨b, cap, putCells enc 0 d' cur, rfl, hb, sortWorld_own hg, h2, h3, by simp [putCells]; omega, ?_⟩⟩
      have := putCells_take1 (enc := enc) (F := d') (cur := cur) (by omega)
      rw [hds] at this
      rw [Nat.mul_one]
      exact this
theorem sortFunc1_c {P : Program} {ρ : Ren} (L : SlLaysF.n6 P ρ) (h1 : ∀ x, one (enc x) = true) (cf : α → α → Int) (hO : SWO (Go.Proofs.ltOf cf)) {g : Nat} (eg : Enters P g) (E : Enters P (ρ.f 6))
    {l : List α} {w : World} {base : Nat} {e : TypeId} {b cap : Nat} (hown : Own w base e 1 (.slice (some ⟨b, 0, none⟩) l.length cap) l.length (l.map enc)) (hlen : l.length < 4611686018427387904)
    (hcmp : ∀ x y w', Keep (fun c => c = b) w w' → callS P g #[enc x, enc y] (fun v w'' => v = .int .i64 (cf x y) ∧ Grw w' w'') w') {Q : Value → World → Prop}
    (hq : ∀ (l' : List α) (w' : World), l'.Perm l → Own w' base e 1 (.slice (some ⟨b, 0, none⟩) l.length cap) l.length (l'.map enc) → Keep (fun c => c = b) w w' → Q (.tuple #[]) w') :
    callS P (ρ.f 6) #[.slice (some ⟨b, 0, none⟩) l.length cap, .func (.func g) #[] #[]] Q w :=
  sortFunc1_s L h1 cf hO eg E hown hlen hcmp fun l' w' hp _ ho k => hq l' w' hp ho k
end
end Go.Sh
