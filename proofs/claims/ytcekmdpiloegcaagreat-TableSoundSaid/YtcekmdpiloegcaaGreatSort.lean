/- slices.SortFunc over a row of one's own, in the words of these readings: whatever the program, whatever the elements. Conditions: as each says. -/
import Derived.Test.YtcekmdpiloegcaaGreatShS
import Derived.Shelf.SlSortCmp.NoneTotal
set_option linter.unusedSimpArgs false
set_option linter.unusedVariables false
namespace Go.Sh
open Go.Sort Go.Shelf Go.Proofs

/-- Nothing old is turned, and no draw is taken back. -/
def Grw (w w' : World) : Prop := Keep (fun _ => False) w w' ∧ w.drawn ≤ w'.drawn
theorem Grw.refl (w : World) : Grw w w := ⟨Keep.refl _ w, Nat.le_refl _⟩
theorem Grw.trans {w w' w'' : World} (h : Grw w w') (h' : Grw w' w'') : Grw w w'' := ⟨h.1.trans h'.1, Nat.le_trans h.2 h'.2⟩
theorem Grw.drew {w w' : World} (h : Grw w w') : Grw w w'.drew := ⟨h.1.drew, Nat.le_succ_of_le h.2⟩
theorem Grw.alloc {w w' : World} (h : Grw w w') (o : Obj) : Grw w (w'.alloc o) := ⟨h.1.alloc o, h.2⟩
theorem Grw.grow {w w' : World} (h : Grw w w') : ∃ q os', w' = Sort.grow (w.drewN q) os' := by
  obtain ⟨hk, hd⟩ := h
  refine ⟨w'.drawn - w.drawn, w'.heap.extract w.heap.size w'.heap.size, ?_⟩
  have hs : w.heap.size ≤ w'.heap.size := hk.size
  have hh : w'.heap = w.heap ++ w'.heap.extract w.heap.size w'.heap.size := by
    apply Array.ext_getElem?
    intro i
    rw [Array.getElem?_append]
    by_cases hi : i < w.heap.size
    · rw [if_pos hi]; exact hk.block i hi id
    · rw [if_neg hi, Array.getElem?_extract]
      by_cases h2 : i < w'.heap.size
      · rw [if_pos (by omega), show w.heap.size + (i - w.heap.size) = i by omega]
      · rw [if_neg (by omega), Array.getElem?_eq_none (by omega)]
  have h1 := hk.os
  have h2 := hk.tape
  have h3 := hk.output
  cases w; cases w'
  simp only at *
  subst h1 h2 h3
  simp only [Sort.grow, World.drewN]
  rw [← hh]
  congr 1
  omega

section
variable {α : Type} [Inhabited α] {enc : α → List Value} {k : Nat}

theorem flatK_flat (hk : ∀ x, (enc x).length = k) (d : Array α) : (flatK enc k d).toList = flat enc d.toList := by
  apply List.ext_getElem?
  intro t
  by_cases ht : t < d.size * k
  · have k0 : 0 < k := by
      rcases Nat.eq_zero_or_pos k with h | h
      · subst h; simp at ht
      · exact h
    have hi : t / k < d.size := Nat.div_lt_of_lt_mul (by rw [Nat.mul_comm]; exact ht)
    have hj : t % k < k := Nat.mod_lt _ k0
    have e1 : d.toList[t / k]? = some (d[t / k]!) := by
      rw [Array.getElem?_toList, Array.getElem?_eq_getElem hi, getElem!_pos d _ hi]
    have h1 := flat_get hk e1 hj
    rw [show t / k * k + t % k = t by rw [Nat.mul_comm]; exact Nat.div_add_mod t k] at h1
    rw [h1, Array.getElem?_toList]
    have hsz : t < (flatK enc k d).size := by rw [size_flatK]; exact ht
    have h2 := get_flatK enc k d t ht
    rw [getElem!_pos _ t hsz] at h2
    rw [Array.getElem?_eq_getElem hsz, h2]
    have hl : t % k < (enc d[t / k]!).length := by rw [hk]; exact hj
    rw [List.getElem?_eq_getElem hl, getElem!_pos (enc d[t / k]!) (t % k) hl]
  · rw [List.getElem?_eq_none (by simp; omega), List.getElem?_eq_none (by rw [flat_len hk]; simp; omega)]

theorem sortWorldK_blk {w : World} {b off n : Nat} {d : Array α} {os : Array Obj} {c : Nat} (hc : c < siz w) (hne : c ≠ b) : blk (sortWorldK enc k w b off n d os) c = blk w c := by
  simp only [blk, sortWorldK, putRowK, putRow, mapBlock, Sort.grow, Sort.ahead]
  rw [Array.getElem?_append_left (by rw [Array.size_modify]; exact hc), Array.getElem?_modify, if_neg (fun e => hne e.symm)]
theorem sortWorldK_own {w : World} {b off n : Nat} {d : Array α} {os : Array Obj} {cur : Array Value} {e : TypeId} (h : w.heap[b]? = some (.cells cur e (0, 0))) :
    (sortWorldK enc k w b off n d os).heap[b]? = some (.cells (putCells id off (flatK enc k d) cur) e (0, 0)) := by
  have hb := (Array.getElem?_eq_some_iff.1 h).1
  simp only [sortWorldK, putRowK, putRow, mapBlock, Sort.grow, Sort.ahead]
  rw [Array.getElem?_append_left (by rw [Array.size_modify]; exact hb), Array.getElem?_modify, if_pos rfl, h]; rfl
theorem putCells_take {F cur : Array Value} (h : F.size ≤ cur.size) : (putCells id 0 F cur).toList.take F.size = F.toList := by
  apply List.ext_getElem?
  intro t
  rw [List.getElem?_take]
  by_cases ht : t < F.size
  · rw [if_pos ht, Array.getElem?_toList, Array.getElem?_toList, putCells, Array.getElem?_mapIdx, Array.getElem?_eq_getElem (show t < cur.size by omega), Array.getElem?_eq_getElem ht]
    simp [ht]
  · rw [if_neg ht, List.getElem?_eq_none (by simp; omega)]
theorem putCells_size {F cur : Array Value} {o : Nat} : (putCells id o F cur).size = cur.size := by simp [putCells]

theorem sortFunc_c {P : Program} {ρ : Ren} (L : SlLaysF0.n6 P ρ) (aE : ∀ w, (isAgg (ρ.t 24)).run P w = .ok true w) (zE : ∀ w, (Go.sizeOf (ρ.t 24)).run P w = .ok k w) (hk : ∀ x, (enc x).length = k) (h1 : ∀ x, ∀ v ∈ enc x, one v = true)
    (cf : α → α → Int) (hO : SWO (Go.Proofs.ltOf cf)) {g : Nat} (eg : Enters P g) (hcmp : ∀ x y w, callS P g #[.agg (enc x).toArray, .agg (enc y).toArray] (fun v w' => v = .int .i64 (cf x y) ∧ Grw w w') w) (E : Enters P (ρ.f 6))
    {l : List α} {w : World} {base : Nat} {e : TypeId} {v : Value} (hown : Own w base e k v l.length (flat enc l)) (hlen : l.length < 4611686018427387904) {Q : Value → World → Prop}
    (hq : ∀ l' w', l'.Perm l → l'.Pairwise (fun x y => ¬ cf y x < 0) → Own w' base e k v l.length (flat enc l') → Keep (fun b => v.ownBlock = some b) w w' → Q (.tuple #[]) w') :
    callS P (ρ.f 6) #[v, .func (.func g) #[] #[]] Q w := by
  refine ⟨E, ?_⟩
  rcases hown.2 with ⟨rfl, hn⟩ | ⟨b, cap, cur, rfl, hb, hg, h2, h3, h4, h5⟩
  · have hl : l = [] := List.length_eq_zero_iff.1 hn
    subst hl
    exact (Go.Proofs.AnyF.slices_SortFunc_none L none 0 _ w).mono fun e w' ⟨he, hw⟩ => ⟨_, he, by subst hw; exact hq [] _ (List.Perm.refl _) List.Pairwise.nil hown (Keep.refl _ _)⟩
  · have hgs : b < w.heap.size := (Array.getElem?_eq_some_iff.1 hg).1
    have hfl : (flatK enc k l.toArray).toList = flat enc l := flatK_flat hk _
    have hsz0 : (flatK enc k l.toArray).size = l.length * k := by simp
    have hH : HoldsK enc k w b 0 l.toArray := fun j hj => by
      have hj' : j < l.length * k := by rw [← hsz0]; exact hj
      have hcap : l.length * k ≤ cap * k := Nat.mul_le_mul_right k h2
      refine ⟨?_, ?_⟩
      · rw [Nat.zero_add, cell_cel]
        simp only [cel, blk, hg, celO]
        have h6 : (flatK enc k l.toArray).toList[j]? = some (flatK enc k l.toArray)[j]! := by
          rw [Array.getElem?_toList, Array.getElem?_eq_getElem hj, getElem!_pos _ j hj]
        rw [hfl, ← h5, List.getElem?_take, if_pos hj', Array.getElem?_toList] at h6
        exact h6
      · exact frozen_fre (by simp [fre, blk, hg, freeO])
    have hC : Go.Proofs.CmpLays P g #[] enc k cf b 0 l.toArray.size w := fun m os dk _ x y => by
      have h6 := (hcmp x y (sortWorldK enc k w b 0 m dk os)).2
      simp only [Array.append_empty]
      exact Calls.mono h6 fun e w' ⟨v, he, hv, hgw⟩ => ⟨by rw [he, hv], hgw.grow⟩
    have h7 := Go.Proofs.AnyQ.slices_SortFunc L k aE zE enc hk (fun x v hv => one_oneCell (h1 x v hv)) cf hO g #[] b 0 cap l.toArray w eg hC hH hgs (by simpa using hlen)
    simp only [List.size_toArray] at h7
    refine h7.mono fun e' w' ⟨he, d', n, os, hp, hs, hw⟩ => ⟨_, he, ?_⟩
    subst hw
    obtain ⟨p1, _, p3⟩ := hp
    have hds : d'.size = l.length := by simpa using p1
    refine hq d'.toList _ ?_ ?_ ?_ ?_
    · have e1 : (d'.extract 0 l.length).toList = d'.toList := by rw [← hds]; simp
      have e2 : (l.toArray.extract 0 l.length).toList = l := by simp
      rw [e1, e2] at p3; exact p3
    · rw [List.pairwise_iff_getElem]
      intro i j hi hj hij hlt
      simp only [Array.length_toList] at hi hj
      have h8 := hs i j (Nat.zero_le _) hij (by omega)
      rw [getElem!_pos d' i hi, getElem!_pos d' j hj] at h8
      simp only [Array.getElem_toList] at hlt
      simp only [Go.Proofs.ltOf, decide_eq_false_iff_not] at h8
      exact h8 hlt
    · have hfd := flatK_flat hk d'
      have hsz : (flatK enc k d').size = l.length * k := by rw [size_flatK, hds]
      refine ⟨by rw [flat_len hk]; simp [hds], .inr ⟨b, cap, putCells id 0 (flatK enc k d') cur, rfl, hb, sortWorldK_own hg, h2, h3, by rw [putCells_size]; exact h4, ?_⟩⟩
      rw [← hsz, putCells_take (by rw [hsz, h4]; exact Nat.mul_le_mul_right k h2), hfd]
    · refine ⟨rfl, rfl, rfl, ?_, fun c hc hn => sortWorldK_blk hc fun e => hn (by rw [e]; rfl)⟩
      simp only [siz, sortWorldK, size_grow, putRowK, putRow, mapBlock, Array.size_modify, Sort.ahead]
      omega
end
end Go.Sh
