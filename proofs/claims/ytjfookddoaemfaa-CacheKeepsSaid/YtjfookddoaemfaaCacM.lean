/- Rows of entries: loads, stores, swaps; the insertion sort by the entries' numbers. Conditions: as each says. -/
import Derived.Test.YtjfookddoaemfaaCacL
set_option linter.unusedSimpArgs false
set_option linter.unusedVariables false
namespace Go.Proofs.Ytjfookddoaemfaa
open Go.Sh Go.Sh.Lrv Go.Proofs.Ytjfookddoaemfaa.Lv
set_option maxRecDepth 100000
section
variable {w w' : World} {Q : Value → World → Prop} {B g n cap : Nat} {d : List En}
/-- A row of entries of one's own. -/
abbrev RowE (w : World) (B g n cap : Nat) (d : List En) : Prop := Sh.Own w B 49 5 (.slice (some ⟨g, 0, none⟩) n cap) n (flat encE d)
theorem RowE.len (h : RowE w B g n cap d) : d.length = n := by
  have := Sh.Own.len h
  rw [flat_len encE_len] at this
  omega
theorem RowE.en (h : RowE w B g n cap d) {i : Nat} (hi : i < n) : EnAt w g (i * 5) (d[i]'(by rw [h.len]; exact hi)) := by
  have hl := h.len
  obtain ⟨g', c', e, _, _, _, _, _, hcel⟩ := Sh.Own.at h (by omega)
  injection e with e1 _ _
  injection e1 with e1
  injection e1 with e1 _ _
  subst e1
  intro j hj
  have hb : (i + 1) * 5 ≤ n * 5 := Nat.mul_le_mul_right _ hi
  rw [hcel _ (by omega)]
  exact flat_get (enc := encE) encE_len (List.getElem?_eq_getElem (by rw [hl]; exact hi)) hj
theorem RowE.fre (h : RowE w B g n cap d) : Go.Sh.fre w g = true := Sh.Own.fre h rfl
theorem RowE.set (h : RowE w B g n cap d) {i : Nat} (hi : i < n) (e : En) : RowE (stoL w g (i * 5) (encE e)) B g n cap (d.set i e) := by
  have hl := h.len
  have hb : (i + 1) * 5 ≤ n * 5 := Nat.mul_le_mul_right _ hi
  have h1 := Sh.Own.setL (encE e) h (j := i * 5) (by rw [encE_len]; omega)
  have e5 : (flat encE d).take (i * 5) ++ (encE e ++ (flat encE d).drop (i * 5 + (encE e).length)) = flat encE (d.set i e) := by
    rw [List.set_eq_take_append_cons_drop, if_pos (by omega), flat_append, flat_cons, ← flat_take encE_len, ← flat_drop encE_len, encE_len, Nat.add_mul]
  rw [e5] at h1
  exact h1
theorem ixE {i : Nat} {kd : IntKind} {k : Value → Prop} (hi : i < n) : pur Try.prog (Instr.indexAt 35 (.slice (some ⟨g, 0, none⟩) n cap) (.int kd i)) k = k (.pointer (some ⟨g, i * 5, none⟩)) := by
  rw [ix_35 hi, Nat.zero_add]
def swp (d : List En) (i j : Nat) (hi : i < d.length) (hj : j < d.length) : List En := (d.set i d[j]).set j d[i]
theorem swp_len {i j : Nat} {hi : i < d.length} {hj : j < d.length} : (swp d i j hi hj).length = d.length := by simp [swp]
theorem swp_get {i j : Nat} {hi : i < d.length} {hj : j < d.length} {k : Nat} (hk : k < d.length) : (swp d i j hi hj)[k]'(by rw [swp_len]; exact hk) = if k = j then d[i] else if k = i then d[j] else d[k] := by
  unfold swp
  by_cases h1 : k = j
  · subst h1; simp
  · rw [List.getElem_set_ne (Ne.symm h1), if_neg h1]
    by_cases h2 : k = i
    · subst h2; simp
    · rw [List.getElem_set_ne (Ne.symm h2), if_neg h2]
theorem swp_perm {i j : Nat} {hi : i < d.length} {hj : j < d.length} : (swp d i j hi hj).Perm d := by
  have h := (Array.swap_perm (xs := d.toArray) (i := i) (j := j) (by simpa using hi) (by simpa using hj))
  have h2 := Array.perm_iff_toList_perm.1 h
  rw [Array.toList_swap] at h2
  simpa [swp] using h2
/-- Two cells are changed: what is loaded first, then stored. -/
theorem swap_w (h : RowE w B g n cap d) {i j : Nat} (hi : i < n) (hj : j < n) {K : World → Prop} (hk : ∀ w', RowE w' B g n cap (swp d i j (by rw [h.len]; exact hi) (by rw [h.len]; exact hj)) → Keep (fun b => b = g) w w' → K w') :
    act Try.prog (thenU (Instr.storeAt 49 (.pointer (some ⟨g, i * 5, none⟩)) (vE (d[j]'(by rw [h.len]; exact hj))))) (fun _ w1 => act Try.prog (thenU (Instr.storeAt 49 (.pointer (some ⟨g, j * 5, none⟩)) (vE (d[i]'(by rw [h.len]; exact hi))))) (fun _ w2 => K w2) w1) w := by
  have hl := h.len
  rw [st_en (h.en hi).is h.fre]
  have h1 := h.set hi d[j]
  rw [st_en (h1.en hj).is h1.fre]
  exact hk _ (h1.set hj d[i]) (Keep.stoL _ _ (Keep.stoL _ _ (Keep.refl _ _) (.inl rfl)) (.inl rfl))
end
end Go.Proofs.Ytjfookddoaemfaa
