/- Words on their way between a lease and a table: what holds of them round by round: plain. Conditions: as each says. -/
import Derived.Test.YtcmcdiddplmkaaaLeaseP
set_option linter.unusedSimpArgs false
set_option linter.unusedVariables false
namespace Go.Proofs.Ytcmcdiddplmkaaa
open Go.Sh
set_option maxRecDepth 100000
structure PR (term : Int) (xa xb asked : List Int) (end_ : Int) (gr : Bool) (l : List (Value × Value)) (ws : List I3) (bnd : Nat → Int) : Prop where
  len : asked.length = ws.length
  ask : ∀ k (h : k < ws.length), ws[k].1 = ((k + 1 : Nat) : Int) ∧ 0 ≤ ws[k].2.1 ∧ ws[k].2.1 ≤ 1000 ∧ ∃ p : Nat, p ≤ xa.length ∧ (p : Int) ≤ ws[k].2.1 + 1 ∧ asked.getD k 0 = sumI (xa.take p)
  ren : ∀ k (h : k < ws.length), ws[k].2.1 < bnd k → ∃ T, l = [(.int .i64 1, .int .i64 T)] ∧ (ws[k].2.1 + 1).toNat ≤ xb.length ∧ sumI (xb.take (ws[k].2.1 + 1).toNat) + 2 * term ≤ T
  gra : gr = true → ∃ p q : Nat, ∃ T, p ≤ q ∧ p ≤ xa.length ∧ q ≤ xb.length ∧ end_ = sumI (xa.take p) + term ∧ l = [(.int .i64 1, .int .i64 T)] ∧ sumI (xb.take q) + 2 * term ≤ T
  form : l = [] ∨ ∃ T, l = [(.int .i64 1, .int .i64 T)] ∧ 0 ≤ T ∧ T ≤ 1000000
section
variable {term end_ : Int} {xa xb asked : List Int} {gr : Bool} {l : List (Value × Value)} {ws : List I3} {bnd : Nat → Int}
theorem PR.nil : PR term [] [] [] 0 false [] [] bnd := ⟨rfl, fun k h => by simp at h, fun k h => by simp at h, fun h => (by cases h), .inl rfl⟩
theorem PR.mono {bnd' : Nat → Int} (h : PR term xa xb asked end_ gr l ws bnd) (hb : ∀ k, k < ws.length → bnd' k ≤ bnd k) : PR term xa xb asked end_ gr l ws bnd' :=
  ⟨h.len, h.ask, fun k hk hlt => h.ren k hk (by have := hb k hk; omega), h.gra, h.form⟩
theorem PR.step {y z : Int} (h : PR term xa xb asked end_ gr l ws bnd) : PR term (xa ++ [y]) (xb ++ [z]) asked end_ gr l ws bnd := by
  refine ⟨h.len, fun k hk => ?_, fun k hk hb => ?_, fun hg => ?_, h.form⟩
  · obtain ⟨h1, h2, h3, p, h4, h5, h6⟩ := h.ask k hk
    exact ⟨h1, h2, h3, p, by rw [List.length_append]; omega, h5, by rw [List.take_append_of_le_length h4]; exact h6⟩
  · obtain ⟨T, h1, h2, h3⟩ := h.ren k hk hb
    exact ⟨T, h1, by rw [List.length_append]; omega, by rw [List.take_append_of_le_length h2]; exact h3⟩
  · obtain ⟨p, q, T, h1, h2, h3, h4, h5, h6⟩ := h.gra hg
    exact ⟨p, q, T, h1, by rw [List.length_append]; omega, by rw [List.length_append]; omega, by rw [List.take_append_of_le_length h2]; exact h4, h5, by rw [List.take_append_of_le_length h3]; exact h6⟩
theorem PR.asks {at_ : Int} (h : PR term xa xb asked end_ gr l ws bnd) (h0 : (xa.length : Int) ≤ at_ + 1) (h1 : 0 ≤ at_ ∧ at_ ≤ 1000) (hb : bnd ws.length ≤ at_) : PR term xa xb (asked ++ [sumI xa]) end_ gr l (ws ++ [(((ws.length + 1 : Nat) : Int), at_, 0)]) bnd := by
  refine ⟨by rw [List.length_append, List.length_append, h.len]; rfl, fun k hk => ?_, fun k hk hlt => ?_, h.gra, h.form⟩
  · rw [List.length_append, List.length_singleton] at hk
    by_cases hkl : k < ws.length
    · rw [List.getElem_append_left hkl]
      have e : (asked ++ [sumI xa]).getD k 0 = asked.getD k 0 := by
        rw [List.getD_eq_getElem?_getD, List.getD_eq_getElem?_getD, List.getElem?_append_left (by rw [h.len]; exact hkl)]
      rw [e]; exact h.ask k hkl
    · have e : k = ws.length := by omega
      subst e
      rw [List.getElem_append_right (Nat.le_refl _)]
      simp only [Nat.sub_self, List.getElem_cons_zero]
      refine ⟨by first | trivial | rfl, h1.1, h1.2, xa.length, Nat.le_refl _, h0, ?_⟩
      rw [List.take_length, List.getD_eq_getElem?_getD, List.getElem?_append_right (by rw [h.len]; exact Nat.le_refl _), h.len, Nat.sub_self]; rfl
  · rw [List.length_append, List.length_singleton] at hk
    by_cases hkl : k < ws.length
    · rw [List.getElem_append_left hkl] at hlt ⊢
      exact h.ren k hkl hlt
    · have e : k = ws.length := by omega
      subst e
      rw [List.getElem_append_right (Nat.le_refl _)] at hlt
      simp only [Nat.sub_self, List.getElem_cons_zero] at hlt
      omega
theorem PR.back {k : Nat} {v : Int} (h : PR term xa xb asked end_ gr l ws bnd) (hk : k < ws.length) : PR term xa xb asked end_ gr l (ws.set k (ws[k].1, ws[k].2.1, v)) bnd := by
  have e : ∀ j (hj : j < (ws.set k (ws[k].1, ws[k].2.1, v)).length), (ws.set k (ws[k].1, ws[k].2.1, v))[j].1 = (ws[j]'(by simpa using hj)).1 ∧ (ws.set k (ws[k].1, ws[k].2.1, v))[j].2.1 = (ws[j]'(by simpa using hj)).2.1 := fun j hj => by
    rw [List.getElem_set]
    split
    · rename_i hkj; subst hkj; exact ⟨rfl, rfl⟩
    · exact ⟨rfl, rfl⟩
  refine ⟨by rw [List.length_set]; exact h.len, fun j hj => ?_, fun j hj hlt => ?_, h.gra, h.form⟩
  · obtain ⟨e1, e2⟩ := e j hj
    rw [e1, e2]; exact h.ask j (by simpa using hj)
  · obtain ⟨_, e2⟩ := e j hj
    rw [e2] at hlt ⊢; exact h.ren j (by simpa using hj) hlt
/-- A word has come to the table. -/
theorem PR.renew {k : Nat} {T' : Int} {bnd' : Nat → Int} (h : PR term xa xb asked end_ gr l ws bnd) (hk : k < ws.length) (hat : ws[k].2.1 + 1 = (xb.length : Int)) (hT : sumI xb + 2 * term ≤ T') (hb : 0 ≤ T' ∧ T' ≤ 1000000) (hold : ∀ T, l = [(.int .i64 1, .int .i64 T)] → T ≤ T')
    (hbn : ∀ j (hj : j < ws.length), j ≠ k → bnd' j ≤ bnd j) : PR term xa xb asked end_ gr [(.int .i64 1, .int .i64 T')] ws bnd' := by
  refine ⟨h.len, h.ask, fun j hj hlt => ?_, fun hg => ?_, .inr ⟨T', rfl, hb⟩⟩
  · by_cases hjk : j = k
    · subst hjk
      refine ⟨T', rfl, by omega, ?_⟩
      rw [hat, show ((xb.length : Int)).toNat = xb.length by omega, List.take_length]; exact hT
    · obtain ⟨T, h1, h2, h3⟩ := h.ren j hj (by have := hbn j hj hjk; omega)
      exact ⟨T', rfl, h2, by have := hold T h1; omega⟩
  · obtain ⟨p, q, T, h1, h2, h3, h4, h5, h6⟩ := h.gra hg
    exact ⟨p, q, T', h1, h2, h3, h4, rfl, by have := hold T h5; omega⟩
/-- A word has come back. -/
theorem PR.heard {k : Nat} (h : PR term xa xb asked end_ gr l ws bnd) (hk : k < ws.length) (hb : ws[k].2.1 < bnd k) : PR term xa xb asked (asked.getD k 0 + term) true l ws bnd := by
  refine ⟨h.len, h.ask, h.ren, fun _ => ?_, h.form⟩
  obtain ⟨_, h0, _, p, h1, h2, h3⟩ := h.ask k hk
  obtain ⟨T, h4, h5, h6⟩ := h.ren k hk hb
  exact ⟨p, (ws[k].2.1 + 1).toNat, T, by omega, h1, h5, by rw [h3], h4, h6⟩
/-- A table's lateness, and a lease that is good still: not both. -/
theorem PR.safe {T : Int} (h : PR term xa xb asked end_ gr [(.int .i64 1, .int .i64 T)] ws bnd) (ha : Kpt xa) (hb : Kpt xb) (hl : xa.length = xb.length) (ht : 32 ≤ term) (hlate : T ≤ sumI xb) : (gr && decide (sumI xa < end_)) = false := by
  cases gr with
  | false => rfl
  | true =>
    rw [Bool.true_and]
    refine decide_eq_false fun hgood => ?_
    obtain ⟨p, q, T', h1, h2, h3, h4, h5, h6⟩ := h.gra rfl
    have e : T' = T := by injection h5 with h5; injection h5 with _ h5; injection h5 with _ h5; exact h5.symm
    have s1 := sumI_split xa p h2
    have s2 := sumI_split xb q h3
    exact lease_over ha hb hl h1 (by omega) ht (by omega) (by omega)
end
end Go.Proofs.Ytcmcdiddplmkaaa
