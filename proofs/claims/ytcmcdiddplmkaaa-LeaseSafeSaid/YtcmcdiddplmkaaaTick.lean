/- Clocks that go wrong within a bound: their last eight steps; how far two of them may be apart: plain, of no program. Conditions: none. -/
import Derived.Test.YtcmcdiddplmkaaaShS
set_option linter.unusedSimpArgs false
set_option linter.unusedVariables false
set_option linter.unusedVariables false
namespace Go.Sh
def stq (st : List Int) (x : Int) : List Int := (if st.length = 8 then st.tail else st) ++ [x]
def sumI : List Int → Int
  | [] => 0
  | x :: l => x + sumI l
theorem sumI_append (a b : List Int) : sumI (a ++ b) = sumI a + sumI b := by
  induction a with
  | nil => simp [sumI]
  | cons y l ih => rw [List.cons_append, sumI, ih, sumI]; omega
theorem sumI_snoc (l : List Int) (x : Int) : sumI (l ++ [x]) = sumI l + x := by rw [sumI_append]; simp [sumI]
theorem sumI_bound : ∀ l : List Int, (∀ y ∈ l, 0 ≤ y ∧ y ≤ 8) → 0 ≤ sumI l ∧ sumI l ≤ 8 * l.length
  | [], _ => by simp [sumI]
  | x :: l, h => by
    have := sumI_bound l fun y hy => h y (by simp [hy])
    have := h x (by simp)
    rw [sumI, List.length_cons]; omega
def bad (st : List Int) : Prop := st.length = 8 ∧ (sumI st < 7 ∨ 9 < sumI st)
instance (st : List Int) : Decidable (bad st) := by unfold bad; infer_instance
/-- All steps of a clock that kept its bound. -/
structure Kpt (xs : List Int) : Prop where
  step : ∀ y ∈ xs, 0 ≤ y ∧ y ≤ 8
  win : ∀ k, k + 8 ≤ xs.length → 7 ≤ sumI ((xs.drop k).take 8) ∧ sumI ((xs.drop k).take 8) ≤ 9
theorem Kpt.nil : Kpt [] := ⟨by simp, fun k h => by simp at h⟩
/-- The last steps, eight at most. -/
def lst (xs : List Int) : List Int := xs.drop (xs.length - 8)
theorem lst_len (xs : List Int) : (lst xs).length = min xs.length 8 := by unfold lst; rw [List.length_drop]; omega
theorem lst_snoc (xs : List Int) (x : Int) : lst (xs ++ [x]) = stq (lst xs) x := by
  unfold stq
  by_cases h : xs.length < 8
  · have h1 : lst xs = xs := by unfold lst; rw [show xs.length - 8 = 0 by omega, List.drop_zero]
    rw [h1, if_neg (by omega)]
    unfold lst
    rw [List.length_append, List.length_singleton, show xs.length + 1 - 8 = 0 by omega, List.drop_zero]
  · have h1 := lst_len xs
    rw [if_pos (by omega)]
    unfold lst
    rw [List.length_append, List.length_singleton, List.tail_drop, show xs.length - 8 + 1 = xs.length + 1 - 8 by omega, List.drop_append_of_le_length (by omega)]
theorem Kpt.snoc {xs : List Int} {x : Int} (h : Kpt xs) (hx : 0 ≤ x ∧ x ≤ 8) (hb : ¬ bad (stq (lst xs) x)) : Kpt (xs ++ [x]) := by
  refine ⟨fun y hy => ?_, fun k hk => ?_⟩
  · rcases List.mem_append.1 hy with hy | hy
    · exact h.step y hy
    · simp only [List.mem_cons, List.not_mem_nil, or_false] at hy; subst hy; exact hx
  · rw [List.length_append, List.length_singleton] at hk
    by_cases hl : k + 8 ≤ xs.length
    · rw [List.drop_append_of_le_length (by omega), List.take_append_of_le_length (by rw [List.length_drop]; omega)]
      exact h.win k hl
    · rw [← lst_snoc] at hb
      have hlen : (lst (xs ++ [x])).length = 8 := by rw [lst_len, List.length_append, List.length_singleton]; omega
      have e : ((xs ++ [x]).drop k).take 8 = lst (xs ++ [x]) := by
        unfold lst
        rw [List.length_append, List.length_singleton, show xs.length + 1 - 8 = k by omega]
        exact List.take_of_length_le (by rw [List.length_drop, List.length_append, List.length_singleton]; omega)
      rw [e]
      unfold bad at hb
      omega
/-- What went by between two places. -/
def btw (xs : List Int) (i n : Nat) : Int := sumI ((xs.drop i).take n)
theorem btw_add (xs : List Int) (i n m : Nat) : btw xs i (n + m) = btw xs i n + btw xs (i + n) m := by
  unfold btw
  rw [List.take_add, sumI_append, List.drop_drop]
theorem btw_lo {xs : List Int} (h : Kpt xs) : ∀ (q i n : Nat), 8 * q ≤ n → i + n ≤ xs.length → 7 * (q : Int) ≤ btw xs i n
  | 0, i, n, _, _ => by
    have := sumI_bound ((xs.drop i).take n) fun y hy => h.step y (List.mem_of_mem_drop (List.mem_of_mem_take hy))
    unfold btw; omega
  | q + 1, i, n, h1, h2 => by
    have ih := btw_lo h q (i + 8) (n - 8) (by omega) (by omega)
    have e := btw_add xs i 8 (n - 8)
    rw [show 8 + (n - 8) = n by omega] at e
    have := h.win i (by omega)
    unfold btw at *
    omega
theorem btw_part {xs : List Int} (h : Kpt xs) (hl : 8 ≤ xs.length) {i n : Nat} (hn : n ≤ 8) (hi : i + n ≤ xs.length) : btw xs i n ≤ 9 := by
  have pos : ∀ i n, 0 ≤ btw xs i n := fun i n => (sumI_bound _ fun y hy => h.step y (List.mem_of_mem_drop (List.mem_of_mem_take hy))).1
  by_cases hk : i + 8 ≤ xs.length
  · have e := btw_add xs i n (8 - n)
    rw [show n + (8 - n) = 8 by omega] at e
    have h1 := (h.win i hk).2
    have h2 := pos (i + n) (8 - n)
    unfold btw at *
    omega
  · have hw := (h.win (xs.length - 8) (by omega)).2
    have e1 := btw_add xs (xs.length - 8) (i - (xs.length - 8)) (8 - (i - (xs.length - 8)))
    rw [show (i - (xs.length - 8)) + (8 - (i - (xs.length - 8))) = 8 by omega, show xs.length - 8 + (i - (xs.length - 8)) = i by omega] at e1
    have e2 := btw_add xs i n (8 - (i - (xs.length - 8)) - n)
    rw [show n + (8 - (i - (xs.length - 8)) - n) = 8 - (i - (xs.length - 8)) by omega] at e2
    have h1 := pos (xs.length - 8) (i - (xs.length - 8))
    have h2 := pos (i + n) (8 - (i - (xs.length - 8)) - n)
    unfold btw at *
    omega
theorem btw_hi {xs : List Int} (h : Kpt xs) (hl : 8 ≤ xs.length) : ∀ (q i n : Nat), n ≤ 8 * q + 8 → i + n ≤ xs.length → btw xs i n ≤ 9 * (q : Int) + 9
  | 0, i, n, h1, h2 => by have := btw_part h hl (i := i) (n := n) (by omega) h2; omega
  | q + 1, i, n, h1, h2 => by
    by_cases hn : n ≤ 8
    · have := btw_part h hl (i := i) (n := n) hn h2; omega
    · have ih := btw_hi h hl q (i + 8) (n - 8) (by omega) (by omega)
      have e := btw_add xs i 8 (n - 8)
      rw [show 8 + (n - 8) = n by omega] at e
      have := btw_part h hl (i := i) (n := 8) (by omega) (by omega)
      omega
/-- A lease that was asked for ahead of a table's renewing is over ahead of the table's. -/
theorem lease_over {xa xb : List Int} (ha : Kpt xa) (hb : Kpt xb) (hl : xa.length = xb.length) {p q : Nat} (hpq : p ≤ q) (hq : q ≤ xa.length) {term : Int} (ht : 32 ≤ term)
    (h1 : btw xa p (xa.length - p) < term) (h2 : 2 * term ≤ btw xb q (xb.length - q)) : False := by
  by_cases h8 : 8 ≤ xb.length
  · have hi := btw_hi hb h8 ((xb.length - q) / 8) q (xb.length - q) (by omega) (by omega)
    have lo := btw_lo ha ((xb.length - q) / 8) p (xa.length - p) (by omega) (by omega)
    omega
  · have := (sumI_bound ((xb.drop q).take (xb.length - q)) fun y hy => hb.step y (List.mem_of_mem_drop (List.mem_of_mem_take hy))).2
    have hlen : ((xb.drop q).take (xb.length - q)).length ≤ 7 := by rw [List.length_take, List.length_drop]; omega
    unfold btw at h2
    omega
theorem sumI_split (xs : List Int) (p : Nat) (hp : p ≤ xs.length) : sumI xs = sumI (xs.take p) + btw xs p (xs.length - p) := by
  unfold btw
  rw [show (xs.drop p).take (xs.length - p) = xs.drop p from List.take_of_length_le (by rw [List.length_drop]; exact Nat.le_refl _), ← sumI_append, List.take_append_drop]
end Go.Sh
