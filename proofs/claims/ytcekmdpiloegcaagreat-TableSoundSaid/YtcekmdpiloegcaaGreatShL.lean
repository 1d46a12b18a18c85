/- Loops and joins of up to twelve values: how they are closed. Conditions: none. -/
import Derived.Test.YtcekmdpiloegcaaGreatShQ
set_option linter.unusedSimpArgs false
set_option linter.unusedVariables false
namespace Go.Sh
open Classical in
/-- A loop by what holds at its head, with a number that goes down. -/
theorem lp_ghost {n : Nat} {body : Cur n → Cur n} {s₀ : List Value} {w₀ : World} (I : Nat → List Value → World → Prop) (m₀ : Nat) (h0 : I m₀ s₀ w₀)
    (h : ∀ m s w, s.length = n → I m s w → ∀ J : List Value → World → Prop, (∀ m' s' w', m' < m → I m' s' w' → J s' w') → app n (body (cur n J)) s w) : lp n body s₀ w₀ := by
  have least : ∀ (s : List Value) (w : World), (∃ m, I m s w) → ∃ m, I m s w ∧ ∀ m', m' < m → ¬ I m' s w := by
    intro s w ⟨m, hm⟩
    induction m using Nat.strongRecOn with
    | _ m ih =>
      by_cases hx : ∃ m', m' < m ∧ I m' s w
      · obtain ⟨m', hlt, hm'⟩ := hx; exact ih m' hlt hm'
      · exact ⟨m, hm, fun m' hlt hm' => hx ⟨m', hlt, hm'⟩⟩
  let μ : List Value → World → Nat := fun s w => if hx : ∃ m, I m s w then Classical.choose (least s w hx) else 0
  have hμ : ∀ s w (hx : ∃ m, I m s w), I (μ s w) s w ∧ ∀ m', m' < μ s w → ¬ I m' s w := fun s w hx => by
    have := Classical.choose_spec (least s w hx)
    simp only [μ, dif_pos hx]; exact this
  refine ⟨fun s w => ∃ m, I m s w, μ, ⟨m₀, h0⟩, fun s w hl hx => ?_⟩
  refine h (μ s w) s w hl (hμ s w hx).1 _ fun m' s' w' hlt hI => ⟨⟨m', hI⟩, ?_⟩
  rcases Nat.lt_or_ge (μ s' w') (μ s w) with h1 | h1
  · exact h1
  · exact absurd hI ((hμ s' w' ⟨m', hI⟩).2 m' (by omega))
theorem len0 {s : List Value} (h : s.length = 0) : s = [] := List.length_eq_zero_iff.1 h
theorem lp0 {body : Cur 0 → Cur 0} {w : World} (I : Nat → World → Prop) (m₀ : Nat) (h0 : I m₀ w)
    (h : ∀ (m : Nat) (w : World), I m w → ∀ J : Cur 0, (∀ (m' : Nat) (w' : World), m' < m → I m' w' → J w') → body J w) : lp 0 body [] w := by
  refine lp_ghost (fun m s w => match s with | [] => I m w | _ => False) m₀ h0 fun m s w hl hI J hJ => ?_
  obtain rfl := len0 hl
  exact h m w hI (cur 0 J) fun m' w' hlt hI' => hJ m' [] w' hlt hI'
theorem jn0 {A : Cur 0 → Prop} {B : Cur 0} (I : World → Prop) (hA : ∀ J : Cur 0, (∀ (w : World), I w → J w) → A J) (hB : ∀ (w : World), I w → B w) : jn 0 A B := hA B hB
theorem len1 {s : List Value} (h : s.length = 1) : ∃ x0, s = [x0] := by
  cases s with
  | nil => cases h
  | cons a s => obtain rfl := len0 (by simpa using h); exact ⟨a, rfl⟩
theorem lp1 {body : Cur 1 → Cur 1} {x0 : Value} {w : World} (I : Nat → Value → World → Prop) (m₀ : Nat) (h0 : I m₀ x0 w)
    (h : ∀ (m : Nat) (x0 : Value) (w : World), I m x0 w → ∀ J : Cur 1, (∀ (m' : Nat) (y0 : Value) (w' : World), m' < m → I m' y0 w' → J y0 w') → body J x0 w) : lp 1 body [x0] w := by
  refine lp_ghost (fun m s w => match s with | [x0] => I m x0 w | _ => False) m₀ h0 fun m s w hl hI J hJ => ?_
  obtain ⟨x0, rfl⟩ := len1 hl
  exact h m x0 w hI (cur 1 J) fun m' y0 w' hlt hI' => hJ m' [y0] w' hlt hI'
theorem jn1 {A : Cur 1 → Prop} {B : Cur 1} (I : Value → World → Prop) (hA : ∀ J : Cur 1, (∀ (x0 : Value) (w : World), I x0 w → J x0 w) → A J) (hB : ∀ (x0 : Value) (w : World), I x0 w → B x0 w) : jn 1 A B := hA B hB
theorem len2 {s : List Value} (h : s.length = 2) : ∃ x0 x1, s = [x0, x1] := by
  cases s with
  | nil => cases h
  | cons a s => obtain ⟨x1, rfl⟩ := len1 (by simpa using h); exact ⟨a, x1, rfl⟩
theorem lp2 {body : Cur 2 → Cur 2} {x0 x1 : Value} {w : World} (I : Nat → Value → Value → World → Prop) (m₀ : Nat) (h0 : I m₀ x0 x1 w)
    (h : ∀ (m : Nat) (x0 x1 : Value) (w : World), I m x0 x1 w → ∀ J : Cur 2, (∀ (m' : Nat) (y0 y1 : Value) (w' : World), m' < m → I m' y0 y1 w' → J y0 y1 w') → body J x0 x1 w) : lp 2 body [x0, x1] w := by
  refine lp_ghost (fun m s w => match s with | [x0, x1] => I m x0 x1 w | _ => False) m₀ h0 fun m s w hl hI J hJ => ?_
  obtain ⟨x0, x1, rfl⟩ := len2 hl
  exact h m x0 x1 w hI (cur 2 J) fun m' y0 y1 w' hlt hI' => hJ m' [y0, y1] w' hlt hI'
theorem jn2 {A : Cur 2 → Prop} {B : Cur 2} (I : Value → Value → World → Prop) (hA : ∀ J : Cur 2, (∀ (x0 x1 : Value) (w : World), I x0 x1 w → J x0 x1 w) → A J) (hB : ∀ (x0 x1 : Value) (w : World), I x0 x1 w → B x0 x1 w) : jn 2 A B := hA B hB
theorem len3 {s : List Value} (h : s.length = 3) : ∃ x0 x1 x2, s = [x0, x1, x2] := by
  cases s with
  | nil => cases h
  | cons a s => obtain ⟨x1, x2, rfl⟩ := len2 (by simpa using h); exact ⟨a, x1, x2, rfl⟩
theorem lp3 {body : Cur 3 → Cur 3} {x0 x1 x2 : Value} {w : World} (I : Nat → Value → Value → Value → World → Prop) (m₀ : Nat) (h0 : I m₀ x0 x1 x2 w)
    (h : ∀ (m : Nat) (x0 x1 x2 : Value) (w : World), I m x0 x1 x2 w → ∀ J : Cur 3, (∀ (m' : Nat) (y0 y1 y2 : Value) (w' : World), m' < m → I m' y0 y1 y2 w' → J y0 y1 y2 w') → body J x0 x1 x2 w) : lp 3 body [x0, x1, x2] w := by
  refine lp_ghost (fun m s w => match s with | [x0, x1, x2] => I m x0 x1 x2 w | _ => False) m₀ h0 fun m s w hl hI J hJ => ?_
  obtain ⟨x0, x1, x2, rfl⟩ := len3 hl
  exact h m x0 x1 x2 w hI (cur 3 J) fun m' y0 y1 y2 w' hlt hI' => hJ m' [y0, y1, y2] w' hlt hI'
theorem jn3 {A : Cur 3 → Prop} {B : Cur 3} (I : Value → Value → Value → World → Prop) (hA : ∀ J : Cur 3, (∀ (x0 x1 x2 : Value) (w : World), I x0 x1 x2 w → J x0 x1 x2 w) → A J) (hB : ∀ (x0 x1 x2 : Value) (w : World), I x0 x1 x2 w → B x0 x1 x2 w) : jn 3 A B := hA B hB
theorem len4 {s : List Value} (h : s.length = 4) : ∃ x0 x1 x2 x3, s = [x0, x1, x2, x3] := by
  cases s with
  | nil => cases h
  | cons a s => obtain ⟨x1, x2, x3, rfl⟩ := len3 (by simpa using h); exact ⟨a, x1, x2, x3, rfl⟩
theorem lp4 {body : Cur 4 → Cur 4} {x0 x1 x2 x3 : Value} {w : World} (I : Nat → Value → Value → Value → Value → World → Prop) (m₀ : Nat) (h0 : I m₀ x0 x1 x2 x3 w)
    (h : ∀ (m : Nat) (x0 x1 x2 x3 : Value) (w : World), I m x0 x1 x2 x3 w → ∀ J : Cur 4, (∀ (m' : Nat) (y0 y1 y2 y3 : Value) (w' : World), m' < m → I m' y0 y1 y2 y3 w' → J y0 y1 y2 y3 w') → body J x0 x1 x2 x3 w) : lp 4 body [x0, x1, x2, x3] w := by
  refine lp_ghost (fun m s w => match s with | [x0, x1, x2, x3] => I m x0 x1 x2 x3 w | _ => False) m₀ h0 fun m s w hl hI J hJ => ?_
  obtain ⟨x0, x1, x2, x3, rfl⟩ := len4 hl
  exact h m x0 x1 x2 x3 w hI (cur 4 J) fun m' y0 y1 y2 y3 w' hlt hI' => hJ m' [y0, y1, y2, y3] w' hlt hI'
theorem jn4 {A : Cur 4 → Prop} {B : Cur 4} (I : Value → Value → Value → Value → World → Prop) (hA : ∀ J : Cur 4, (∀ (x0 x1 x2 x3 : Value) (w : World), I x0 x1 x2 x3 w → J x0 x1 x2 x3 w) → A J) (hB : ∀ (x0 x1 x2 x3 : Value) (w : World), I x0 x1 x2 x3 w → B x0 x1 x2 x3 w) : jn 4 A B := hA B hB
theorem len5 {s : List Value} (h : s.length = 5) : ∃ x0 x1 x2 x3 x4, s = [x0, x1, x2, x3, x4] := by
  cases s with
  | nil => cases h
  | cons a s => obtain ⟨x1, x2, x3, x4, rfl⟩ := len4 (by simpa using h); exact ⟨a, x1, x2, x3, x4, rfl⟩
theorem lp5 {body : Cur 5 → Cur 5} {x0 x1 x2 x3 x4 : Value} {w : World} (I : Nat → Value → Value → Value → Value → Value → World → Prop) (m₀ : Nat) (h0 : I m₀ x0 x1 x2 x3 x4 w)
    (h : ∀ (m : Nat) (x0 x1 x2 x3 x4 : Value) (w : World), I m x0 x1 x2 x3 x4 w → ∀ J : Cur 5, (∀ (m' : Nat) (y0 y1 y2 y3 y4 : Value) (w' : World), m' < m → I m' y0 y1 y2 y3 y4 w' → J y0 y1 y2 y3 y4 w') → body J x0 x1 x2 x3 x4 w) : lp 5 body [x0, x1, x2, x3, x4] w := by
  refine lp_ghost (fun m s w => match s with | [x0, x1, x2, x3, x4] => I m x0 x1 x2 x3 x4 w | _ => False) m₀ h0 fun m s w hl hI J hJ => ?_
  obtain ⟨x0, x1, x2, x3, x4, rfl⟩ := len5 hl
  exact h m x0 x1 x2 x3 x4 w hI (cur 5 J) fun m' y0 y1 y2 y3 y4 w' hlt hI' => hJ m' [y0, y1, y2, y3, y4] w' hlt hI'
theorem jn5 {A : Cur 5 → Prop} {B : Cur 5} (I : Value → Value → Value → Value → Value → World → Prop) (hA : ∀ J : Cur 5, (∀ (x0 x1 x2 x3 x4 : Value) (w : World), I x0 x1 x2 x3 x4 w → J x0 x1 x2 x3 x4 w) → A J) (hB : ∀ (x0 x1 x2 x3 x4 : Value) (w : World), I x0 x1 x2 x3 x4 w → B x0 x1 x2 x3 x4 w) : jn 5 A B := hA B hB
theorem len6 {s : List Value} (h : s.length = 6) : ∃ x0 x1 x2 x3 x4 x5, s = [x0, x1, x2, x3, x4, x5] := by
  cases s with
  | nil => cases h
  | cons a s => obtain ⟨x1, x2, x3, x4, x5, rfl⟩ := len5 (by simpa using h); exact ⟨a, x1, x2, x3, x4, x5, rfl⟩
theorem lp6 {body : Cur 6 → Cur 6} {x0 x1 x2 x3 x4 x5 : Value} {w : World} (I : Nat → Value → Value → Value → Value → Value → Value → World → Prop) (m₀ : Nat) (h0 : I m₀ x0 x1 x2 x3 x4 x5 w)
    (h : ∀ (m : Nat) (x0 x1 x2 x3 x4 x5 : Value) (w : World), I m x0 x1 x2 x3 x4 x5 w → ∀ J : Cur 6, (∀ (m' : Nat) (y0 y1 y2 y3 y4 y5 : Value) (w' : World), m' < m → I m' y0 y1 y2 y3 y4 y5 w' → J y0 y1 y2 y3 y4 y5 w') → body J x0 x1 x2 x3 x4 x5 w) : lp 6 body [x0, x1, x2, x3, x4, x5] w := by
  refine lp_ghost (fun m s w => match s with | [x0, x1, x2, x3, x4, x5] => I m x0 x1 x2 x3 x4 x5 w | _ => False) m₀ h0 fun m s w hl hI J hJ => ?_
  obtain ⟨x0, x1, x2, x3, x4, x5, rfl⟩ := len6 hl
  exact h m x0 x1 x2 x3 x4 x5 w hI (cur 6 J) fun m' y0 y1 y2 y3 y4 y5 w' hlt hI' => hJ m' [y0, y1, y2, y3, y4, y5] w' hlt hI'
theorem jn6 {A : Cur 6 → Prop} {B : Cur 6} (I : Value → Value → Value → Value → Value → Value → World → Prop) (hA : ∀ J : Cur 6, (∀ (x0 x1 x2 x3 x4 x5 : Value) (w : World), I x0 x1 x2 x3 x4 x5 w → J x0 x1 x2 x3 x4 x5 w) → A J) (hB : ∀ (x0 x1 x2 x3 x4 x5 : Value) (w : World), I x0 x1 x2 x3 x4 x5 w → B x0 x1 x2 x3 x4 x5 w) : jn 6 A B := hA B hB
theorem len7 {s : List Value} (h : s.length = 7) : ∃ x0 x1 x2 x3 x4 x5 x6, s = [x0, x1, x2, x3, x4, x5, x6] := by
  cases s with
  | nil => cases h
  | cons a s => obtain ⟨x1, x2, x3, x4, x5, x6, rfl⟩ := len6 (by simpa using h); exact ⟨a, x1, x2, x3, x4, x5, x6, rfl⟩
theorem lp7 {body : Cur 7 → Cur 7} {x0 x1 x2 x3 x4 x5 x6 : Value} {w : World} (I : Nat → Value → Value → Value → Value → Value → Value → Value → World → Prop) (m₀ : Nat) (h0 : I m₀ x0 x1 x2 x3 x4 x5 x6 w)
    (h : ∀ (m : Nat) (x0 x1 x2 x3 x4 x5 x6 : Value) (w : World), I m x0 x1 x2 x3 x4 x5 x6 w → ∀ J : Cur 7, (∀ (m' : Nat) (y0 y1 y2 y3 y4 y5 y6 : Value) (w' : World), m' < m → I m' y0 y1 y2 y3 y4 y5 y6 w' → J y0 y1 y2 y3 y4 y5 y6 w') → body J x0 x1 x2 x3 x4 x5 x6 w) : lp 7 body [x0, x1, x2, x3, x4, x5, x6] w := by
  refine lp_ghost (fun m s w => match s with | [x0, x1, x2, x3, x4, x5, x6] => I m x0 x1 x2 x3 x4 x5 x6 w | _ => False) m₀ h0 fun m s w hl hI J hJ => ?_
  obtain ⟨x0, x1, x2, x3, x4, x5, x6, rfl⟩ := len7 hl
  exact h m x0 x1 x2 x3 x4 x5 x6 w hI (cur 7 J) fun m' y0 y1 y2 y3 y4 y5 y6 w' hlt hI' => hJ m' [y0, y1, y2, y3, y4, y5, y6] w' hlt hI'
theorem jn7 {A : Cur 7 → Prop} {B : Cur 7} (I : Value → Value → Value → Value → Value → Value → Value → World → Prop) (hA : ∀ J : Cur 7, (∀ (x0 x1 x2 x3 x4 x5 x6 : Value) (w : World), I x0 x1 x2 x3 x4 x5 x6 w → J x0 x1 x2 x3 x4 x5 x6 w) → A J) (hB : ∀ (x0 x1 x2 x3 x4 x5 x6 : Value) (w : World), I x0 x1 x2 x3 x4 x5 x6 w → B x0 x1 x2 x3 x4 x5 x6 w) : jn 7 A B := hA B hB
theorem len8 {s : List Value} (h : s.length = 8) : ∃ x0 x1 x2 x3 x4 x5 x6 x7, s = [x0, x1, x2, x3, x4, x5, x6, x7] := by
  cases s with
  | nil => cases h
  | cons a s => obtain ⟨x1, x2, x3, x4, x5, x6, x7, rfl⟩ := len7 (by simpa using h); exact ⟨a, x1, x2, x3, x4, x5, x6, x7, rfl⟩
theorem lp8 {body : Cur 8 → Cur 8} {x0 x1 x2 x3 x4 x5 x6 x7 : Value} {w : World} (I : Nat → Value → Value → Value → Value → Value → Value → Value → Value → World → Prop) (m₀ : Nat) (h0 : I m₀ x0 x1 x2 x3 x4 x5 x6 x7 w)
    (h : ∀ (m : Nat) (x0 x1 x2 x3 x4 x5 x6 x7 : Value) (w : World), I m x0 x1 x2 x3 x4 x5 x6 x7 w → ∀ J : Cur 8, (∀ (m' : Nat) (y0 y1 y2 y3 y4 y5 y6 y7 : Value) (w' : World), m' < m → I m' y0 y1 y2 y3 y4 y5 y6 y7 w' → J y0 y1 y2 y3 y4 y5 y6 y7 w') → body J x0 x1 x2 x3 x4 x5 x6 x7 w) : lp 8 body [x0, x1, x2, x3, x4, x5, x6, x7] w := by
  refine lp_ghost (fun m s w => match s with | [x0, x1, x2, x3, x4, x5, x6, x7] => I m x0 x1 x2 x3 x4 x5 x6 x7 w | _ => False) m₀ h0 fun m s w hl hI J hJ => ?_
  obtain ⟨x0, x1, x2, x3, x4, x5, x6, x7, rfl⟩ := len8 hl
  exact h m x0 x1 x2 x3 x4 x5 x6 x7 w hI (cur 8 J) fun m' y0 y1 y2 y3 y4 y5 y6 y7 w' hlt hI' => hJ m' [y0, y1, y2, y3, y4, y5, y6, y7] w' hlt hI'
theorem jn8 {A : Cur 8 → Prop} {B : Cur 8} (I : Value → Value → Value → Value → Value → Value → Value → Value → World → Prop) (hA : ∀ J : Cur 8, (∀ (x0 x1 x2 x3 x4 x5 x6 x7 : Value) (w : World), I x0 x1 x2 x3 x4 x5 x6 x7 w → J x0 x1 x2 x3 x4 x5 x6 x7 w) → A J) (hB : ∀ (x0 x1 x2 x3 x4 x5 x6 x7 : Value) (w : World), I x0 x1 x2 x3 x4 x5 x6 x7 w → B x0 x1 x2 x3 x4 x5 x6 x7 w) : jn 8 A B := hA B hB
theorem len9 {s : List Value} (h : s.length = 9) : ∃ x0 x1 x2 x3 x4 x5 x6 x7 x8, s = [x0, x1, x2, x3, x4, x5, x6, x7, x8] := by
  cases s with
  | nil => cases h
  | cons a s => obtain ⟨x1, x2, x3, x4, x5, x6, x7, x8, rfl⟩ := len8 (by simpa using h); exact ⟨a, x1, x2, x3, x4, x5, x6, x7, x8, rfl⟩
theorem lp9 {body : Cur 9 → Cur 9} {x0 x1 x2 x3 x4 x5 x6 x7 x8 : Value} {w : World} (I : Nat → Value → Value → Value → Value → Value → Value → Value → Value → Value → World → Prop) (m₀ : Nat) (h0 : I m₀ x0 x1 x2 x3 x4 x5 x6 x7 x8 w)
    (h : ∀ (m : Nat) (x0 x1 x2 x3 x4 x5 x6 x7 x8 : Value) (w : World), I m x0 x1 x2 x3 x4 x5 x6 x7 x8 w → ∀ J : Cur 9, (∀ (m' : Nat) (y0 y1 y2 y3 y4 y5 y6 y7 y8 : Value) (w' : World), m' < m → I m' y0 y1 y2 y3 y4 y5 y6 y7 y8 w' → J y0 y1 y2 y3 y4 y5 y6 y7 y8 w') → body J x0 x1 x2 x3 x4 x5 x6 x7 x8 w) : lp 9 body [x0, x1, x2, x3, x4, x5, x6, x7, x8] w := by
  refine lp_ghost (fun m s w => match s with | [x0, x1, x2, x3, x4, x5, x6, x7, x8] => I m x0 x1 x2 x3 x4 x5 x6 x7 x8 w | _ => False) m₀ h0 fun m s w hl hI J hJ => ?_
  obtain ⟨x0, x1, x2, x3, x4, x5, x6, x7, x8, rfl⟩ := len9 hl
  exact h m x0 x1 x2 x3 x4 x5 x6 x7 x8 w hI (cur 9 J) fun m' y0 y1 y2 y3 y4 y5 y6 y7 y8 w' hlt hI' => hJ m' [y0, y1, y2, y3, y4, y5, y6, y7, y8] w' hlt hI'
theorem jn9 {A : Cur 9 → Prop} {B : Cur 9} (I : Value → Value → Value → Value → Value → Value → Value → Value → Value → World → Prop) (hA : ∀ J : Cur 9, (∀ (x0 x1 x2 x3 x4 x5 x6 x7 x8 : Value) (w : World), I x0 x1 x2 x3 x4 x5 x6 x7 x8 w → J x0 x1 x2 x3 x4 x5 x6 x7 x8 w) → A J) (hB : ∀ (x0 x1 x2 x3 x4 x5 x6 x7 x8 : Value) (w : World), I x0 x1 x2 x3 x4 x5 x6 x7 x8 w → B x0 x1 x2 x3 x4 x5 x6 x7 x8 w) : jn 9 A B := hA B hB
theorem len10 {s : List Value} (h : s.length = 10) : ∃ x0 x1 x2 x3 x4 x5 x6 x7 x8 x9, s = [x0, x1, x2, x3, x4, x5, x6, x7, x8, x9] := by
  cases s with
  | nil => cases h
  | cons a s => obtain ⟨x1, x2, x3, x4, x5, x6, x7, x8, x9, rfl⟩ := len9 (by simpa using h); exact ⟨a, x1, x2, x3, x4, x5, x6, x7, x8, x9, rfl⟩
theorem lp10 {body : Cur 10 → Cur 10} {x0 x1 x2 x3 x4 x5 x6 x7 x8 x9 : Value} {w : World} (I : Nat → Value → Value → Value → Value → Value → Value → Value → Value → Value → Value → World → Prop) (m₀ : Nat) (h0 : I m₀ x0 x1 x2 x3 x4 x5 x6 x7 x8 x9 w)
    (h : ∀ (m : Nat) (x0 x1 x2 x3 x4 x5 x6 x7 x8 x9 : Value) (w : World), I m x0 x1 x2 x3 x4 x5 x6 x7 x8 x9 w → ∀ J : Cur 10, (∀ (m' : Nat) (y0 y1 y2 y3 y4 y5 y6 y7 y8 y9 : Value) (w' : World), m' < m → I m' y0 y1 y2 y3 y4 y5 y6 y7 y8 y9 w' → J y0 y1 y2 y3 y4 y5 y6 y7 y8 y9 w') → body J x0 x1 x2 x3 x4 x5 x6 x7 x8 x9 w) : lp 10 body [x0, x1, x2, x3, x4, x5, x6, x7, x8, x9] w := by
  refine lp_ghost (fun m s w => match s with | [x0, x1, x2, x3, x4, x5, x6, x7, x8, x9] => I m x0 x1 x2 x3 x4 x5 x6 x7 x8 x9 w | _ => False) m₀ h0 fun m s w hl hI J hJ => ?_
  obtain ⟨x0, x1, x2, x3, x4, x5, x6, x7, x8, x9, rfl⟩ := len10 hl
  exact h m x0 x1 x2 x3 x4 x5 x6 x7 x8 x9 w hI (cur 10 J) fun m' y0 y1 y2 y3 y4 y5 y6 y7 y8 y9 w' hlt hI' => hJ m' [y0, y1, y2, y3, y4, y5, y6, y7, y8, y9] w' hlt hI'
theorem jn10 {A : Cur 10 → Prop} {B : Cur 10} (I : Value → Value → Value → Value → Value → Value → Value → Value → Value → Value → World → Prop) (hA : ∀ J : Cur 10, (∀ (x0 x1 x2 x3 x4 x5 x6 x7 x8 x9 : Value) (w : World), I x0 x1 x2 x3 x4 x5 x6 x7 x8 x9 w → J x0 x1 x2 x3 x4 x5 x6 x7 x8 x9 w) → A J) (hB : ∀ (x0 x1 x2 x3 x4 x5 x6 x7 x8 x9 : Value) (w : World), I x0 x1 x2 x3 x4 x5 x6 x7 x8 x9 w → B x0 x1 x2 x3 x4 x5 x6 x7 x8 x9 w) : jn 10 A B := hA B hB
theorem len11 {s : List Value} (h : s.length = 11) : ∃ x0 x1 x2 x3 x4 x5 x6 x7 x8 x9 x10, s = [x0, x1, x2, x3, x4, x5, x6, x7, x8, x9, x10] := by
  cases s with
  | nil => cases h
  | cons a s => obtain ⟨x1, x2, x3, x4, x5, x6, x7, x8, x9, x10, rfl⟩ := len10 (by simpa using h); exact ⟨a, x1, x2, x3, x4, x5, x6, x7, x8, x9, x10, rfl⟩
theorem lp11 {body : Cur 11 → Cur 11} {x0 x1 x2 x3 x4 x5 x6 x7 x8 x9 x10 : Value} {w : World} (I : Nat → Value → Value → Value → Value → Value → Value → Value → Value → Value → Value → Value → World → Prop) (m₀ : Nat) (h0 : I m₀ x0 x1 x2 x3 x4 x5 x6 x7 x8 x9 x10 w)
    (h : ∀ (m : Nat) (x0 x1 x2 x3 x4 x5 x6 x7 x8 x9 x10 : Value) (w : World), I m x0 x1 x2 x3 x4 x5 x6 x7 x8 x9 x10 w → ∀ J : Cur 11, (∀ (m' : Nat) (y0 y1 y2 y3 y4 y5 y6 y7 y8 y9 y10 : Value) (w' : World), m' < m → I m' y0 y1 y2 y3 y4 y5 y6 y7 y8 y9 y10 w' → J y0 y1 y2 y3 y4 y5 y6 y7 y8 y9 y10 w') → body J x0 x1 x2 x3 x4 x5 x6 x7 x8 x9 x10 w) : lp 11 body [x0, x1, x2, x3, x4, x5, x6, x7, x8, x9, x10] w := by
  refine lp_ghost (fun m s w => match s with | [x0, x1, x2, x3, x4, x5, x6, x7, x8, x9, x10] => I m x0 x1 x2 x3 x4 x5 x6 x7 x8 x9 x10 w | _ => False) m₀ h0 fun m s w hl hI J hJ => ?_
  obtain ⟨x0, x1, x2, x3, x4, x5, x6, x7, x8, x9, x10, rfl⟩ := len11 hl
  exact h m x0 x1 x2 x3 x4 x5 x6 x7 x8 x9 x10 w hI (cur 11 J) fun m' y0 y1 y2 y3 y4 y5 y6 y7 y8 y9 y10 w' hlt hI' => hJ m' [y0, y1, y2, y3, y4, y5, y6, y7, y8, y9, y10] w' hlt hI'
theorem jn11 {A : Cur 11 → Prop} {B : Cur 11} (I : Value → Value → Value → Value → Value → Value → Value → Value → Value → Value → Value → World → Prop) (hA : ∀ J : Cur 11, (∀ (x0 x1 x2 x3 x4 x5 x6 x7 x8 x9 x10 : Value) (w : World), I x0 x1 x2 x3 x4 x5 x6 x7 x8 x9 x10 w → J x0 x1 x2 x3 x4 x5 x6 x7 x8 x9 x10 w) → A J) (hB : ∀ (x0 x1 x2 x3 x4 x5 x6 x7 x8 x9 x10 : Value) (w : World), I x0 x1 x2 x3 x4 x5 x6 x7 x8 x9 x10 w → B x0 x1 x2 x3 x4 x5 x6 x7 x8 x9 x10 w) : jn 11 A B := hA B hB
theorem len12 {s : List Value} (h : s.length = 12) : ∃ x0 x1 x2 x3 x4 x5 x6 x7 x8 x9 x10 x11, s = [x0, x1, x2, x3, x4, x5, x6, x7, x8, x9, x10, x11] := by
  cases s with
  | nil => cases h
  | cons a s => obtain ⟨x1, x2, x3, x4, x5, x6, x7, x8, x9, x10, x11, rfl⟩ := len11 (by simpa using h); exact ⟨a, x1, x2, x3, x4, x5, x6, x7, x8, x9, x10, x11, rfl⟩
theorem lp12 {body : Cur 12 → Cur 12} {x0 x1 x2 x3 x4 x5 x6 x7 x8 x9 x10 x11 : Value} {w : World} (I : Nat → Value → Value → Value → Value → Value → Value → Value → Value → Value → Value → Value → Value → World → Prop) (m₀ : Nat) (h0 : I m₀ x0 x1 x2 x3 x4 x5 x6 x7 x8 x9 x10 x11 w)
    (h : ∀ (m : Nat) (x0 x1 x2 x3 x4 x5 x6 x7 x8 x9 x10 x11 : Value) (w : World), I m x0 x1 x2 x3 x4 x5 x6 x7 x8 x9 x10 x11 w → ∀ J : Cur 12, (∀ (m' : Nat) (y0 y1 y2 y3 y4 y5 y6 y7 y8 y9 y10 y11 : Value) (w' : World), m' < m → I m' y0 y1 y2 y3 y4 y5 y6 y7 y8 y9 y10 y11 w' → J y0 y1 y2 y3 y4 y5 y6 y7 y8 y9 y10 y11 w') → body J x0 x1 x2 x3 x4 x5 x6 x7 x8 x9 x10 x11 w) : lp 12 body [x0, x1, x2, x3, x4, x5, x6, x7, x8, x9, x10, x11] w := by
  refine lp_ghost (fun m s w => match s with | [x0, x1, x2, x3, x4, x5, x6, x7, x8, x9, x10, x11] => I m x0 x1 x2 x3 x4 x5 x6 x7 x8 x9 x10 x11 w | _ => False) m₀ h0 fun m s w hl hI J hJ => ?_
  obtain ⟨x0, x1, x2, x3, x4, x5, x6, x7, x8, x9, x10, x11, rfl⟩ := len12 hl
  exact h m x0 x1 x2 x3 x4 x5 x6 x7 x8 x9 x10 x11 w hI (cur 12 J) fun m' y0 y1 y2 y3 y4 y5 y6 y7 y8 y9 y10 y11 w' hlt hI' => hJ m' [y0, y1, y2, y3, y4, y5, y6, y7, y8, y9, y10, y11] w' hlt hI'
theorem jn12 {A : Cur 12 → Prop} {B : Cur 12} (I : Value → Value → Value → Value → Value → Value → Value → Value → Value → Value → Value → Value → World → Prop) (hA : ∀ J : Cur 12, (∀ (x0 x1 x2 x3 x4 x5 x6 x7 x8 x9 x10 x11 : Value) (w : World), I x0 x1 x2 x3 x4 x5 x6 x7 x8 x9 x10 x11 w → J x0 x1 x2 x3 x4 x5 x6 x7 x8 x9 x10 x11 w) → A J) (hB : ∀ (x0 x1 x2 x3 x4 x5 x6 x7 x8 x9 x10 x11 : Value) (w : World), I x0 x1 x2 x3 x4 x5 x6 x7 x8 x9 x10 x11 w → B x0 x1 x2 x3 x4 x5 x6 x7 x8 x9 x10 x11 w) : jn 12 A B := hA B hB
end Go.Sh
