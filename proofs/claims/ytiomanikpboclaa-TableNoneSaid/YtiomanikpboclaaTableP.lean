/- The table of locks: what is free is granted. Conditions: as each says. -/
import Derived.Test.YtiomanikpboclaaTableO
set_option linter.unusedSimpArgs false
set_option linter.unusedVariables false
namespace Go.Proofs.Ytiomanikpboclaa
open Go.Sh Go.Proofs.Ytiomanikpboclaa.Mi
set_option maxRecDepth 100000
section
variable {w w' : World} {Q : Value → World → Prop} {B t : Nat} {s : TS}
/-- One request is granted, or waits on. (The state, who waits on, what they claim, who is granted.) -/
abbrev GS := TS × List I5 × List I5 × List I5
def claimOf (k : I5) (at' : Int) : I5 := (k.1, k.2.1, k.2.2.1, at' + 1, k.2.2.2.2)
def gr1 (g : GS) (k : I5) : GS :=
  if hindF g.1 g.2.2.1 k.2.1 k.2.2.1 k.2.2.2.1 k.2.2.2.2 < k.2.2.2.1 then
    (g.1, g.2.1 ++ [k], g.2.2.1 ++ [claimOf k (hindF g.1 g.2.2.1 k.2.1 k.2.2.1 k.2.2.2.1 k.2.2.2.2)], g.2.2.2)
  else (g.1.raise k.2.1.toNat k.2.2.1 k.2.2.2.1 k.2.2.2.2, g.2.1, g.2.2.1, g.2.2.2 ++ [k])
def grantG (s : TS) (W : List I5) : GS := W.foldl gr1 (s, [], [], [])
/-- The state behind a grant. -/
def TS.granted (s : TS) : TS := { (grantG s s.ws).1 with ws := (grantG s s.ws).2.1 }
def grantOut (s : TS) : List I5 := (grantG s s.ws).2.2.2
theorem grantG_snoc (s : TS) (W : List I5) (k : I5) : grantG s (W ++ [k]) = gr1 (grantG s W) k := by unfold grantG; rw [List.foldl_append]; rfl
theorem grantG_len (s : TS) : ∀ (n : Nat) (W : List I5), W.length = n → (grantG s W).2.1.length ≤ n ∧ (grantG s W).2.2.1.length ≤ n ∧ (grantG s W).2.2.2.length ≤ n
  | 0, W, h => by rw [List.length_eq_zero_iff.1 h]; exact ⟨Nat.le_refl _, Nat.le_refl _, Nat.le_refl _⟩
  | n + 1, W, h => by
    rcases List.eq_nil_or_concat W with rfl | ⟨V, k, rfl⟩
    · simp at h
    · rw [List.concat_eq_append] at h ⊢
      obtain ⟨h1, h2, h3⟩ := grantG_len s n V (by simpa using h)
      rw [grantG_snoc]
      unfold gr1
      split <;> simp <;> omega
theorem raise_ws (s : TS) (i : Nat) (a b md : Int) : (s.raise i a b md).ws = s.ws ∧ (s.raise i a b md).nodes = s.nodes ∧ (s.raise i a b md).last = s.last := ⟨rfl, rfl, rfl⟩
theorem grantG_ws (s : TS) : ∀ (n : Nat) (W : List I5), W.length = n → (grantG s W).1.ws = s.ws ∧ (grantG s W).1.nodes = s.nodes ∧ (grantG s W).1.last = s.last
  | 0, W, h => by rw [List.length_eq_zero_iff.1 h]; exact ⟨rfl, rfl, rfl⟩
  | n + 1, W, h => by
    rcases List.eq_nil_or_concat W with rfl | ⟨V, k, rfl⟩
    · simp at h
    · rw [List.concat_eq_append] at h ⊢
      obtain ⟨h1, h2, h3⟩ := grantG_ws s n V (by simpa using h)
      rw [grantG_snoc]
      unfold gr1
      split
      · exact ⟨h1, h2, h3⟩
      · exact ⟨h1, h2, h3⟩
/-- Another row of requests turns: the table stands. -/
theorem TLr.keepRow {ms : List Nat} {wv v : Value} {A n : Nat} {xs : List Value} (h : TLr w B t s ms wv) (ho : Own w A 36 5 v n xs) (k : Keep (fun b => v.ownBlock = some b) w w') (hne : ∀ g, wv.ownBlock = some g → v.ownBlock ≠ some g) : TLr w' B t s ms wv :=
  { h with
    b := k.blk h.b fun e => by
      obtain ⟨_, cs, hc⟩ := own_ty ho e
      exact ne_of_ty h.b hc (by decide) rfl
    h := fun i m l h1 h2 => by
      obtain ⟨q1, q2⟩ := h.h i m l h1 h2
      refine ⟨im_keepF q1 k fun b e => ?_, q2⟩
      obtain ⟨_, cs, hc⟩ := own_ty ho e
      exact ⟨_, _, hc, by decide, by decide⟩
    wr := h.wr.keep k fun g hg e => hne g hg e }
/-- Rows that share no block. -/
def Dj (u v : Value) : Prop := ∀ g, u.ownBlock = some g → v.ownBlock ≠ some g
theorem Dj.symm {u v : Value} (h : Dj u v) : Dj v u := fun g h1 h2 => h g h2 h1
theorem Dj.nil (v : Value) : Dj (.slice none 0 0) v := fun g h => by cases h
theorem Dj.grow {u v v' : Value} {n : Nat} (h : Dj u v) (hu : ∀ g, u.ownBlock = some g → g < n) (hr : ∀ g, v'.ownBlock = some g → v.ownBlock = some g ∨ n ≤ g) : Dj u v' := fun g h1 h2 => by
  rcases hr g h2 with e | e
  · exact h g h1 e
  · have := hu g h1; omega
end
end Go.Proofs.Ytiomanikpboclaa
