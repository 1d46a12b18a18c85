/- Locks: what of them is not held; the first call whose answer the document fixes. Conditions: as each says. -/
import Derived.Test.YtndjohbbaplekaaGreatXModeB
import Derived.Test.YtndjohbbaplekaaGreatXBlkX
set_option linter.unusedSimpArgs false
set_option linter.unusedVariables false
namespace Go.Proofs.YtndjohbbaplekaaGreatX
open Go.Sh Go.Proofs.YtndjohbbaplekaaGreatX.Mi
set_option maxRecDepth 100000
section
variable {w : World} {Q : Value → World → Prop} {m : Nat} {l : List (Pt Int)}
theorem im_keepB {w' : World} (h : IM w m l) (k : Keep (fun b => siz w ≤ b) w w') : IM w' m l := by
  obtain ⟨sl, h1, h2, h3⟩ := h
  exact ⟨sl, by rw [k.block m (blk_lt h1) (Nat.not_le.2 (blk_lt h1))]; exact h1, h2.keep k fun g hg e => by have := (h2.lt hg).2; omega, h3⟩
/-- What is held: nothing, or a map. -/
def Held (w : World) (hv : Value) (lh : List (Pt Int)) : Prop := (hv = .pointer none ∧ lh = []) ∨ ∃ m, hv = .pointer (some ⟨m, 0, none⟩) ∧ IM w m lh
theorem Held.keepB {w' : World} {hv : Value} {lh : List (Pt Int)} (h : Held w hv lh) (k : Keep (fun b => siz w ≤ b) w w') : Held w' hv lh := by
  rcases h with h | ⟨m, e, h⟩
  · exact .inl h
  · exact .inr ⟨m, e, im_keepB h k⟩
theorem Held.canon {hv : Value} {lh : List (Pt Int)} (h : Held w hv lh) : Canon lh := by
  rcases h with ⟨_, rfl⟩ | ⟨m, _, h⟩
  · exact Canon.nil
  · exact h.canon
theorem hparts_c {hv : Value} {lh : List (Pt Int)} {a b : Int} (h : Held w hv lh) (hl : lh.length ≤ 1000000)
    (hq : ∀ w' v', Own w' (siz w) 201 3 v' (partsL (a, b) lh).length (flat enc (partsL (a, b) lh)) → Keep (fun _ => False) w w' → Q v' w') :
    callS Tryz.prog 54 #[hv, .agg #[.int .i64 a, .int .i64 b]] Q w := by
  rcases h with ⟨rfl, rfl⟩ | ⟨m, rfl, h⟩
  · exact nparts_c fun w' k => hq w' _ (Own.nil _ _ _ _) k
  · exact parts_c h hl hq
def cov (hv md : Int) : Prop := isMd hv ∧ isMd md ∧ md ≤ hv
instance (a b : Int) : Decidable (cov a b) := by unfold cov; infer_instance
def needF (A H : Option Int) : Option Int :=
  match A, H with
  | some md, some hv => if cov hv md then none else some md
  | a, _ => a
theorem needF_none (A : Option Int) : needF A none = A := by cases A <;> rfl
theorem needF_some (md hv : Int) : needF (some md) (some hv) = if cov hv md then none else some md := rfl
end
end Go.Proofs.YtndjohbbaplekaaGreatX
