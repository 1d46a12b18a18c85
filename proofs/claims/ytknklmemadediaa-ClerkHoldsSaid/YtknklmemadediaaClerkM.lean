/- A node's side of the locks: small facts, and a new clerk of an epoch. Conditions: as each says. -/
import Derived.Test.YtknklmemadediaaClerkL
set_option linter.unusedSimpArgs false
set_option linter.unusedVariables false
namespace Go.Proofs.Ytknklmemadediaa
open Go.Sh Go.Proofs.Ytknklmemadediaa.Mi
set_option maxRecDepth 100000
section
variable {w w' : World} {Q : Value → World → Prop} {B c : Nat} {s : CS}
theorem val1 {a b v x : Int} : valB [(((a, b), v) : Pt Int)] x = if hasB (a, b) x then some v else none := by
  by_cases h : hasB (a, b) x <;> simp [valB, h]
theorem CL.canonH (h : CL w B c s) : Canon s.lh := by obtain ⟨_, _, _, _, h⟩ := h; exact h.h.canon
theorem CL.canonU (h : CL w B c s) : Canon s.lu := by obtain ⟨_, _, _, _, h⟩ := h; exact h.u.canon
theorem CL.canonO (h : CL w B c s) : Canon s.lo := by obtain ⟨_, _, _, _, h⟩ := h; exact h.o.canon
theorem CL.bdH (h : CL w B c s) : Bd 4096 s.lh := by obtain ⟨_, _, _, _, h⟩ := h; exact h.dh
theorem CL.ty (h : CL w B c s) : ∃ cs, blk w c = some (.cells cs 65) := by obtain ⟨_, _, _, _, h⟩ := h; exact ⟨_, h.b⟩
theorem lock_ne {g : Nat} {x y z : Value} (h : CL w B c s) (hb : blk w g = some (.cells #[x, y, z] 25)) : ¬ g = c := by
  obtain ⟨cs, hc⟩ := h.ty
  exact ne_of_ty hb hc (by decide)
/-- A new clerk of an epoch. -/
theorem start_c {e : Int} {k : Value → World → Prop} (hB : B ≤ siz w) (he : 0 < e)
    (hk : ∀ w' s, CL w' B (siz w) s → KO B cp w w' → s.epoch = e → s.gen = 1 → s.lh = [] → s.lu = [] → s.lo = [] → s.lw = [] → s.id = 0 → s.out = false → s.quit = false → s.grants = 0 → s.denied = 0 → k (.bool true) w') {w1 : World} (h1 : CL w1 B (siz w) (CS.fresh 1)) (k1 : K0 w w1) :
    callS Try.prog 12 #[.pointer (some ⟨siz w, 0, none⟩), .int .u64 e, .int .i64 1] k w1 :=
  cjoin_c h1 (Nat.le_trans hB k1.size) he (by decide) fun w2 h2 k2 => hk w2 _ h2 ((KO.of0 k1).trans k2) rfl rfl rfl rfl rfl rfl rfl rfl rfl rfl rfl
end
end Go.Proofs.Ytknklmemadediaa
