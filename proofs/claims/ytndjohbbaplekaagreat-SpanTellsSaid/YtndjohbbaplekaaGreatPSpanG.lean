/- What SpanMeets computes: true. Conditions: the ranges' numbers are of 64 bits. -/
import Derived.Test.YtndjohbbaplekaaGreatPSpanC
import Derived.Test.YtndjohbbaplekaaGreatPShU
set_option linter.unusedSimpArgs false
set_option linter.unusedVariables false
namespace Go.Proofs.YtndjohbbaplekaaGreatP
open Go.Sh
set_option maxRecDepth 100000
section
variable {w : World} {Q : Value → World → Prop} {a b c d x : Int}

theorem run_of_rd {s : Sem Value} {v : Value} (h : ∀ k : Value → Prop, rd Tryz.prog s k w = k v) : s.run Tryz.prog w = .ok v w := by
  have : rd Tryz.prog s (fun x => x = v) w := by rw [h]
  obtain ⟨u, hu, e⟩ := this
  rw [hu, e]
/-- Two cells of a block. -/
def Cs (w : World) (g : Nat) (u v : Int) : Prop := cel w g 0 = some (.int .i64 u) ∧ cel w g 1 = some (.int .i64 v)
theorem Cs.keep {w w' : World} {g : Nat} {u v : Int} (h : Cs w g u v) (k : Keep (fun _ => False) w w') : Cs w' g u v := ⟨k.cel h.1 id, k.cel h.2 id⟩
theorem Cs.new {w : World} {u v : Int} : Cs (w.alloc (.cells #[.int .i64 u, .int .i64 v] 72)) (siz w) u v := ⟨cel_alloc_new, cel_alloc_new⟩
theorem Cs.ld {w : World} {g : Nat} {u v : Int} (h : Cs w g u v) {k : Value → Prop} : rd Tryz.prog (Instr.loadAt 72 (.pointer (some ⟨g, 0, none⟩))) k w = k (.agg #[.int .i64 u, .int .i64 v]) := by
  rw [ld_72 (by rw [h.1]; rfl) (by rw [Nat.zero_add, h.2]; rfl), h.1, Nat.zero_add, h.2]; rfl
theorem Cs.hl {S : World → Prop} {g : Nat} {u v : Int} (h : ∀ w', S w' → Cs w' g u v) {k : Value → Prop} (hk : k (.agg #[.int .i64 u, .int .i64 v])) : hld Tryz.prog S (Instr.loadAt 72 (.pointer (some ⟨g, 0, none⟩))) k :=
  hld_of _ (fun w' hw' => run_of_rd fun _ => (h w' hw').ld) hk

end
end Go.Proofs.YtndjohbbaplekaaGreatP
