/- The laws of ranges, in the form that the rows' steps want. Conditions: none. -/
import Derived.Test.YtalkoelpibiboaaSpanC
import Derived.Test.YtalkoelpibiboaaShU
set_option linter.unusedSimpArgs false
set_option linter.unusedVariables false
namespace Go.Proofs.Ytalkoelpibiboaa
open Go.Sh
set_option maxRecDepth 100000
section
variable {w : World} {Q : Value → World → Prop}
theorem few_law {v : Value} {l : List (Int × Int)} {x : Int} (h : Rd 2 w v l.length (flat encS l)) (_ : l.length ≤ maxLen) (_ : ∀ s ∈ l, rngS s) (_ : (Lit.int .i64 x).wf = true) (hq : ∀ w', Keep (fun b => siz w ≤ b) w w' → Q (.bool true) w') :
    callS Try.prog 3 #[v, .int .i64 x] Q w := few_c h fun w' k => hq w' k.none
end
end Go.Proofs.Ytalkoelpibiboaa
