/- The laws of ranges, in the form that the rows' steps want. Conditions: none. -/
import Derived.Test.YtalkoelpibiboaaSpanE
import Derived.Test.YtalkoelpibiboaaSpanG
import Derived.Test.YtalkoelpibiboaaShU
set_option linter.unusedSimpArgs false
set_option linter.unusedVariables false
namespace Go.Proofs.Ytalkoelpibiboaa
open Go.Sh
set_option maxRecDepth 100000
section
variable {w : World} {Q : Value → World → Prop}
theorem few_law {v : Value} {l : List (Int × Int)} {x : Int} (h : Rd 2 w v l.length (flat encS l)) (_ : l.length ≤ maxLen) (_ : ∀ s ∈ l, rngS s) (_ : (Lit.int .i64 x).wf = true) (hq : ∀ w', Keep (fun b => siz w ≤ b) w w' → Q (.bool true) w') :
    callS Try.prog 3 #[v, .int .i64 x] Q w := few_c h fun w' k => hq w' k.none
theorem meets_law {s t : Int × Int} {x : Int} (h1 : rngS s) (h2 : rngS t) (_ : (Lit.int .i64 x).wf = true) (hq : ∀ w', Keep (fun b => siz w ≤ b) w w' → Q (.bool true) w') :
    callS Try.prog 4 #[.agg (encS s).toArray, .agg (encS t).toArray, .int .i64 x] Q w := meets_law0 (a := s.1) (b := s.2) (c := t.1) (d := t.2) h1 h2 fun w' k => hq w' k.none
theorem joins_law {va vb vc : Value} {a b c : List (Int × Int)} {x : Int} (ha : Rd 2 w va a.length (flat encS a)) (_ : a.length ≤ maxLen) (_ : ∀ s ∈ a, rngS s) (hb : Rd 2 w vb b.length (flat encS b)) (_ : b.length ≤ maxLen) (_ : ∀ s ∈ b, rngS s)
    (hc : Rd 2 w vc c.length (flat encS c)) (_ : c.length ≤ maxLen) (_ : ∀ s ∈ c, rngS s) (_ : (Lit.int .i64 x).wf = true) (hq : ∀ w', Keep (fun b => siz w ≤ b) w w' → Q (.bool true) w') :
    callS Try.prog 6 #[va, vb, vc, .int .i64 x] Q w := joins_c ha hb hc fun w' k => hq w' k.none
end
end Go.Proofs.Ytalkoelpibiboaa
