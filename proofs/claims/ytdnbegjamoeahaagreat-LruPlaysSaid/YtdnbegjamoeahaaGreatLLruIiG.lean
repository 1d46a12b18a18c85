/- The cache of last uses, keys int, values int: what each of its functions does. Conditions: the cache lies in memory as 'Rep' says. -/
import Derived.Test.YtdnbegjamoeahaaGreatLT
import Derived.Test.YtdnbegjamoeahaaGreatLShL
import Derived.Test.YtdnbegjamoeahaaGreatLLruB
import Derived.Test.YtdnbegjamoeahaaGreatLLruIi
set_option linter.unusedSimpArgs false
set_option linter.unusedVariables false
namespace Go.Proofs.YtdnbegjamoeahaaGreatL.Lii
open Go.Sh Go.Sh.Lru

set_option maxRecDepth 100000
section
variable {B : Nat} {w : World} {c mb room : Nat} {L : List Nd} {Q : Value → World → Prop}

theorem get_hit {A C : List Nd} {n : Nd} (h : Rep isI64 B w c mb room (A ++ n :: C)) (hq : ∀ w', Rep isI64 B w' c mb room (n :: (A ++ C)) → Keep (foot c mb (A ++ n :: C)) w w' → Q (.tuple #[n.v, .bool true]) w') :
    callS Tryz.prog 18 #[.pointer (some ⟨c, 0, none⟩), n.k] Q w := by
  refine ref18 ?_
  unfold S18
  refine jn0 (fun w' => Rep isI64 B w' c mb room (n :: (A ++ C)) ∧ Keep (foot c mb (A ++ n :: C)) w w') (fun J hJ => ?_) (fun w' ⟨h', k'⟩ _ => ?_)
  · refine find_hit h (n := n) (by simp) ?_
    simp only [stp, Nat.reduceAdd, Int.reduceLT, Int.reduceLE, Int.reduceEq, Int.reduceNe, ne_eq, bne_self_eq_false, beq_self_eq_true]
    refine use_c h fun w' h' k' _ => ?_
    exact hJ _ ⟨h', k'⟩
  · refine peek_hit h' (n := n) (by simp) ?_
    simp only [stp, Nat.reduceAdd, Int.reduceLT, Int.reduceLE, Int.reduceEq, Int.reduceNe, ne_eq, bne_self_eq_false, beq_self_eq_true]
    exact hq _ h' k'
theorem get_miss {k : Value} (h : Rep isI64 B w c mb room L) (hk : isI64 k) (hn : ∀ n ∈ L, n.k ≠ k) (hq : Q (.tuple #[(.int .i64 0), .bool false]) w) :
    callS Tryz.prog 18 #[.pointer (some ⟨c, 0, none⟩), k] Q w := by
  refine ref18 ?_
  unfold S18
  refine jn0 (fun w' => w' = w) (fun J hJ => ?_) ?_
  · refine find_miss h hk hn ?_
    simp only [stp, Nat.reduceAdd, Int.reduceLT, Int.reduceLE, Int.reduceEq, Int.reduceNe, ne_eq, bne_self_eq_false, beq_self_eq_true]
    exact hJ _ rfl
  · rintro w' rfl _
    refine peek_miss h hk hn ?_
    simp only [stp, Nat.reduceAdd, Int.reduceLT, Int.reduceLE, Int.reduceEq, Int.reduceNe, ne_eq, bne_self_eq_false, beq_self_eq_true]
    exact hq

end
end Go.Proofs.YtdnbegjamoeahaaGreatL.Lii
