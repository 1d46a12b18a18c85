/- The cache of last uses, keys int, values int: what each of its functions does. Conditions: the cache lies in memory as 'Rep' says. -/
import Derived.Test.YtdnbegjamoeahaaGreatLT
import Derived.Test.YtdnbegjamoeahaaGreatLShL
import Derived.Test.YtdnbegjamoeahaaGreatLLruB
import Derived.Test.YtdnbegjamoeahaaGreatLLruIi
set_option linter.unusedSimpArgs false
set_option linter.unusedVariables false
namespace Go.Proofs.YtdnbegjamoeahaaGreatL.Lii
open Go.Sh Go.Sh.Lru

set_option maxRecDepth 100000
section
variable {B : Nat} {w : World} {c mb room : Nat} {L : List Nd} {Q : Value → World → Prop}


theorem pin_hit {A C : List Nd} {n : Nd} (h : Rep isI64 B w c mb room (A ++ n :: C)) (hp : n.p < 4611686018427387904) (hq : ∀ w', Rep isI64 B w' c mb room (A ++ { n with p := n.p + 1 } :: C) → Keep (foot c mb (A ++ n :: C)) w w' → Q (.bool true) w') :
    callS Tryz.prog 20 #[.pointer (some ⟨c, 0, none⟩), n.k] Q w := by
  refine ref20 ?_
  unfold S20
  refine find_hit h (n := n) (by simp) ?_
  have hn := h.node n (by simp)
  simp only [stp, Nat.reduceAdd, Int.reduceLT, Int.reduceLE, Int.reduceEq, Int.reduceNe, ne_eq, bne_self_eq_false, beq_self_eq_true, hn.p, hn.fre, Option.isSome_some, Option.getD_some]
  rw [wrap_id (by omega) (by omega), show (n.p : Int) + 1 = ((n.p + 1 : Nat) : Int) from by omega]
  exact hq _ (h.setP (p := n.p + 1)) ((Keep.refl _ w).sto (.inl (.inr (.inr ⟨n, by simp, rfl⟩))) _ _)
theorem pin_miss {k : Value} (h : Rep isI64 B w c mb room L) (hk : isI64 k) (hn : ∀ n ∈ L, n.k ≠ k) (hq : Q (.bool false) w) :
    callS Tryz.prog 20 #[.pointer (some ⟨c, 0, none⟩), k] Q w := by
  refine ref20 ?_
  unfold S20
  refine find_miss h hk hn ?_
  simp only [stp, Nat.reduceAdd, Int.reduceLT, Int.reduceLE, Int.reduceEq, Int.reduceNe, ne_eq, bne_self_eq_false, beq_self_eq_true]
  exact hq
end
end Go.Proofs.YtdnbegjamoeahaaGreatL.Lii
