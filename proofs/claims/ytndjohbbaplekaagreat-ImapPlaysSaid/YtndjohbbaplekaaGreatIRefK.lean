/- The document's maps: what a block has. Conditions: as each says. -/
import Derived.Test.YtndjohbbaplekaaGreatIRefH
import Derived.Test.YtndjohbbaplekaaGreatIKeep
set_option linter.unusedSimpArgs false
set_option linter.unusedVariables false
namespace Go.Proofs.YtndjohbbaplekaaGreatI
open Go.Sh Go.Proofs.YtndjohbbaplekaaGreatI.Mi
set_option maxRecDepth 100000
section
variable {w : World} {Q : Value → World → Prop} {B : Nat} {l : List (Pt Int)} {v : Value}
theorem rget_c {x : Int} (ho : RM w B v l) (hc : Canon l) (hl : l.length ≤ 100000) (hq : ∀ w', K0 w w' → Q (.tuple #[.int .i64 ((valB l x).getD 0), .bool (valB l x).isSome]) w') :
    callS Tryz.prog 58 #[v, .int .i64 x] Q w := by
  refine ref58 ?_
  unfold S58
  obtain ⟨pa, ca, rfl⟩ := Own.form ho
  refine lpc1 l.length (by omega) (fun i w' => K0 w w' ∧ ∀ p ∈ l.take i, ¬ hasB p.1 x) ⟨K0.refl _, by simp⟩ ?_ ?_
  · rintro i w1 hlt ⟨k1, hno⟩ J hJ _j
    have hlt' : ((i : Int) < (l.length : Int)) := by omega
    obtain ⟨g, rfl, p0, p1, p2⟩ := rpart_at (RM.keep0 ho k1) hlt
    have hok := hc.1 _ (List.getElem_mem hlt)
    have next : ¬ hasB l[i].1 x → ∀ p ∈ l.take (i + 1), ¬ hasB p.1 x := fun hn p hp => by
      rw [List.take_add_one, List.getElem?_eq_getElem hlt, Option.toList_some] at hp
      rcases List.mem_append.1 hp with hp | hp
      · exact hno p hp
      · simp at hp; subst hp; exact hn
    simp only [stp, Nat.reduceAdd, Int.reduceLT, Int.reduceLE, Int.reduceEq, Int.reduceNe, ne_eq, bne_self_eq_false, beq_self_eq_true, hlt']
    rw [ix_92 hlt]
    simp only [stp, Nat.reduceAdd, Int.reduceLT, Int.reduceLE, Int.reduceEq, Int.reduceNe, ne_eq, bne_self_eq_false, beq_self_eq_true, stm, p0]
    by_cases h0 : l[i].1.1 ≤ x
    · simp only [stp, Nat.reduceAdd, Int.reduceLT, Int.reduceLE, Int.reduceEq, Int.reduceNe, ne_eq, bne_self_eq_false, beq_self_eq_true, stm, h0]
      rw [ix_92 hlt]
      simp only [stp, Nat.reduceAdd, Int.reduceLT, Int.reduceLE, Int.reduceEq, Int.reduceNe, ne_eq, bne_self_eq_false, beq_self_eq_true, stm, p1]
      by_cases h1 : x < l[i].1.2
      · simp only [stp, Nat.reduceAdd, Int.reduceLT, Int.reduceLE, Int.reduceEq, Int.reduceNe, ne_eq, bne_self_eq_false, beq_self_eq_true, stm, h1]
        rw [ix_92 hlt]
        simp only [stp, Nat.reduceAdd, Int.reduceLT, Int.reduceLE, Int.reduceEq, Int.reduceNe, ne_eq, bne_self_eq_false, beq_self_eq_true, stm, p2]
        have := hq _ k1
        rw [valB_mem hc.apart (List.getElem_mem hlt) ⟨hok, h0, h1⟩] at this
        exact this
      · simp only [stp, Nat.reduceAdd, Int.reduceLT, Int.reduceLE, Int.reduceEq, Int.reduceNe, ne_eq, bne_self_eq_false, beq_self_eq_true, stm, h1]
        exact hJ _ ⟨k1, next fun hh => h1 hh.2.2⟩
    · simp only [stp, Nat.reduceAdd, Int.reduceLT, Int.reduceLE, Int.reduceEq, Int.reduceNe, ne_eq, bne_self_eq_false, beq_self_eq_true, stm, h0]
      exact hJ _ ⟨k1, next fun hh => h0 hh.2.1⟩
  · rintro w1 ⟨k1, hno⟩ J _j
    have hn : ¬ ((l.length : Int) < (l.length : Int)) := by omega
    rw [List.take_length] at hno
    have := hq _ k1
    rw [valB_none.2 hno] at this
    simp only [stp, Nat.reduceAdd, Int.reduceLT, Int.reduceLE, Int.reduceEq, Int.reduceNe, ne_eq, bne_self_eq_false, beq_self_eq_true, hn]
    exact this
end
end Go.Proofs.YtndjohbbaplekaaGreatI
