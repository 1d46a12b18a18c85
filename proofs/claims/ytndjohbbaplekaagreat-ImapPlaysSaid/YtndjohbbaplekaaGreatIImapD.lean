/- Maps of blocks: the first call whose answer the document fixes; a list of calls. Conditions: none. -/
import Derived.Test.YtndjohbbaplekaaGreatIImapCi
import Derived.Test.YtndjohbbaplekaaGreatIShU
set_option linter.unusedSimpArgs false
set_option linter.unusedVariables false
namespace Go.Proofs.YtndjohbbaplekaaGreatI.Mi
open Go.Sh Go.Proofs.YtndjohbbaplekaaGreatI
set_option maxRecDepth 100000
section
variable {w : World} {Q : Value → World → Prop} {m : Nat} {l : List (Pt Int)}

theorem set_any {a b v : Int} (hm : IM w m l) (hl : l.length ≤ 300000)
    (hq : ∀ w' l', IM w' m l' → (∀ x, valB l' x = if hasB (a, b) x then some v else valB l x) → l'.length ≤ l.length + 2 → Keep (fun b => b = m) w w' → Q (.bool (decide (ok (a, b)))) w') :
    callS Tryz.prog 47 #[.pointer (some ⟨m, 0, none⟩), .agg #[.int .i64 a, .int .i64 b], .int .i64 v] Q w := by
  by_cases h0 : ok (a, b)
  · refine set_ok hm h0 hl fun w' l' h1 h2 h3 h4 => ?_
    have := hq w' l' h1 h2 h3 h4
    rwa [decide_eq_true h0] at this
  · refine set_no (v := v) h0 fun w' k => ?_
    have := hq w' l (hm.keep0 k) (fun x => by rw [if_neg (fun h => h0 h.1)]) (by omega) k.none
    rwa [decide_eq_false h0] at this
theorem clear_any {a b : Int} (hm : IM w m l) (hl : l.length ≤ 300000)
    (hq : ∀ w' l', IM w' m l' → (∀ x, valB l' x = if hasB (a, b) x then none else valB l x) → l'.length ≤ l.length + 2 → Keep (fun b => b = m) w w' → Q (.bool (decide (ok (a, b)))) w') :
    callS Tryz.prog 49 #[.pointer (some ⟨m, 0, none⟩), .agg #[.int .i64 a, .int .i64 b]] Q w := by
  by_cases h0 : ok (a, b)
  · refine clear_ok hm h0 hl fun w' l' h1 h2 h3 h4 => ?_
    have := hq w' l' h1 h2 (by omega) h4
    rwa [decide_eq_true h0] at this
  · refine clear_no h0 fun w' k => ?_
    have := hq w' l (hm.keep0 k) (fun x => by rw [if_neg (fun h => h0 h.1)]) (by omega) k.none
    rwa [decide_eq_false h0] at this

theorem alive_c (hq : ∀ w', Keep (fun _ => False) w w' → Q (.bool true) w') : callS Tryz.prog 45 #[] Q w := by
  refine ref45 ?_
  unfold S45
  refine new_c fun w1 m1 k1 => ?_
  have s1 := m1.lt
  simp only [stp, Nat.reduceAdd, Int.reduceLT, Int.reduceLE, Int.reduceEq, Int.reduceNe, ne_eq, bne_self_eq_false, beq_self_eq_true]
  refine set_ok (v := 1) m1 (by unfold ok; simp) (by simp) fun w2 l2 m2 hv2 hl2 k2 => ?_
  simp only [stp, Nat.reduceAdd, Int.reduceLT, Int.reduceLE, Int.reduceEq, Int.reduceNe, ne_eq, bne_self_eq_false, beq_self_eq_true]
  refine set_ok (v := 2) m2 (by unfold ok; simp) (by rw [List.length_nil] at hl2; omega) fun w3 l3 m3 hv3 hl3 k3 => ?_
  simp only [stp, Nat.reduceAdd, Int.reduceLT, Int.reduceLE, Int.reduceEq, Int.reduceNe, ne_eq, bne_self_eq_false, beq_self_eq_true]
  have hc3 : Canon ([((0, 3), 1), ((3, 5), 2), ((5, 9), 1)] : List (Pt Int)) := by
    refine ⟨by simp [ok], ?_⟩
    simp [nextOk]
  have e3 : l3 = [((0, 3), 1), ((3, 5), 2), ((5, 9), 1)] := canon_unique _ _ m3.canon hc3 fun x => by
    rw [hv3, hv2]
    have b35 : hasB (3, 5) x ↔ 3 ≤ x ∧ x < 5 := by simp [hasB, ok]
    have b09 : hasB (0, 9) x ↔ 0 ≤ x ∧ x < 9 := by simp [hasB, ok]
    have b03 : hasB (0, 3) x ↔ 0 ≤ x ∧ x < 3 := by simp [hasB, ok]
    have b59 : hasB (5, 9) x ↔ 5 ≤ x ∧ x < 9 := by simp [hasB, ok]
    simp only [valB_cons, b35, b09, b03, b59, show ∀ y, valB ([] : List (Pt Int)) y = none from fun _ => rfl]
    by_cases h1 : 3 ≤ x ∧ x < 5
    · have h2 : ¬ (0 ≤ x ∧ x < 3) := by omega
      rw [if_pos h1, if_neg h2, if_pos h1]
    · rw [if_neg h1]
      by_cases h2 : 0 ≤ x ∧ x < 3
      · have h3 : 0 ≤ x ∧ x < 9 := by omega
        rw [if_pos h2, if_pos h3]
      · rw [if_neg h2, if_neg h1]
        by_cases h3 : 5 ≤ x ∧ x < 9
        · have h4 : 0 ≤ x ∧ x < 9 := by omega
          rw [if_pos h3, if_pos h4]
        · have h4 : ¬ (0 ≤ x ∧ x < 9) := by omega
          rw [if_neg h3, if_neg h4]
  subst e3
  have g4 : valB ([((0, 3), 1), ((3, 5), 2), ((5, 9), 1)] : List (Pt Int)) 4 = some 2 := by decide
  refine get_c (x := 4) m3 (by simp) fun w4 k4 => ?_
  rw [g4]
  simp only [stp, Nat.reduceAdd, Int.reduceLT, Int.reduceLE, Int.reduceEq, Int.reduceNe, ne_eq, bne_self_eq_false, beq_self_eq_true]
  refine all_c (m3.keep0 k4) (by simp) fun w5 v5 o5 k5 => ?_
  obtain ⟨g, cap, rfl, _, hg2, _, _, hgf, hcel⟩ := o5.at (by simp)
  have c0 : cel w5 g 3 = some (.int .i64 3) := hcel 3 (by simp)
  have c1 : cel w5 g 4 = some (.int .i64 5) := hcel 4 (by simp)
  have ln3 : ((([((0, 3), 1), ((3, 5), 2), ((5, 9), 1)] : List (Pt Int)).length : Nat) : Int) = 3 := rfl
  have ix1 : ∀ {k : Value → Prop}, pur Tryz.prog (Instr.indexAt 93 (.slice (some ⟨g, 0, none⟩) ([((0, 3), 1), ((3, 5), 2), ((5, 9), 1)] : List (Pt Int)).length cap) (.int .i64 1)) k = k (.pointer (some ⟨g, 3, none⟩)) := fun {k} => ix_93 (i := 1) (n := 3) (kd := .i64) (by omega)
  simp only [stp, Nat.reduceAdd, Int.reduceLT, Int.reduceLE, Int.reduceEq, Int.reduceNe, ne_eq, bne_self_eq_false, beq_self_eq_true, stm, ln3, ix1, c0, c1, Bool.and_self]
  refine len_c ((m3.keep0 k4).keep0 k5) ?_
  simp only [stp, Nat.reduceAdd, Int.reduceLT, Int.reduceLE, Int.reduceEq, Int.reduceNe, ne_eq, bne_self_eq_false, beq_self_eq_true, ln3]
  refine hq _ ?_
  have s12 := k1.size
  exact k1.trans' (((k2.trans k3).trans k4.none).trans k5.none) fun b hb e => by subst e; exact absurd hb (Nat.lt_irrefl _)
end
end Go.Proofs.YtndjohbbaplekaaGreatI.Mi
