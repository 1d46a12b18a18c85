/- Modes of locks: what the functions of package mode compute. Conditions: as each says. -/
import Derived.Test.YtndjohbbaplekaaGreatVImapCi
import Derived.Test.YtndjohbbaplekaaGreatVModeX
set_option linter.unusedSimpArgs false
set_option linter.unusedVariables false
namespace Go.Proofs.YtndjohbbaplekaaGreatV
open Go.Sh
set_option maxRecDepth 100000
section
variable {w : World} {Q : Value → World → Prop} {a b : Int}
def isMd (a : Int) : Prop := 0 ≤ a ∧ a ≤ 2
instance (a : Int) : Decidable (isMd a) := by unfold isMd; infer_instance
theorem mvalid_c (hq : Q (.bool (decide (isMd a))) w) : callS Tryz.prog 228 #[.int .i64 a] Q w := by
  refine ref228 ?_
  unfold S228
  by_cases h0 : 0 ≤ a
  · simp only [stp, Nat.reduceAdd, Int.reduceLT, Int.reduceLE, Int.reduceEq, Int.reduceNe, ne_eq, bne_self_eq_false, beq_self_eq_true, stm, h0]
    simpa only [isMd, h0, true_and] using hq
  · simp only [stp, Nat.reduceAdd, Int.reduceLT, Int.reduceLE, Int.reduceEq, Int.reduceNe, ne_eq, bne_self_eq_false, beq_self_eq_true, stm, h0]
    simpa only [isMd, h0, false_and, decide_false] using hq
theorem mcovers_c (hq : Q (.bool (decide (isMd a ∧ isMd b ∧ b ≤ a))) w) : callS Tryz.prog 181 #[.int .i64 a, .int .i64 b] Q w := by
  refine ref181 ?_
  unfold S181
  refine mvalid_c ?_
  by_cases h0 : isMd a
  · simp only [stp, Nat.reduceAdd, Int.reduceLT, Int.reduceLE, Int.reduceEq, Int.reduceNe, ne_eq, bne_self_eq_false, beq_self_eq_true, stm, h0]
    refine mvalid_c ?_
    by_cases h1 : isMd b
    · simp only [stp, Nat.reduceAdd, Int.reduceLT, Int.reduceLE, Int.reduceEq, Int.reduceNe, ne_eq, bne_self_eq_false, beq_self_eq_true, stm, h1]
      simpa only [h0, h1, true_and] using hq
    · simp only [stp, Nat.reduceAdd, Int.reduceLT, Int.reduceLE, Int.reduceEq, Int.reduceNe, ne_eq, bne_self_eq_false, beq_self_eq_true, stm, h1]
      simpa only [h0, h1, false_and, true_and, decide_false] using hq
  · simp only [stp, Nat.reduceAdd, Int.reduceLT, Int.reduceLE, Int.reduceEq, Int.reduceNe, ne_eq, bne_self_eq_false, beq_self_eq_true, stm, h0]
    simpa only [h0, false_and, decide_false] using hq
theorem mfit_c (hq : Q (.bool (decide (isMd a ∧ isMd b ∧ (a = 0 ∨ b = 0 ∨ (a = 1 ∧ b = 1))))) w) : callS Tryz.prog 176 #[.int .i64 a, .int .i64 b] Q w := by
  refine ref176 ?_
  unfold S176
  refine mvalid_c ?_
  by_cases h0 : isMd a
  · simp only [stp, Nat.reduceAdd, Int.reduceLT, Int.reduceLE, Int.reduceEq, Int.reduceNe, ne_eq, bne_self_eq_false, beq_self_eq_true, stm, h0]
    refine mvalid_c ?_
    by_cases h1 : isMd b
    · by_cases h2 : a = 0
      · simp only [stp, Nat.reduceAdd, Int.reduceLT, Int.reduceLE, Int.reduceEq, Int.reduceNe, ne_eq, bne_self_eq_false, beq_self_eq_true, stm, h1, h2]
        rw [show decide (isMd a ∧ isMd b ∧ (a = 0 ∨ b = 0 ∨ (a = 1 ∧ b = 1))) = true from decide_eq_true ⟨h0, h1, .inl h2⟩] at hq
        exact hq
      · by_cases h3 : b = 0
        · simp only [stp, Nat.reduceAdd, Int.reduceLT, Int.reduceLE, Int.reduceEq, Int.reduceNe, ne_eq, bne_self_eq_false, beq_self_eq_true, stm, h1, h2, h3]
          rw [show decide (isMd a ∧ isMd b ∧ (a = 0 ∨ b = 0 ∨ (a = 1 ∧ b = 1))) = true from decide_eq_true ⟨h0, h1, .inr (.inl h3)⟩] at hq
          exact hq
        · by_cases h4 : a = 1
          · by_cases h5 : b = 1
            · simp only [stp, Nat.reduceAdd, Int.reduceLT, Int.reduceLE, Int.reduceEq, Int.reduceNe, ne_eq, bne_self_eq_false, beq_self_eq_true, stm, h1, h2, h3, h4, h5]
              rw [show decide (isMd a ∧ isMd b ∧ (a = 0 ∨ b = 0 ∨ (a = 1 ∧ b = 1))) = true from decide_eq_true ⟨h0, h1, .inr (.inr ⟨h4, h5⟩)⟩] at hq
              exact hq
            · simp only [stp, Nat.reduceAdd, Int.reduceLT, Int.reduceLE, Int.reduceEq, Int.reduceNe, ne_eq, bne_self_eq_false, beq_self_eq_true, stm, h1, h2, h3, h4, h5]
              have e : decide (isMd a ∧ isMd b ∧ (a = 0 ∨ b = 0 ∨ (a = 1 ∧ b = 1))) = false := decide_eq_false (by omega)
              rw [e] at hq; exact hq
          · simp only [stp, Nat.reduceAdd, Int.reduceLT, Int.reduceLE, Int.reduceEq, Int.reduceNe, ne_eq, bne_self_eq_false, beq_self_eq_true, stm, h1, h2, h3, h4]
            have e : decide (isMd a ∧ isMd b ∧ (a = 0 ∨ b = 0 ∨ (a = 1 ∧ b = 1))) = false := decide_eq_false (by omega)
            rw [e] at hq; exact hq
    · simp only [stp, Nat.reduceAdd, Int.reduceLT, Int.reduceLE, Int.reduceEq, Int.reduceNe, ne_eq, bne_self_eq_false, beq_self_eq_true, stm, h1]
      simpa only [h0, h1, false_and, true_and, decide_false] using hq
  · simp only [stp, Nat.reduceAdd, Int.reduceLT, Int.reduceLE, Int.reduceEq, Int.reduceNe, ne_eq, bne_self_eq_false, beq_self_eq_true, stm, h0]
    simpa only [h0, false_and, decide_false] using hq
theorem mjoin_c (hq : Q (.int .i64 (max a b)) w) : callS Tryz.prog 251 #[.int .i64 a, .int .i64 b] Q w := by
  refine ref251 ?_
  unfold S251
  simp only [stp, Nat.reduceAdd, Int.reduceLT, Int.reduceLE, Int.reduceEq, Int.reduceNe, ne_eq, bne_self_eq_false, beq_self_eq_true, stm]
  exact hq
def nmN : ByteArray := ⟨#[110, 111, 110, 101]⟩
def nmS : ByteArray := ⟨#[115, 104, 97, 114, 101, 100]⟩
def nmX : ByteArray := ⟨#[101, 120, 99, 108, 117, 115, 105, 118, 101]⟩
def nmOf (a : Int) : ByteArray := if a = 0 then nmN else if a = 1 then nmS else if a = 2 then nmX else ⟨#[]⟩
theorem mname_c (hq : Q (.string (nmOf a)) w) : callS Tryz.prog 177 #[.int .i64 a] Q w := by
  refine ref177 ?_
  unfold S177
  by_cases h0 : a = 0
  · subst h0
    simp only [stp, Nat.reduceAdd, Int.reduceLT, Int.reduceLE, Int.reduceEq, Int.reduceNe, ne_eq, bne_self_eq_false, beq_self_eq_true, stm]; exact hq
  · by_cases h1 : a = 1
    · subst h1
      simp only [stp, Nat.reduceAdd, Int.reduceLT, Int.reduceLE, Int.reduceEq, Int.reduceNe, ne_eq, bne_self_eq_false, beq_self_eq_true, stm]; exact hq
    · by_cases h2 : a = 2
      · subst h2
        simp only [stp, Nat.reduceAdd, Int.reduceLT, Int.reduceLE, Int.reduceEq, Int.reduceNe, ne_eq, bne_self_eq_false, beq_self_eq_true, stm]; exact hq
      · simp only [stp, Nat.reduceAdd, Int.reduceLT, Int.reduceLE, Int.reduceEq, Int.reduceNe, ne_eq, bne_self_eq_false, beq_self_eq_true, stm, h0, h1, h2]; simpa only [nmOf, h0, h1, h2, if_false] using hq
def prOf (s : ByteArray) : Int × Bool := if nmN = s then (0, true) else if nmS = s then (1, true) else if nmX = s then (2, true) else (0, false)
theorem mparse_c {s : ByteArray} (hq : Q (.tuple #[.int .i64 (prOf s).1, .bool (prOf s).2]) w) : callS Tryz.prog 175 #[.string s] Q w := by
  refine ref175 ?_
  unfold S175
  refine lp1 (fun m x w' => w' = w ∧ ∃ i : Nat, x = .int .i64 (i : Int) ∧ i ≤ 3 ∧ m = 3 - i ∧ (1 ≤ i → ¬ nmN = s) ∧ (2 ≤ i → ¬ nmS = s) ∧ (3 ≤ i → ¬ nmX = s)) 3 ⟨rfl, 0, rfl, by omega, rfl, by omega, by omega, by omega⟩ ?_
  rintro m x w' ⟨rfl, i, rfl, hi, rfl, h1, h2, h3⟩ J hJ _
  have hwi := wrap_succ (i := i) (by omega)
  have : i = 0 ∨ i = 1 ∨ i = 2 ∨ i = 3 := by omega
  rcases this with rfl | rfl | rfl | rfl
  · have e : ((0 : Nat) : Int) ≤ 2 := by omega
    simp only [stp, Nat.reduceAdd, Int.reduceLT, Int.reduceLE, Int.reduceEq, Int.reduceNe, ne_eq, bne_self_eq_false, beq_self_eq_true, e]
    refine mname_c ?_
    have en : nmOf ((0 : Nat) : Int) = nmN := rfl
    rw [en]
    by_cases h : nmN = s
    · simp only [stp, Nat.reduceAdd, Int.reduceLT, Int.reduceLE, Int.reduceEq, Int.reduceNe, ne_eq, bne_self_eq_false, beq_self_eq_true, h]
      rw [show prOf s = (0, true) by simp only [prOf, h, if_true]] at hq
      exact hq
    · simp only [stp, Nat.reduceAdd, Int.reduceLT, Int.reduceLE, Int.reduceEq, Int.reduceNe, ne_eq, bne_self_eq_false, beq_self_eq_true, h, hwi]
      exact hJ 2 _ _ (by omega) ⟨rfl, 1, rfl, by omega, rfl, fun _ => h, by omega, by omega⟩
  · have h1' := h1 (by omega)
    have e : ((1 : Nat) : Int) ≤ 2 := by omega
    simp only [stp, Nat.reduceAdd, Int.reduceLT, Int.reduceLE, Int.reduceEq, Int.reduceNe, ne_eq, bne_self_eq_false, beq_self_eq_true, e]
    refine mname_c ?_
    have en : nmOf ((1 : Nat) : Int) = nmS := rfl
    rw [en]
    by_cases h : nmS = s
    · simp only [stp, Nat.reduceAdd, Int.reduceLT, Int.reduceLE, Int.reduceEq, Int.reduceNe, ne_eq, bne_self_eq_false, beq_self_eq_true, h]
      rw [show prOf s = (1, true) by simp only [prOf, h1', h, if_true, if_false]] at hq
      exact hq
    · simp only [stp, Nat.reduceAdd, Int.reduceLT, Int.reduceLE, Int.reduceEq, Int.reduceNe, ne_eq, bne_self_eq_false, beq_self_eq_true, h, hwi]
      exact hJ 1 _ _ (by omega) ⟨rfl, 2, rfl, by omega, rfl, fun _ => h1', fun _ => h, by omega⟩
  · have h1' := h1 (by omega)
    have h2' := h2 (by omega)
    have e : ((2 : Nat) : Int) ≤ 2 := by omega
    simp only [stp, Nat.reduceAdd, Int.reduceLT, Int.reduceLE, Int.reduceEq, Int.reduceNe, ne_eq, bne_self_eq_false, beq_self_eq_true, e]
    refine mname_c ?_
    have en : nmOf ((2 : Nat) : Int) = nmX := rfl
    rw [en]
    by_cases h : nmX = s
    · simp only [stp, Nat.reduceAdd, Int.reduceLT, Int.reduceLE, Int.reduceEq, Int.reduceNe, ne_eq, bne_self_eq_false, beq_self_eq_true, h]
      rw [show prOf s = (2, true) by simp only [prOf, h1', h2', h, if_true, if_false]] at hq
      exact hq
    · simp only [stp, Nat.reduceAdd, Int.reduceLT, Int.reduceLE, Int.reduceEq, Int.reduceNe, ne_eq, bne_self_eq_false, beq_self_eq_true, h, hwi]
      exact hJ 0 _ _ (by omega) ⟨rfl, 3, rfl, by omega, rfl, fun _ => h1', fun _ => h2', fun _ => h⟩
  · have h1' := h1 (by omega)
    have h2' := h2 (by omega)
    have h3' := h3 (by omega)
    have e : ¬ ((3 : Nat) : Int) ≤ 2 := by omega
    simp only [stp, Nat.reduceAdd, Int.reduceLT, Int.reduceLE, Int.reduceEq, Int.reduceNe, ne_eq, bne_self_eq_false, beq_self_eq_true, e]
    simpa only [prOf, h1', h2', h3', if_false] using hq
end
end Go.Proofs.YtndjohbbaplekaaGreatV
