/- A transaction: how many blocks; how many have room. Conditions: as each says. -/
import Derived.Test.YtdnbegjamoeahaaGreatUTxF
set_option linter.unusedSimpArgs false
set_option linter.unusedVariables false
namespace Go.Proofs.YtdnbegjamoeahaaGreatU
open Go.Sh Go.Proofs.YtdnbegjamoeahaaGreatU.Mi
set_option maxRecDepth 100000
section
variable {w w' : World} {Q : Value → World → Prop} {B t m a b : Nat} {s : TS}
theorem tblocks_c (h : TX w B t s) (hq : Q (.int .i64 (s.wr.length : Int)) w) : callS Tryz.prog 98 #[.pointer (some ⟨t, 0, none⟩)] Q w := by
  refine ref98 ?_
  unfold S98
  refine tnone_c h ?_
  obtain ⟨m, a, b, h⟩ := h
  have c6 : Sh.cel w t 6 = some (.map (some a)) := h.cel 6
  simp only [stp, Nat.reduceAdd, Int.reduceLT, Int.reduceLE, Int.reduceEq, Int.reduceNe, ne_eq, bne_self_eq_false, beq_self_eq_true, stm, c6, Option.isSome_some, Option.getD_some]
  have := lm_177 (w := w) h.ma.mp
  rw [List.length_map] at this
  rw [rd_eq this]
  exact hq
theorem rsec_c {n : Int} (h1 : 1 ≤ n) (h2 : n ≤ 60) (hq : Q (.int .i64 ((108 * n + 41) / 42)) w) : callS Tryz.prog 208 #[.int .i64 n] Q w := by
  refine ref208 ?_
  unfold S208
  have a1 : ¬ n < 1 := by omega
  have a2 : ¬ (60 < n) := by omega
  have e1 : IntKind.i64.wrap (108 * n) = 108 * n := wrap_id (by omega) (by omega)
  have e2 : IntKind.i64.wrap (108 * n + 41) = 108 * n + 41 := wrap_id (by omega) (by omega)
  have e4 : IntKind.i64.wrap ((108 * n + 41).tdiv 42) = (108 * n + 41) / 42 := by rw [Int.tdiv_eq_ediv_of_nonneg (by omega), wrap_id (by omega) (by omega)]
  simp only [stp, Nat.reduceAdd, Int.reduceLT, Int.reduceLE, Int.reduceEq, Int.reduceNe, ne_eq, bne_self_eq_false, beq_self_eq_true, stm, a1, a2, e1, e2]
  rw [pur_quo (by decide), e4]
  exact hq
theorem rmost_c {log : Int} (h1 : 1 ≤ log) (h2 : log ≤ 100000) (hq : Q (.int .i64 (mostF log)) w) : callS Tryz.prog 96 #[.int .i64 log] Q w := by
  refine ref96 ?_
  unfold S96
  refine lp2 (fun mm x y w' => w' = w ∧ ∃ n : Nat, y = .int .i64 (((n + 1 : Nat) : Int)) ∧ n ≤ 60 ∧ x = .int .i64 (min (n : Int) (7 * ((log - 1) / 2) / 18)) ∧ mm = 60 - n) 60 ⟨rfl, 0, rfl, by omega, by congr 1; omega, rfl⟩ ?_
  rintro mm x y w1 ⟨rfl, n, rfl, hn, rfl, hm⟩ J hJ _j
  have e2 : IntKind.i64.wrap (log - 1) = log - 1 := wrap_id (by omega) (by omega)
  have e3 : IntKind.i64.wrap ((log - 1).tdiv 2) = (log - 1) / 2 := by rw [Int.tdiv_eq_ediv_of_nonneg (by omega), wrap_id (by omega) (by omega)]
  have hg : (1 : Int) ≤ log := h1
  have hl : log ≤ 100000 := h2
  by_cases hlt : n < 60
  · have hlt' : ((n + 1 : Nat) : Int) ≤ 60 := by omega
    have e1 : IntKind.i64.wrap (((n + 1 : Nat) : Int) + 1) = ((n + 1 + 1 : Nat) : Int) := wrap_succ (by omega)
    simp only [stp, Nat.reduceAdd, Int.reduceLT, Int.reduceLE, Int.reduceEq, Int.reduceNe, ne_eq, bne_self_eq_false, beq_self_eq_true, stm, hlt', hg, hl]
    refine jn1 (fun z w' => w' = w1 ∧ z = .int .i64 (min ((n + 1 : Nat) : Int) (7 * ((log - 1) / 2) / 18))) (fun J1 hJ1 => ?_) ?_
    · refine rsec_c (by omega) (by omega) ?_
      simp only [stp, Nat.reduceAdd, Int.reduceLT, Int.reduceLE, Int.reduceEq, Int.reduceNe, ne_eq, bne_self_eq_false, beq_self_eq_true, stm, e2]
      rw [pur_quo (by decide), e3]
      by_cases hle : (108 * ((n + 1 : Nat) : Int) + 41) / 42 ≤ (log - 1) / 2
      · simp only [stp, Nat.reduceAdd, Int.reduceLT, Int.reduceLE, Int.reduceEq, Int.reduceNe, ne_eq, bne_self_eq_false, beq_self_eq_true, stm, hle]
        exact hJ1 _ _ ⟨rfl, by congr 1; omega⟩
      · simp only [stp, Nat.reduceAdd, Int.reduceLT, Int.reduceLE, Int.reduceEq, Int.reduceNe, ne_eq, bne_self_eq_false, beq_self_eq_true, stm, hle]
        exact hJ1 _ _ ⟨rfl, by congr 1; omega⟩
    · rintro z w2 ⟨rfl, rfl⟩ _j
      simp only [stp, Nat.reduceAdd, Int.reduceLT, Int.reduceLE, Int.reduceEq, Int.reduceNe, ne_eq, bne_self_eq_false, beq_self_eq_true, stm, e1]
      exact hJ (60 - (n + 1)) _ _ _ (by omega) ⟨rfl, n + 1, rfl, by omega, rfl, rfl⟩
  · have hlt' : ¬ ((n + 1 : Nat) : Int) ≤ 60 := by omega
    simp only [stp, Nat.reduceAdd, Int.reduceLT, Int.reduceLE, Int.reduceEq, Int.reduceNe, ne_eq, bne_self_eq_false, beq_self_eq_true, stm, hlt']
    have : min (n : Int) (7 * ((log - 1) / 2) / 18) = mostF log := by unfold mostF; omega
    rw [this]; exact hq
end
end Go.Proofs.YtdnbegjamoeahaaGreatU
