/- Ranges: the first call whose answer the document fixes; what SpanFew computes: true. Conditions: none. -/
import Derived.Test.YtndjohbbaplekaaGreatPSpanB
set_option linter.unusedSimpArgs false
set_option linter.unusedVariables false
namespace Go.Proofs.YtndjohbbaplekaaGreatP
open Go.Sh
set_option maxRecDepth 100000
section
variable {w : World} {Q : Value → World → Prop}

theorem alive_c (hq : ∀ w', Keep (fun _ => False) w w' → Q (.bool true) w') : callS Tryz.prog 23 #[] Q w := by
  refine ref23 ?_
  unfold S23
  simp only [stp, Nat.reduceAdd, Int.reduceLT, Int.reduceLE, Int.reduceEq, Int.reduceNe, ne_eq, bne_self_eq_false, beq_self_eq_true, stm]
  have k1 := (Keep.refl (fun _ => False) w).alloc (.cells #[.int .i64 3, .int .i64 5, .int .i64 1, .int .i64 3, .int .i64 9, .int .i64 9] 72)
  have r1 : Rd 2 (w.alloc (.cells #[.int .i64 3, .int .i64 5, .int .i64 1, .int .i64 3, .int .i64 9, .int .i64 9] 72)) (.slice (some ⟨siz w, 0, none⟩) 3 3) 3 (flat encS [(3, 5), (1, 3), (9, 9)]) :=
    ⟨rfl, .inr ⟨siz w, 0, 3, rfl, by omega, fun j hj => by rw [Nat.zero_add, cel_alloc_new, List.getElem?_toArray]; rfl⟩⟩
  generalize w.alloc (.cells #[.int .i64 3, .int .i64 5, .int .i64 1, .int .i64 3, .int .i64 9, .int .i64 9] 72) = w1 at k1 r1
  refine norm_c (l := [(3, 5), (1, 3), (9, 9)]) r1 (by simp) fun w2 v2 out hn _ o2 k2 => ?_
  have hout : out = [(1, 5)] := by
    refine nrm_unique _ _ hn.1 (Nrm.one (by unfold ok; simp)) fun x => ?_
    rw [hn.2]
    simp only [memB_cons, memB_nil, hasB, ok, or_false]
    constructor <;> intro h <;> omega
  subst hout
  try simp only [stp, Nat.reduceAdd, Int.reduceLT, Int.reduceLE, Int.reduceEq, Int.reduceNe, ne_eq, bne_self_eq_false, beq_self_eq_true, stm]
  refine meet_c fun w3 g3 => ?_
  have hm : ok (1, 5) ∧ ok (4, 9) ∧ ok (max 1 4, min 5 9) := by unfold ok; simp only; omega
  rw [if_pos hm]
  obtain ⟨g, cap, rfl, _, hg2, _, _, hgf, hcel⟩ := (o2.keep g3.1 fun _ _ => id).at (by simp)
  have c0 : cel w3 g 0 = some (.int .i64 1) := hcel 0 (by simp)
  have c1 : cel w3 g 1 = some (.int .i64 5) := hcel 1 (by simp)
  have e1 : max (1 : Int) 4 = 4 := by omega
  have e2 : min (5 : Int) 9 = 5 := by omega
  have ln1 : ((([(1, 5)] : List Sp).length : Nat) : Int) = 1 := rfl
  rw [e1, e2]
  simp only [stp, Nat.reduceAdd, Int.reduceLT, Int.reduceLE, Int.reduceEq, Int.reduceNe, ne_eq, bne_self_eq_false, beq_self_eq_true, stm, ln1]
  have k4 := (Keep.refl (fun _ => False) w3).alloc (.cells #[.int .i64 4, .int .i64 5] 72)
  have d0 := k4.cel c0 id
  have d1 := k4.cel c1 id
  have x0 : cel (w3.alloc (.cells #[.int .i64 4, .int .i64 5] 72)) (siz w3) 0 = some (.int .i64 4) := cel_alloc_new
  have x1 : cel (w3.alloc (.cells #[.int .i64 4, .int .i64 5] 72)) (siz w3) 1 = some (.int .i64 5) := cel_alloc_new
  have k04 := k1.trans (k2.trans (g3.1.trans k4))
  generalize w3.alloc (.cells #[.int .i64 4, .int .i64 5] 72) = w4 at k4 d0 d1 x0 x1 k04
  have ix0 : ∀ {k : Value → Prop}, pur Tryz.prog (Instr.indexAt 70 (.slice (some ⟨g, 0, none⟩) ([(1, 5)] : List Sp).length cap) (.int .i64 0)) k = k (.pointer (some ⟨g, 0, none⟩)) := fun {k} => ix_70 (i := 0) (n := 1) (kd := .i64) (by omega)
  try simp only [stp, Nat.reduceAdd, Int.reduceLT, Int.reduceLE, Int.reduceEq, Int.reduceNe, ne_eq, bne_self_eq_false, beq_self_eq_true, stm, ix0, d0, d1, x0, x1, Bool.and_true, Bool.and_self]
  refine has_c fun w5 g5 => ?_
  have hh : hasB (4, 5) 4 := by unfold hasB ok; simp
  simp only [stp, Nat.reduceAdd, Int.reduceLT, Int.reduceLE, Int.reduceEq, Int.reduceNe, ne_eq, bne_self_eq_false, beq_self_eq_true, stm, hh, g5.1.cel x0 id, g5.1.cel x1 id]
  refine len_c (by omega) fun w6 g6 => ?_
  have hl : ok (4, 5) := by unfold ok; simp
  rw [if_pos hl]
  simp only [stp, Nat.reduceAdd, Int.reduceLT, Int.reduceLE, Int.reduceEq, Int.reduceNe, ne_eq, bne_self_eq_false, beq_self_eq_true, stm, show ((5 : Int) - 4 = 1) from rfl]
  exact hq _ (k04.trans (g5.1.trans g6.1))

end
end Go.Proofs.YtndjohbbaplekaaGreatP
