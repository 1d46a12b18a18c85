/- The first call of the statements of chapter 5: 'alive' is true. Conditions: none. -/
import Derived.Test.YtdnbegjamoeahaaGreatLLruIiG
import Derived.Test.YtdnbegjamoeahaaGreatLLruIiM
import Derived.Test.YtdnbegjamoeahaaGreatLLruIiD
set_option linter.unusedSimpArgs false
set_option linter.unusedVariables false
namespace Go.Proofs.YtdnbegjamoeahaaGreatL
open Go.Sh Go.Sh.Lru

theorem alive_c {w : World} {Q : Value → World → Prop} (hq : ∀ w', Keep (fun _ => False) w w' → Q (.bool true) w') : callS Tryz.prog 12 #[] Q w := by
  refine ref12 ?_
  unfold S12
  refine Lii.new_c (B := siz w) (Nat.le_refl _) fun w1 h1 k1 => ?_
  have s1 := k1.size
  have K1 : Keep (fun b => siz w ≤ b) w w1 := k1.none
  rw [show Lii.clampR 2 = 2 from rfl] at h1
  simp only [stp, Nat.reduceAdd, Int.reduceLT, Int.reduceLE, Int.reduceEq, Int.reduceNe, ne_eq, bne_self_eq_false, beq_self_eq_true]
  refine Lii.put_miss h1 s1 ⟨1, rfl⟩ rfl (by simp) (fun w' hr => absurd hr (by simp)) (fun A n C hL => by simp at hL) (fun _ w2 b1 _ h2 k2 => ?_)
  have K2 := h1.onward K1 k2
  refine Lii.put_miss h2 K2.size ⟨2, rfl⟩ rfl (by simp) (fun w' hr => absurd hr (by simp)) (fun A n C hL _ _ hf => absurd hf (by simp)) (fun _ w3 b2 _ h3 k3 => ?_)
  have K3 := h2.onward K2 k3
  refine Lii.get_hit (A := [⟨b2, .int .i64 2, .int .i64 20, 0⟩]) (n := ⟨b1, .int .i64 1, .int .i64 10, 0⟩) (C := []) h3 fun w4 h4 k4 => ?_
  have K4 := h3.onward K3 k4
  simp only [stp, Nat.reduceAdd, Int.reduceLT, Int.reduceLE, Int.reduceEq, Int.reduceNe, ne_eq, bne_self_eq_false, beq_self_eq_true]
  refine Lii.put_miss h4 K4.size ⟨3, rfl⟩ rfl (by simp) (fun w' hr => absurd hr (by simp)) (fun A n C hL hp hC _ w5 b3 _ h5 k5 => ?_) (fun hlt => absurd hlt (by simp))
  have K5 := h4.onward K4 k5
  -- the last one goes
  have hCn : C = [] ∧ A = [⟨b1, .int .i64 1, .int .i64 10, 0⟩] ∧ n = ⟨b2, .int .i64 2, .int .i64 20, 0⟩ := by
    rcases A with _ | ⟨a, A⟩
    · simp at hL
      obtain ⟨h1, h2⟩ := hL
      subst h2
      exact absurd rfl (hC _ (List.mem_singleton.2 rfl))
    · simp at hL
      obtain ⟨h1, hL⟩ := hL
      rcases A with _ | ⟨a', A⟩
      · simp at hL; exact ⟨hL.2, by rw [← h1], hL.1.symm⟩
      · simp at hL
  obtain ⟨rfl, rfl, rfl⟩ := hCn
  simp only [stp, Nat.reduceAdd, Int.reduceLT, Int.reduceLE, Int.reduceEq, Int.reduceNe, ne_eq, bne_self_eq_false, beq_self_eq_true]
  refine Lii.len_c h5 ?_
  simp only [List.length_append, List.length_cons, List.length_nil, stp, Nat.reduceAdd, Int.reduceLT, Int.reduceLE, Int.reduceEq, Int.reduceNe, ne_eq, bne_self_eq_false, beq_self_eq_true]
  refine hq _ ⟨K5.os, K5.tape, K5.output, K5.size, fun b hb _ => K5.block b hb (by omega)⟩
end Go.Proofs.YtdnbegjamoeahaaGreatL
