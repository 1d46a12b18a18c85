/- The table of locks: what the requests that wait claim. Conditions: as each says. -/
import Derived.Test.YtiomanikpboclaaTableI
set_option linter.unusedSimpArgs false
set_option linter.unusedVariables false
namespace Go.Proofs.Ytiomanikpboclaa
open Go.Sh Go.Proofs.Ytiomanikpboclaa.Mi
set_option maxRecDepth 100000
section
variable {w w' : World} {Q : Value → World → Prop} {B t : Nat} {s : TS}
/-- One more request, and what it claims. -/
def cl1 (s : TS) (A : List I5) (k : I5) : List I5 := if hindF s A k.2.1 k.2.2.1 k.2.2.2.1 k.2.2.2.2 < k.2.2.2.1 then A ++ [(k.1, k.2.1, k.2.2.1, hindF s A k.2.1 k.2.2.1 k.2.2.2.1 k.2.2.2.2 + 1, k.2.2.2.2)] else A
def claimsF (s : TS) (W : List I5) : List I5 := W.foldl (cl1 s) []
theorem cl_len (s : TS) : ∀ (W : List I5) (A : List I5), (W.foldl (cl1 s) A).length ≤ A.length + W.length
  | [], A => Nat.le_refl _
  | k :: W, A => by
    have h := cl_len s W (cl1 s A k)
    have : (cl1 s A k).length ≤ A.length + 1 := by
      unfold cl1
      split
      · simp
      · omega
    simp only [List.foldl_cons, List.length_cons]
    omega
/-- Requests that wait are right. -/
def WsOk (W : List I5) : Prop := W.length ≤ 1000 ∧ ∀ k ∈ W, rightL (k.2.2.1, k.2.2.2.1, k.2.2.2.2)
theorem claims_c (h : TL w B t s) (hok : WsOk s.ws)
    (hq : ∀ w' v', Own w' (siz w) 36 5 v' (claimsF s s.ws).length (flat enc5 (claimsF s s.ws)) → K0 w w' → Q v' w') :
    callS Try.prog 42 #[.pointer (some ⟨t, 0, none⟩)] Q w := by
  refine ref42 ?_
  unfold S42
  obtain ⟨hW, hR⟩ := hok
  have hTL := h
  obtain ⟨ms, wv, h⟩ := h
  have hwr := h.wr.rd
  obtain ⟨pa, ca, rfl⟩ := hwr.form
  have c18 : cel w t 18 = some (.slice pa s.ws.length ca) := by
    rw [cel_b h.b]
    unfold tcells
    rw [List.getElem?_toArray, show (18 : Nat) = 17 + 1 from rfl, List.getElem?_cons_succ, List.getElem?_append_right (by simp [ptrs, h.n])]
    simp [ptrs, h.n]
  simp only [stp, Nat.reduceAdd, Int.reduceLT, Int.reduceLE, Int.reduceEq, Int.reduceNe, ne_eq, bne_self_eq_false, beq_self_eq_true, stm, c18]
  refine lpc2 s.ws.length (by omega) (fun i x w' => Own w' (siz w) 36 5 x (claimsF s (s.ws.take i)).length (flat enc5 (claimsF s (s.ws.take i))) ∧ K0 w w') ⟨Own.nil _ _ _ _, K0.refl _⟩ ?_ ?_
  · rintro i x w2 hi ⟨o2, k2⟩ J hJ _j
    have hi' : (i : Int) < (s.ws.length : Int) := by omega
    obtain ⟨b0, o, rfl, q0, q1, q2, q3, q4⟩ := ws_at (hwr.keep0 k2) hi
    have hst : claimsF s (s.ws.take (i + 1)) = cl1 s (claimsF s (s.ws.take i)) s.ws[i] := by
      unfold claimsF
      rw [List.take_add_one, List.getElem?_eq_getElem hi, Option.toList_some, List.foldl_append]
      rfl
    have hlen := cl_len s (s.ws.take i) []
    have hlen : (claimsF s (s.ws.take i)).length ≤ i := Nat.le_trans hlen (by rw [List.length_take, List.length_nil]; omega)
    obtain ⟨hr1, hr2, hr3⟩ := hR _ (List.getElem_mem hi)
    simp only [stp, Nat.reduceAdd, Int.reduceLT, Int.reduceLE, Int.reduceEq, Int.reduceNe, ne_eq, bne_self_eq_false, beq_self_eq_true, hi']
    refine jn1 (fun x' w' => Own w' (siz w) 36 5 x' (claimsF s (s.ws.take (i + 1))).length (flat enc5 (claimsF s (s.ws.take (i + 1)))) ∧ K0 w w') (fun J3 hJ3 => ?_) ?_
    · rw [ix_32 hi]
      simp only [stp, Nat.reduceAdd, Int.reduceLT, Int.reduceLE, Int.reduceEq, Int.reduceNe, ne_eq, bne_self_eq_false, beq_self_eq_true, stm, q0, q1, q2, q3, q4]
      rw [hst] at hJ3
      generalize claimsF s (s.ws.take i) = A at *
      have k3 : K0 w2 (w2.alloc (.cells #[.int .i64 s.ws[i].1, .int .i64 s.ws[i].2.1, .int .i64 s.ws[i].2.2.1, .int .i64 s.ws[i].2.2.2.1, .int .i64 s.ws[i].2.2.2.2] 36)) := (K0.refl w2).alloc _
      have b3 : blk (w2.alloc (.cells #[.int .i64 s.ws[i].1, .int .i64 s.ws[i].2.1, .int .i64 s.ws[i].2.2.1, .int .i64 s.ws[i].2.2.2.1, .int .i64 s.ws[i].2.2.2.2] 36)) (siz w2) = some (.cells #[.int .i64 s.ws[i].1, .int .i64 s.ws[i].2.1, .int .i64 s.ws[i].2.2.1, .int .i64 s.ws[i].2.2.2.1, .int .i64 s.ws[i].2.2.2.2] 36) := blk_alloc_new
      generalize w2.alloc (.cells #[.int .i64 s.ws[i].1, .int .i64 s.ws[i].2.1, .int .i64 s.ws[i].2.2.1, .int .i64 s.ws[i].2.2.2.1, .int .i64 s.ws[i].2.2.2.2] 36) = w3 at k3 b3
      have o3 : Own w3 (siz w) 36 5 x A.length (flat enc5 A) := o2.keep k3 fun _ _ e => e
      obtain ⟨px, cx, rfl⟩ := o3.form
      refine hinders_c (A := A) (hTL.keep0 (k2.trans k3)) o3.rd (by omega) fun w4 k4 => ?_
      have hpos := hindF_pos (s := s) (A := A) (node := s.ws[i].2.1) (a := s.ws[i].2.2.1) (b := s.ws[i].2.2.2.1) (md := s.ws[i].2.2.2.2) hr1.1 (by have := hr1.2; have := hr1.1; dsimp only at *; omega)
      have hr2 : s.ws[i].2.2.2.1 ≤ 4096 := hr2
      have b4 := k4.blk b3 (by exact fun h => h)
      have o4 := o3.keep k4 fun _ _ e => e
      obtain ⟨z0, z1, z2, z3, z4⟩ := wait_cells b4
      have kk4 := (k2.trans k3).trans k4
      by_cases hlt : hindF s A s.ws[i].2.1 s.ws[i].2.2.1 s.ws[i].2.2.2.1 s.ws[i].2.2.2.2 < s.ws[i].2.2.2.1
      · simp only [stp, Nat.reduceAdd, Int.reduceLT, Int.reduceLE, Int.reduceEq, Int.reduceNe, ne_eq, bne_self_eq_false, beq_self_eq_true, stm, hlt, z0, z1, z2, z3, z4]
        refine claim_c ⟨by omega, by omega⟩ fun w5 k5 => ?_
        simp only [stp, Nat.reduceAdd, Int.reduceLT, Int.reduceLE, Int.reduceEq, Int.reduceNe, ne_eq, bne_self_eq_false, beq_self_eq_true, stm]
        have o5 := o4.keep k5 fun _ _ e => e
        have kk5 := kk4.trans k5
        refine pu_32 o5 (by intro u hu; simp only [List.mem_cons, List.not_mem_nil, or_false] at hu; rcases hu with rfl | rfl | rfl | rfl | rfl <;> exact one_int) (by omega) (by have := kk5.size; omega) fun v' w' ho hk' hr => hJ3 _ _ ⟨?_, kk5.trans' hk' fun b hb e => by have := (o5.lt e).1; omega⟩
        unfold cl1
        rw [if_pos hlt, List.length_append, flat_append, flat_one]
        exact ho
      · simp only [stp, Nat.reduceAdd, Int.reduceLT, Int.reduceLE, Int.reduceEq, Int.reduceNe, ne_eq, bne_self_eq_false, beq_self_eq_true, hlt]
        refine hJ3 _ _ ⟨?_, kk4⟩
        unfold cl1
        rw [if_neg hlt]
        exact o4
    · rintro x' w5 ⟨o5, k5⟩ _j
      exact hJ _ _ ⟨o5, k5⟩
  · rintro x w2 ⟨o2, k2⟩ J _j
    have hn : ¬ ((s.ws.length : Int) < (s.ws.length : Int)) := by omega
    rw [List.take_length] at o2
    simp only [stp, Nat.reduceAdd, Int.reduceLT, Int.reduceLE, Int.reduceEq, Int.reduceNe, ne_eq, bne_self_eq_false, beq_self_eq_true, hn]
    exact hq _ _ o2 k2
end
end Go.Proofs.Ytiomanikpboclaa
