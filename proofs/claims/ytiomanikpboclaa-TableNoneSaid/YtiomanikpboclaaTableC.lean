/- The table of locks: whether a lock fits what the others hold. Conditions: as each says. -/
import Derived.Test.YtiomanikpboclaaTableB
set_option linter.unusedSimpArgs false
set_option linter.unusedVariables false
namespace Go.Proofs.Ytiomanikpboclaa
open Go.Sh Go.Proofs.Ytiomanikpboclaa.Mi
set_option maxRecDepth 100000
section
variable {w w' : World} {Q : Value → World → Prop} {B t : Nat} {s : TS}
/-- Modes that fit. -/
def fitP (a b : Int) : Prop := isMd a ∧ isMd b ∧ (a = 0 ∨ b = 0 ∨ (a = 1 ∧ b = 1))
instance (a b : Int) : Decidable (fitP a b) := by unfold fitP; infer_instance
theorem part_at {A : Nat} {pa : Option Addr} {ca : Nat} {e : TypeId} {l : List (Pt Int)} (h : Own w A e 3 (.slice pa l.length ca) l.length (flat enc l)) {i : Nat} (hi : i < l.length) :
    ∃ g, pa = some ⟨g, 0, none⟩ ∧ cel w g (i * 3) = some (.int .i64 l[i].1.1) ∧ cel w g (i * 3 + 1) = some (.int .i64 l[i].1.2) ∧ cel w g (i * 3 + 2) = some (.int .i64 l[i].2) := by
  obtain ⟨g, cg, e, _, _, _, _, _, hcel⟩ := h.at (by omega)
  injection e with e1 _ e2
  subst e1 e2
  obtain ⟨p0, p1, p2⟩ := parts_at (ev := ev) (b := g) (o := 0) (l := l) (fun j hj => by rw [Nat.zero_add]; exact hcel j hj) (List.getElem?_eq_getElem hi)
  rw [Nat.zero_add] at p0 p1 p2
  exact ⟨g, rfl, p0, p1, p2⟩
theorem fits_c {node a b md : Int} (h : TL w B t s)
    (hq : ∀ w' r, (r = true ↔ ∀ (o : Nat) l, 1 ≤ o → (o : Int) ≤ s.nodes → (o : Int) ≠ node → s.hs[o]? = some l → ∀ p ∈ partsL (a, b) l, fitP p.2 md) → K0 w w' → Q (.bool r) w') :
    callS Try.prog 37 #[.pointer (some ⟨t, 0, none⟩), .int .i64 node, .agg #[.int .i64 a, .int .i64 b, .int .i64 md]] Q w := by
  refine ref37 ?_
  unfold S37
  obtain ⟨ms, wv, h⟩ := h
  simp only [stp, Nat.reduceAdd, Int.reduceLT, Int.reduceLE, Int.reduceEq, Int.reduceNe, ne_eq, bne_self_eq_false, beq_self_eq_true, stm, act_box, agg_cells]
  have b1 : blk (w.alloc (.cells #[.int .i64 a, .int .i64 b, .int .i64 md] 31)) (siz w) = some (.cells #[.int .i64 a, .int .i64 b, .int .i64 md] 31) := blk_alloc_new
  have k1 : K0 w (w.alloc (.cells #[.int .i64 a, .int .i64 b, .int .i64 md] 31)) := (K0.refl w).alloc _
  generalize w.alloc (.cells #[.int .i64 a, .int .i64 b, .int .i64 md] 31) = w1 at b1 k1
  have hnn := h.nn
  refine lp1 (fun m x w' => ∃ o : Nat, 1 ≤ o ∧ (o : Int) ≤ s.nodes + 1 ∧ x = .int .i64 (o : Int) ∧ m = 17 - o ∧ K0 w1 w' ∧ ∀ (o' : Nat) l, 1 ≤ o' → o' < o → (o' : Int) ≠ node → s.hs[o']? = some l → ∀ p ∈ partsL (a, b) l, fitP p.2 md) 16 ⟨1, Nat.le_refl _, by omega, rfl, rfl, K0.refl _, fun o' l h1 h2 => by omega⟩ ?_
  rintro m x w2 ⟨o, ho1, ho2, rfl, rfl, k2, hall⟩ J hJ _j
  have h2 := (h.keep0 k1).keep0 k2
  have b2 := k2.blk b1 id
  have c0 := h2.c0
  by_cases hle : (o : Int) ≤ s.nodes
  case neg =>
    simp only [stp, Nat.reduceAdd, Int.reduceLT, Int.reduceLE, Int.reduceEq, Int.reduceNe, ne_eq, bne_self_eq_false, beq_self_eq_true, stm, c0, hle]
    exact hq _ _ ⟨fun _ o' l q1 q2 q3 q4 => hall o' l q1 (by omega) q3 q4, fun _ => rfl⟩ (k1.trans k2)
  have hlt : o < 17 := by omega
  have hwr : IntKind.i64.wrap ((o : Int) + 1) = ((o + 1 : Nat) : Int) := wrap_succ (by omega)
  obtain ⟨mm, l, e1, e2, e3, hm, hd⟩ := h2.node hlt
  have hl := canon_len (n := 4096) hm.canon hd
  simp only [stp, Nat.reduceAdd, Int.reduceLT, Int.reduceLE, Int.reduceEq, Int.reduceNe, ne_eq, bne_self_eq_false, beq_self_eq_true, stm, c0, hle]
  refine jn0 (fun w' => K0 w1 w' ∧ ((o : Int) ≠ node → ∀ p ∈ partsL (a, b) l, fitP p.2 md)) (fun J1 hJ1 => ?_) ?_
  · by_cases hon : (o : Int) = node
    · simp only [stp, Nat.reduceAdd, Int.reduceLT, Int.reduceLE, Int.reduceEq, Int.reduceNe, ne_eq, bne_self_eq_false, beq_self_eq_true, hon]
      exact hJ1 _ ⟨k2, fun h => absurd hon h⟩
    simp only [stp, Nat.reduceAdd, Int.reduceLT, Int.reduceLE, Int.reduceEq, Int.reduceNe, ne_eq, bne_self_eq_false, beq_self_eq_true, hon]
    rw [ixa hlt]
    have c1 : cel w2 (siz w) 0 = some (.int .i64 a) := by rw [cel_b b2]; rfl
    have c2 : cel w2 (siz w) 1 = some (.int .i64 b) := by rw [cel_b b2]; rfl
    simp only [stp, Nat.reduceAdd, Int.reduceLT, Int.reduceLE, Int.reduceEq, Int.reduceNe, ne_eq, bne_self_eq_false, beq_self_eq_true, stm, e3, c1, c2]
    refine parts_c (a := a) (b := b) hm (by omega) fun w3 v3 o3 k3 => ?_
    have k3 : K0 w2 w3 := ((K0.refl w2).drew).trans k3
    have hPl := partsL_len (a, b) l
    generalize hP : partsL (a, b) l = P at *
    obtain ⟨p3, c3, rfl⟩ := o3.form
    have b3 := k3.blk b2 id
    simp only [stp, Nat.reduceAdd, Int.reduceLT, Int.reduceLE, Int.reduceEq, Int.reduceNe, ne_eq, bne_self_eq_false, beq_self_eq_true]
    refine lpc1 P.length (by omega) (fun i w' => K0 w3 w' ∧ ∀ p ∈ P.take i, fitP p.2 md) ⟨K0.refl _, by simp⟩ ?_ ?_
    · rintro i w4 hi ⟨k4, hfit⟩ J2 hJ2 _j
      have hi' : (i : Int) < (P.length : Int) := by omega
      obtain ⟨g, rfl, q0, q1, q2⟩ := part_at (o3.keep k4 fun _ _ e => e) hi
      have c2' : cel w4 (siz w) 2 = some (.int .i64 md) := by rw [cel_b (k4.blk b3 id)]; rfl
      simp only [stp, Nat.reduceAdd, Int.reduceLT, Int.reduceLE, Int.reduceEq, Int.reduceNe, ne_eq, bne_self_eq_false, beq_self_eq_true, hi']
      rw [ix_65 hi, Nat.zero_add]
      simp only [stp, Nat.reduceAdd, Int.reduceLT, Int.reduceLE, Int.reduceEq, Int.reduceNe, ne_eq, bne_self_eq_false, beq_self_eq_true, stm, q0, q1, q2]
      have k5 : K0 w4 (w4.alloc (.cells #[.int .i64 P[i].1.1, .int .i64 P[i].1.2, .int .i64 P[i].2] 68)) := (K0.refl w4).alloc _
      generalize w4.alloc (.cells #[.int .i64 P[i].1.1, .int .i64 P[i].1.2, .int .i64 P[i].2] 68) = w5 at k5
      have c2'' := k5.cel c2' (by exact fun h => h)
      simp only [stp, Nat.reduceAdd, Int.reduceLT, Int.reduceLE, Int.reduceEq, Int.reduceNe, ne_eq, bne_self_eq_false, beq_self_eq_true, stm, c2'']
      refine mfit_c ?_
      by_cases hf : fitP P[i].2 md
      · rw [decide_eq_true (show isMd P[i].2 ∧ isMd md ∧ (P[i].2 = 0 ∨ md = 0 ∨ (P[i].2 = 1 ∧ md = 1)) from hf)]
        simp only [stp, Nat.reduceAdd, Int.reduceLT, Int.reduceLE, Int.reduceEq, Int.reduceNe, ne_eq, bne_self_eq_false, beq_self_eq_true]
        refine hJ2 _ ⟨k4.trans k5, fun p hp => ?_⟩
        rw [List.take_add_one, List.getElem?_eq_getElem hi, Option.toList_some, List.mem_append, List.mem_singleton] at hp
        rcases hp with hp | rfl
        · exact hfit p hp
        · exact hf
      · rw [decide_eq_false (show ¬ (isMd P[i].2 ∧ isMd md ∧ (P[i].2 = 0 ∨ md = 0 ∨ (P[i].2 = 1 ∧ md = 1))) from hf)]
        simp only [stp, Nat.reduceAdd, Int.reduceLT, Int.reduceLE, Int.reduceEq, Int.reduceNe, ne_eq, bne_self_eq_false, beq_self_eq_true]
        exact hq _ _ ⟨fun h => (by cases h), fun hall' => absurd (hall' o l ho1 hle hon e2 _ (by rw [hP]; exact List.getElem_mem hi)) hf⟩ (k1.trans (((k2.trans k3).trans k4).trans k5))
    · rintro w4 ⟨k4, hfit⟩ J2 _j
      have hn : ¬ ((P.length : Int) < (P.length : Int)) := by omega
      rw [List.take_length] at hfit
      simp only [stp, Nat.reduceAdd, Int.reduceLT, Int.reduceLE, Int.reduceEq, Int.reduceNe, ne_eq, bne_self_eq_false, beq_self_eq_true, hn]
      exact hJ1 _ ⟨(k2.trans k3).trans k4, fun _ => hfit⟩
  · rintro w3 ⟨k3, hp⟩ _j
    show J (.int .i64 (IntKind.i64.wrap ((o : Int) + 1))) w3
    refine hJ (17 - (o + 1)) _ _ ?_ ⟨o + 1, by omega, by omega, by rw [hwr], rfl, k3, fun o' l' q1 q2 q3 q4 => ?_⟩
    · omega
    rcases Nat.lt_succ_iff_lt_or_eq.1 q2 with q | rfl
    · exact hall o' l' q1 q q3 q4
    · have e2' : s.hs[o']? = some l := e2
      rw [e2'] at q4
      injection q4 with q4
      subst q4
      exact hp q3
end
end Go.Proofs.Ytiomanikpboclaa
