/- What a commit counts as, as the document counts. Conditions: as it says. -/
import Derived.Test.YtmmnifbponhhfaaGreatTHistQ
set_option linter.unusedSimpArgs false
set_option linter.unusedVariables false
namespace Go.Proofs.YtmmnifbponhhfaaGreatT
open Go.Sh Go.Sh.Hi
set_option maxRecDepth 100000
section
variable {w w' u u' : World} {Q : Value → World → Prop} {v x : Value} {B : Nat} {L : List Ev}
set_option maxHeartbeats 1000000 in
theorem dcount_c {k : Nat} (hr : Rd 6 w v L.length (flat encE L)) (hl : L.length ≤ 1000) (hk : k < L.length) (hq : ∀ w', K0 w w' → Q (.int .u64 (countF (L.take k) L[k])) w') :
    callS Tryz.prog 35 #[v, .int .i64 (k : Int)] Q w := by
  refine ref35 ?_
  unfold S35
  obtain ⟨g, o, c, rfl, _, hc⟩ := hr.at (by omega)
  obtain ⟨p0, p1, p2, p3, p4, p5⟩ := ev_at hc (List.getElem?_eq_getElem hk)
  have ixk : ∀ {k' : Value → Prop}, pur Tryz.prog (Instr.indexAt 44 (.slice (some ⟨g, o, none⟩) L.length c) (.int .i64 (k : Int))) k' = k' (.pointer (some ⟨g, o + k * 6, none⟩)) := fun {k'} => ix_44 hk
  generalize L[k] = y at p0 p1 p2 p3 p4 p5 hq
  simp only [ixk, fa_71_3]
  rw [rd_eq (rl_64 p3)]
  refine lp2 (fun m a b u => ∃ i : Nat, b = .int .i64 (i : Int) ∧ i ≤ k ∧ m = k - i ∧ a = .int .u64 (countF (L.take i) y) ∧ K0 w u) k ⟨0, rfl, Nat.zero_le _, rfl, by unfold countF; simp [maxL], K0.refl _⟩ ?_
  rintro m a b u ⟨i, rfl, hi, rfl, rfl, ku⟩ J hJ _j
  have kd : K0 u u.drew := (K0.refl u).drew
  have kw := ku.trans kd
  by_cases hik : i < k
  · have hik' : ((i : Int) < (k : Int)) := by omega
    have hil : i < L.length := by omega
    obtain ⟨q0, q1, q2, q3, q4, q5⟩ := ev_at hc (List.getElem?_eq_getElem hil)
    have ht : L.take (i + 1) = L.take i ++ [L[i]] := by rw [List.take_add_one, List.getElem?_eq_getElem hil]; rfl
    simp only [pur_lss, hik', decide_true, gd_hit, ixk, fa_71_3]
    simp only [rd_eq (rl_64 (ku.cel p3 id))]
    by_cases h0 : y.lsn = 0
    · simp only [pur_eql, h0, decide_true, pur_pick_t, condS_true]
      have hcs : countF (L.take (i + 1)) y = if same L[i] y = true then max (countF (L.take i) y) L[i].lsn else countF (L.take i) y := by
        unfold countF; rw [if_pos h0, if_pos h0, ht, maxL_snoc]
      refine jn1 (fun x u' => x = .int .u64 (countF (L.take (i + 1)) y) ∧ u' = u.drew) (fun J1 hJ1 => ?_) ?_
      · simp only [ix_44 hil, fa_71_1]
        rw [rd_eq (rl_3 (kw.cel q1 id)), rd_eq (rl_3 (kw.cel p1 id))]
        by_cases e1 : L[i].node = y.node
        · simp only [pur_eql, e1, decide_true, gd_hit, ix_44 hil, ixk, fa_71_2]
          rw [rd_eq (rl_64 (kw.cel q2 id)), rd_eq (rl_64 (kw.cel p2 id))]
          by_cases e2 : L[i].epoch = y.epoch
          · simp only [pur_eql, e2, decide_true, pur_pick_t, condS_true, ix_44 hil, fa_71_3]
            rw [rd_eq (rl_64 (kw.cel q3 id)), pur_max]
            exact hJ1 _ _ ⟨by rw [hcs, if_pos (same_iff.2 ⟨e1, e2⟩)], rfl⟩
          · simp only [pur_eql, e2, decide_false, pur_pick_t, condS_false]
            exact hJ1 _ _ ⟨by rw [hcs, if_neg fun h => e2 (same_iff.1 h).2], rfl⟩
        · simp only [pur_eql, e1, decide_false, gd_ft, gd_undef, pur_pick_f, condS_false]
          exact hJ1 _ _ ⟨by rw [hcs, if_neg fun h => e1 (same_iff.1 h).1], rfl⟩
      · rintro x u' ⟨rfl, rfl⟩ _j
        rw [pur_add, wrap_succ (i := i) (by omega)]
        exact hJ (k - (i + 1)) _ _ _ (by omega) ⟨i + 1, rfl, by omega, rfl, rfl, kw⟩
    · simp only [pur_eql, h0, decide_false, pur_pick_t, condS_false]
      have := hq _ ku
      rw [show countF (L.take k) y = countF (L.take i) y by unfold countF; rw [if_neg h0, if_neg h0]] at this
      exact this
  · have hik' : ¬ ((i : Int) < (k : Int)) := by omega
    have hie : i = k := by omega
    subst hie
    simp only [pur_lss, hik', decide_false, gd_ft, gd_undef, pur_pick_f, condS_false]
    exact hq _ ku
end
end Go.Proofs.YtmmnifbponhhfaaGreatT
