/- Rows of one kind: one put behind another, cut in two. Conditions: as each says. -/
import Derived.Test.YtmmnifbponhhfaaGreatTHistP
import Derived.Test.YtmmnifbponhhfaaGreatTKeep
set_option linter.unusedSimpArgs false
set_option linter.unusedVariables false
namespace Go.Proofs.YtmmnifbponhhfaaGreatT.RowI
open Go.Sh Go.Proofs.YtmmnifbponhhfaaGreatT
set_option maxRecDepth 100000
section
variable {w w' : World} {B : Nat} {v vo : Value} {l L : List Hi.Im} {K : Value → World → Prop}
theorem app0 (h : Rd 3 w v l.length (flat encM l)) (hl : l.length ≤ 100000) (hK : ∀ w' v', Own w' (siz w) 69 3 v' l.length (flat encM l) → K0 w w' → K v' w') :
    act Tryz.prog (Builtin.append_ #[53, 53] 53 #[.slice none 0 0, v]) K w := by
  have hn := Own.nil w (siz w) 69 3
  by_cases h0 : l.length = 0
  · obtain ⟨pa, ca, rfl⟩ := h.form
    have e : l = [] := List.length_eq_zero_iff.1 h0
    subst e
    rw [show ([] : List Hi.Im).length = 0 from rfl, ap0_53 hn]
    exact hK _ _ hn (K0.refl _)
  · obtain ⟨g, o, c, rfl, _, hc⟩ := h.at (by omega)
    refine ap_53 hn (b := g) (o := o) (m := l.length) (news := flat encM l) h.len hc encM_ones (by omega) (Nat.le_refl _) fun v' w' ho hg hr => hK _ _ (by rw [Nat.zero_add] at ho; exact ho) ?_
    exact (grown_keep hg).mono fun q _ e => by cases e
theorem app1 (ho : Own w B 69 3 vo L.length (flat encM L)) (hB : B ≤ siz w) (h : Rd 3 w v l.length (flat encM l)) (hl : L.length + l.length ≤ 100000)
    (hK : ∀ w' v', Own w' B 69 3 v' (L ++ l).length (flat encM (L ++ l)) → Keep (fun g => vo.ownBlock = some g) w w' → K v' w') :
    act Tryz.prog (Builtin.append_ #[53, 53] 53 #[vo, v]) K w := by
  by_cases h0 : l.length = 0
  · obtain ⟨pa, ca, rfl⟩ := h.form
    have e : l = [] := List.length_eq_zero_iff.1 h0
    subst e
    rw [show ([] : List Hi.Im).length = 0 from rfl, ap0_53 ho]
    exact hK _ _ (by rw [List.append_nil]; exact ho) (Keep.refl _ _)
  · obtain ⟨g, o, c, rfl, _, hc⟩ := h.at (by omega)
    refine ap_53 ho (b := g) (o := o) (m := l.length) (news := flat encM l) h.len hc encM_ones (by omega) hB fun v' w' ho hg hr => hK _ _ (by rw [List.length_append, flat_append]; exact ho) (grown_keep hg)
/-- A row behind a new row. -/
theorem app2 {w0 : World} (ho : Own w (siz w0) 69 3 vo L.length (flat encM L)) (k0 : K0 w0 w) (h : Rd 3 w v l.length (flat encM l)) (hl : L.length + l.length ≤ 100000)
    (hK : ∀ w' v', Own w' (siz w0) 69 3 v' (L ++ l).length (flat encM (L ++ l)) → K0 w0 w' → K v' w') :
    act Tryz.prog (Builtin.append_ #[53, 53] 53 #[vo, v]) K w :=
  app1 ho k0.size h hl fun w' v' o k => hK w' v' o (k0.trans' k fun g hg e => by have := (ho.lt e).1; omega)
theorem cut {k : Nat} (ho : Own w B 69 3 v l.length (flat encM l)) (hk : k ≤ l.length) :
    ∃ p1 c1 p2 c2, (∀ {k' : Value → Prop}, pur Tryz.prog (Instr.sliceAt 53 v none (some (.int .i64 (k : Int))) none) k' = k' (.slice p1 k c1)) ∧
      (∀ {k' : Value → Prop}, pur Tryz.prog (Instr.sliceAt 53 v (some (.int .i64 (k : Int))) none none) k' = k' (.slice p2 (l.length - k) c2)) ∧
      Rd 3 w (.slice p1 k c1) k (flat encM (l.take k)) ∧ Rd 3 w (.slice p2 (l.length - k) c2) (l.length - k) (flat encM (l.drop k)) := by
  rcases Nat.eq_zero_or_pos l.length with h0 | hp
  · have hC0 := List.length_eq_zero_iff.1 h0
    have hk0 : k = 0 := by omega
    subst hk0
    rcases ho.2 with ⟨e, _⟩ | ⟨g, cap, cur, e, _, _, hcap, _⟩
    · subst e
      refine ⟨none, 0, none, 0, fun {k'} => slt0_53, fun {k'} => ?_, by rw [hC0]; exact Rd.nil _ _, by rw [hC0]; exact Rd.nil _ _⟩
      rw [h0]; exact slf0_53
    · subst e
      refine ⟨_, _, _, _, fun {k'} => slt_53 (by omega), fun {k'} => slf_53 (by omega) (by omega), ?_, ?_⟩
      · rw [hC0]; exact ⟨rfl, .inl ⟨rfl, _, _, rfl⟩⟩
      · rw [hC0]; exact ⟨rfl, .inl ⟨rfl, _, _, rfl⟩⟩
  · obtain ⟨g, cg, e, _, _, hcn, _, _, hcel⟩ := ho.at hp
    subst e
    refine ⟨_, _, _, _, fun {k'} => slt_53 (by omega), fun {k'} => slf_53 hk hcn, ?_, ?_⟩
    · rw [← flat_take encM_len]
      refine ⟨by rw [List.length_take, flat_len encM_len]; exact Nat.min_eq_left (Nat.mul_le_mul_right _ hk), ?_⟩
      refine .inr ⟨g, 0, _, rfl, by omega, fun j hj => ?_⟩
      have := Nat.mul_le_mul_right 3 hk
      rw [Nat.zero_add, hcel _ (by omega), List.getElem?_take, if_pos hj]
    · rw [← flat_drop encM_len]
      have hcel0 : ∀ j, j < l.length * 3 → cel w g (0 + j) = (flat encM l)[j]? := fun j hj => by rw [Nat.zero_add]; exact hcel j hj
      split
      · refine Rd.from (flat_len encM_len _) hcel0 hk hcn fun h => by omega
      · refine Rd.from (flat_len encM_len _) hcel0 hk hcn fun h => rfl
end
end Go.Proofs.YtmmnifbponhhfaaGreatT.RowI
