/- The book of lists, one kind: lists with room behind them, in which a mark stands. Conditions: as each says. -/
import Derived.Test.YtmmnifbponhhfaaGreatTBookKNums
set_option linter.unusedSimpArgs false
set_option linter.unusedVariables false
namespace Go.Proofs.YtmmnifbponhhfaaGreatT.BkNums
open Go.Sh Go.Proofs.YtmmnifbponhhfaaGreatT
set_option maxRecDepth 100000
section
variable {w w' : World} {Q : Value → World → Prop} {B : Nat}
def mkX : Int := 77
/-- A list with a mark behind it. -/
def Lent (w : World) (B : Nat) (v : Value) (l : List Int) : Prop := ∃ g c, v = .slice (some ⟨g, 0, none⟩) l.length c ∧ l.length + 1 ≤ c ∧ Own w B 64 1 (.slice (some ⟨g, 0, none⟩) (l.length + 1) c) (l.length + 1) (flat enc (l ++ [mkX]))
theorem Lent.keepB {v : Value} {l : List Int} (h : Lent w B v l) (k : Keep (fun g => siz w ≤ g) w w') : Lent w' B v l := by
  obtain ⟨g, c, e, hc, o⟩ := h
  exact ⟨g, c, e, hc, o.keep k fun q hq hs => by have := (o.lt hq).2; omega⟩
theorem Lent.keep0 {v : Value} {l : List Int} (h : Lent w B v l) (k : K0 w w') : Lent w' B v l := h.keepB k.none
theorem Lent.keepF {F : Nat → Prop} {v : Value} {l : List Int} (h : Lent w B v l) (k : Keep F w w') (hF : ∀ g, B ≤ g → g < siz w → ¬ F g) : Lent w' B v l := by
  obtain ⟨g, c, e, hc, o⟩ := h
  exact ⟨g, c, e, hc, o.keep k fun q hq hs => hF q (o.lt hq).1 (o.lt hq).2 hs⟩
theorem Lent.ko {A : Nat} {p : Obj → Bool} {v : Value} {l : List Int} (h : Lent w B v l) (k : KO A p w w') (hp : ∀ cs, p (.cells cs 64) = false) : Lent w' B v l := by
  obtain ⟨g, c, e, hc, o⟩ := h
  exact ⟨g, c, e, hc, k.own o hp⟩
theorem Lent.rd {v : Value} {l : List Int} (h : Lent w B v l) : Rd 1 w v l.length (flat enc l) := by
  obtain ⟨g, c, rfl, hc, o⟩ := h
  have := (o.cutZ (m := l.length) (by omega)).rd
  rw [flat_take enc_len, List.take_append_of_le_length (Nat.le_refl _), List.take_length] at this
  exact this
theorem Lent.form {v : Value} {l : List Int} (h : Lent w B v l) : ∃ g c, v = .slice (some ⟨g, 0, none⟩) l.length c := by
  obtain ⟨g, c, e, _⟩ := h; exact ⟨g, c, e⟩
theorem lent_c {v : Value} {l : List Int} (h : Rd 1 w v l.length (flat enc l)) (hl : l.length ≤ 100000) (hq : ∀ w' v', Lent w' (siz w) v' l → K0 w w' → Q v' w') :
    callS Tryz.prog 7 #[v] Q w := by
  refine ref7 ?_
  unfold S7
  have hn := Own.nil w (siz w) 64 1
  have step : ∀ {K : Value → World → Prop}, (∀ w' v', Own w' (siz w) 64 1 v' l.length (flat enc l) → K0 w w' → K v' w') → act Tryz.prog (Builtin.append_ #[23, 23] 23 #[.slice none 0 0, v]) K w := fun {K} hK => by
    by_cases h0 : l.length = 0
    · obtain ⟨pa, ca, rfl⟩ := h.form
      have e : l = [] := List.length_eq_zero_iff.1 h0
      subst e
      rw [show ([] : List Int).length = 0 from rfl, ap0_23 hn]
      exact hK _ _ hn (K0.refl _)
    · obtain ⟨g, o, c, rfl, _, hc⟩ := h.at (by omega)
      refine ap_23 hn (b := g) (o := o) (m := l.length) (news := flat enc l) h.len hc flat_ones (by omega) (Nat.le_refl _) fun v' w' ho hg hr => hK _ _ (by rw [Nat.zero_add] at ho; exact ho) ?_
      exact (grown_keep hg).mono fun q _ e => by cases e
  refine step fun w1 v1 o1 k1 => ?_
  have s1 := k1.size
  try simp only [stp, Nat.reduceAdd, Int.reduceLT, Int.reduceLE, Int.reduceEq, Int.reduceNe, ne_eq, bne_self_eq_false, beq_self_eq_true, stm]
  refine pu_23 o1 (enc_one mkX) (by omega) (by omega) fun v2 w2 o2 k2 r2 => ?_
  obtain ⟨pa, ca, rfl⟩ := h.form
  have o3 : Own w2 (siz w) 64 1 v2 (l.length + 1) (flat enc (l ++ [mkX])) := by rw [flat_append, flat_one]; exact o2
  obtain ⟨g, c, rfl, _, _, hc1, _⟩ := o3.at (by omega)
  have hle : l.length ≤ c := by omega
  simp only [stp, Nat.reduceAdd, Int.reduceLT, Int.reduceLE, Int.reduceEq, Int.reduceNe, ne_eq, bne_self_eq_false, beq_self_eq_true, stm, slt_23 hle]
  exact hq _ _ ⟨g, c, rfl, by omega, o3⟩ (k1.trans' k2 fun q hq e => by have := (o1.lt e).1; omega)
theorem stays_c {v vw : Value} {l : List Int} (h : Lent w B v l) (hw : Rd 1 w vw l.length (flat enc l)) (hl : l.length ≤ 100000) (hq : ∀ w', K0 w w' → Q (.bool true) w') :
    callS Tryz.prog 16 #[v, vw] Q w := by
  refine ref16 ?_
  unfold S16
  refine same_c (a := l) (b := l) h.rd hw (by omega) fun w1 k1 => ?_
  obtain ⟨g, c, rfl, hcc, o⟩ := h.keep0 k1
  obtain ⟨g', c', e, _, _, _, _, hf, hcel⟩ := o.at (by omega)
  injection e with e1 _ e2
  injection e1 with e1
  injection e1 with e1
  subst e1 e2
  have hc : ∀ j, j < (l ++ [mkX]).length * 1 → Sh.cel w1 g (0 + j) = (flat enc (l ++ [mkX]))[j]? := fun j hj => by rw [Nat.zero_add]; exact hcel j (by simpa using hj)
  have hl : (l ++ [mkX])[l.length]? = some mkX := by simp
  have key := (cells_at hc hl)
  have hwl := wrap_succ (i := l.length) (by omega)
  have hlt : l.length < l.length + 1 := Nat.lt_succ_self _
  rw [Nat.zero_add] at key
  unfold mkX at key
  simp only [stp, Nat.reduceAdd, Int.reduceLT, Int.reduceLE, Int.reduceEq, Int.reduceNe, ne_eq, bne_self_eq_false, beq_self_eq_true, stm, decide_true, hwl, slt_23 hcc, ix_23 hlt, key, Option.isSome_some, Option.getD_some]
  exact hq _ k1
end
end Go.Proofs.YtmmnifbponhhfaaGreatT.BkNums
