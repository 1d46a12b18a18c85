/- Ranges: lists joined; what SpanJoins computes: true. Conditions: as each says. -/
import Derived.Test.YtndjohbbaplekaaGreatPSpanC
import Derived.Test.YtndjohbbaplekaaGreatPSpanD
set_option linter.unusedSimpArgs false
set_option linter.unusedVariables false
namespace Go.Proofs.YtndjohbbaplekaaGreatP
open Go.Sh
set_option maxRecDepth 100000
section
variable {w : World} {Q : Value → World → Prop}

theorem grow_c {n : Nat} (hn : n ≤ 1000000) (hq : ∀ w' v', Own w' (siz w) 72 2 v' 0 [] → Keep (fun _ => False) w w' → Q v' w') :
    callS Tryz.prog 225 #[.slice none 0 0, .int .i64 (n : Int)] Q w := by
  refine ref225 ?_
  unfold S225
  have h0 : ¬ ((n : Int) < 0) := by omega
  simp only [stp, Nat.reduceAdd, Int.reduceLT, Int.reduceLE, Int.reduceEq, Int.reduceNe, ne_eq, bne_self_eq_false, beq_self_eq_true, stm, h0]
  refine jn0 (fun w' => w' = w) (fun J hJ => hJ w rfl) ?_
  rintro w' rfl _
  have z0 : ((0 : Nat) : Int) = 0 := rfl
  have e0 : IntKind.i64.wrap (0 - 0) = 0 := wrap_id (by omega) (by omega)
  have e1 : IntKind.i64.wrap ((n : Int) - 0) = (n : Int) := by rw [wrap_id (by omega) (by omega)]; omega
  refine jn1 (fun x w'' => Own w'' (siz w') 72 2 x 0 [] ∧ Keep (fun _ => False) w' w'') (fun J hJ => ?_) fun x w'' h _ => hq w'' x h.1 h.2
  simp only [stp, Nat.reduceAdd, Int.reduceLT, Int.reduceLE, Int.reduceEq, Int.reduceNe, ne_eq, bne_self_eq_false, beq_self_eq_true, stm, z0, e0, e1]
  by_cases hp : (0 : Int) < (n : Int)
  · simp only [stp, Nat.reduceAdd, Int.reduceLT, Int.reduceLE, Int.reduceEq, Int.reduceNe, ne_eq, bne_self_eq_false, beq_self_eq_true, stm, hp]
    refine apz_70 (by omega) (by omega) fun cap w2 o2 hc k2 => ?_
    rw [show (0 : Int) = ((0 : Nat) : Int) from rfl, slt_70 (Nat.zero_le _)]
    exact hJ _ _ ⟨o2, k2⟩
  · simp only [stp, Nat.reduceAdd, Int.reduceLT, Int.reduceLE, Int.reduceEq, Int.reduceNe, ne_eq, bne_self_eq_false, beq_self_eq_true, stm, hp]
    exact hJ _ _ ⟨Own.nil _ _ _ _, Keep.refl _ _⟩

theorem concat_c {vs va vb : Value} {a b : List Sp} (hs : Rd 1 w vs 2 [va, vb]) (ha : Rd 2 w va a.length (flat encS a)) (hb : Rd 2 w vb b.length (flat encS b)) (hl : a.length + b.length ≤ 400000)
    (hq : ∀ w' v', Own w' (siz w) 72 2 v' (a ++ b).length (flat encS (a ++ b)) → Keep (fun _ => False) w w' → Q v' w') :
    callS Tryz.prog 169 #[vs] Q w := by
  refine ref169 ?_
  unfold S169
  obtain ⟨g, o, c, rfl, _, hcel⟩ := hs.at (by omega)
  obtain ⟨pa, ca, rfl⟩ := ha.form
  obtain ⟨pb, cb, rfl⟩ := hb.form
  have c0 : cel w g (o + 0) = some (.slice pa a.length ca) := hcel 0 (by omega)
  have c1 : cel w g (o + 1) = some (.slice pb b.length cb) := hcel 1 (by omega)
  simp only [stp, Nat.reduceAdd, Int.reduceLT, Int.reduceLE, Int.reduceEq, Int.reduceNe, ne_eq, bne_self_eq_false, beq_self_eq_true]
  let tot : Nat → Nat := fun i => if i = 0 then 0 else if i = 1 then a.length else a.length + b.length
  refine lp2 (fun m x y w' => w' = w ∧ ∃ i : Nat, x = .int .i64 ((tot i : Nat) : Int) ∧ y = .int .i64 (i : Int) ∧ i ≤ 2 ∧ m = 2 - i) 2 ⟨rfl, 0, rfl, rfl, by omega, rfl⟩ ?_
  rintro m x y w' ⟨rfl, i, rfl, rfl, hi, rfl⟩ J hJ _
  have hwi := wrap_succ (i := i) (by omega)
  by_cases hlt : i < 2
  · have hlt' : ((i : Int) < ((2 : Nat) : Int)) := by omega
    simp only [stp, Nat.reduceAdd, Int.reduceLT, Int.reduceLE, Int.reduceEq, Int.reduceNe, ne_eq, bne_self_eq_false, beq_self_eq_true, hlt']
    refine jn1 (fun x w'' => w'' = w' ∧ x = .int .i64 ((tot (i + 1) : Nat) : Int)) (fun J' hJ' => ?_) ?_
    · rw [ix_38 hlt]
      have : i = 0 ∨ i = 1 := by omega
      rcases this with rfl | rfl
      · have e1 : IntKind.i64.wrap (((tot 0 : Nat) : Int) + (a.length : Int)) = ((tot 1 : Nat) : Int) := by
          have t0 : tot 0 = 0 := rfl
          have t1 : tot 1 = a.length := rfl
          have t2 : tot 2 = a.length + b.length := rfl
          rw [wrap_id (by omega) (by omega)]; omega
        have e2 : ¬ (((tot 1 : Nat) : Int) < 0) := by omega
        simp only [stp, Nat.reduceAdd, Int.reduceLT, Int.reduceLE, Int.reduceEq, Int.reduceNe, ne_eq, bne_self_eq_false, beq_self_eq_true, c0, Option.isSome_some, Option.getD_some, e1, e2]
        exact hJ' _ _ ⟨rfl, rfl⟩
      · have e1 : IntKind.i64.wrap (((tot 1 : Nat) : Int) + (b.length : Int)) = ((tot 2 : Nat) : Int) := by
          have t0 : tot 0 = 0 := rfl
          have t1 : tot 1 = a.length := rfl
          have t2 : tot 2 = a.length + b.length := rfl
          rw [wrap_id (by omega) (by omega)]; omega
        have e2 : ¬ (((tot 2 : Nat) : Int) < 0) := by omega
        simp only [stp, Nat.reduceAdd, Int.reduceLT, Int.reduceLE, Int.reduceEq, Int.reduceNe, ne_eq, bne_self_eq_false, beq_self_eq_true, c1, Option.isSome_some, Option.getD_some, e1, e2]
        exact hJ' _ _ ⟨rfl, rfl⟩
    · rintro x w'' ⟨rfl, rfl⟩ _
      simp only [stp, Nat.reduceAdd, Int.reduceLT, Int.reduceLE, Int.reduceEq, Int.reduceNe, ne_eq, bne_self_eq_false, beq_self_eq_true, hwi]
      exact hJ (2 - (i + 1)) _ _ _ (by omega) ⟨rfl, i + 1, rfl, rfl, by omega, rfl⟩
  · have hlt' : ¬ ((i : Int) < ((2 : Nat) : Int)) := by omega
    have hi2 : i = 2 := by omega
    subst hi2
    simp only [stp, Nat.reduceAdd, Int.reduceLT, Int.reduceLE, Int.reduceEq, Int.reduceNe, ne_eq, bne_self_eq_false, beq_self_eq_true, hlt']
    have et : tot 2 = a.length + b.length := rfl
    rw [et]
    refine grow_c (by omega) fun w1 v1 o1 k1 => ?_
    try simp only [stp, Nat.reduceAdd, Int.reduceLT, Int.reduceLE, Int.reduceEq, Int.reduceNe, ne_eq, bne_self_eq_false, beq_self_eq_true]
    have s1 := k1.size
    let acc : Nat → List Sp := fun i => if i = 0 then [] else if i = 1 then a else a ++ b
    refine lp2 (fun m x y w2 => Keep (fun _ => False) w' w2 ∧ ∃ i : Nat, y = .int .i64 (i : Int) ∧ i ≤ 2 ∧ m = 2 - i ∧ Own w2 (siz w') 72 2 x (acc i).length (flat encS (acc i))) 2 ⟨k1, 0, rfl, by omega, rfl, o1⟩ ?_
    rintro m x y w2 ⟨k2, i, rfl, hi, rfl, o2⟩ J' hJ' _
    have hwi := wrap_succ (i := i) (by omega)
    have s2 := k2.size
    by_cases hlt : i < 2
    · have hlt' : ((i : Int) < ((2 : Nat) : Int)) := by omega
      simp only [stp, Nat.reduceAdd, Int.reduceLT, Int.reduceLE, Int.reduceEq, Int.reduceNe, ne_eq, bne_self_eq_false, beq_self_eq_true, hlt']
      rw [ix_38 hlt]
      have app : ∀ {p : Option Addr} {cp : Nat} {l : List Sp}, Rd 2 w' (.slice p l.length cp) l.length (flat encS l) → acc (i + 1) = acc i ++ l → (acc i).length + l.length ≤ 400000 →
          act Tryz.prog (Builtin.append_ #[70, 70] 70 #[x, .slice p l.length cp]) (fun t33 w_7 => J' t33 (.int .i64 ((i + 1 : Nat) : Int)) w_7) w2 := fun {p cp l} hr he hb => by
        have hr2 := hr.keep0 k2
        have done : ∀ v' w3, Own w3 (siz w') 72 2 v' (acc (i + 1)).length (flat encS (acc (i + 1))) → Keep (fun _ => False) w' w3 → J' v' (.int .i64 ((i + 1 : Nat) : Int)) w3 := fun v' w3 ho hk =>
          hJ' (2 - (i + 1)) _ _ _ (by omega) ⟨hk, i + 1, rfl, by omega, rfl, ho⟩
        rcases Nat.eq_zero_or_pos l.length with h0 | hp
        · have hl0 := List.length_eq_zero_iff.1 h0
          rw [h0, ap0_70 o2]
          refine done _ _ ?_ k2
          rw [he, hl0, List.append_nil]; exact o2
        · obtain ⟨b', o', c', e, _, hc'⟩ := hr2.at hp
          injection e with e1 _ e2
          subst e1 e2
          refine ap_70 o2 hr2.len hc' flatS_one (by omega) (by omega) fun v' w3 ho hg hr => done _ _ ?_ (k2.grown hg fun g hg' => .inr (o2.lt hg').1)
          rw [he, flat_append, List.length_append]; exact ho
      have : i = 0 ∨ i = 1 := by omega
      rcases this with rfl | rfl
      · simp only [stp, Nat.reduceAdd, Int.reduceLT, Int.reduceLE, Int.reduceEq, Int.reduceNe, ne_eq, bne_self_eq_false, beq_self_eq_true, k2.cel c0 id, Option.isSome_some, Option.getD_some, hwi]
        exact app ha rfl (by simp [acc]; omega)
      · simp only [stp, Nat.reduceAdd, Int.reduceLT, Int.reduceLE, Int.reduceEq, Int.reduceNe, ne_eq, bne_self_eq_false, beq_self_eq_true, k2.cel c1 id, Option.isSome_some, Option.getD_some, hwi]
        exact app hb rfl (by simp [acc]; omega)
    · have hlt' : ¬ ((i : Int) < ((2 : Nat) : Int)) := by omega
      have hi2 : i = 2 := by omega
      subst hi2
      simp only [stp, Nat.reduceAdd, Int.reduceLT, Int.reduceLE, Int.reduceEq, Int.reduceNe, ne_eq, bne_self_eq_false, beq_self_eq_true, hlt']
      exact hq _ _ o2 k2

theorem join_c {va vb : Value} {a b : List Sp} (ha : Rd 2 w va a.length (flat encS a)) (hb : Rd 2 w vb b.length (flat encS b)) (hl : a.length + b.length ≤ 400000)
    (hq : ∀ w' v' out, Nrm out → (∀ y, memB out y ↔ memB a y ∨ memB b y) → out.length ≤ a.length + b.length → Own w' (siz w) 72 2 v' out.length (flat encS out) → Keep (fun _ => False) w w' → Q v' w') :
    callS Tryz.prog 34 #[va, vb] Q w := by
  refine ref34 ?_
  unfold S34
  obtain ⟨pa, ca, rfl⟩ := ha.form
  obtain ⟨pb, cb, rfl⟩ := hb.form
  simp only [stp, Nat.reduceAdd, Int.reduceLT, Int.reduceLE, Int.reduceEq, Int.reduceNe, ne_eq, bne_self_eq_false, beq_self_eq_true, stm]
  have k1 := (Keep.refl (fun _ => False) w).alloc (.cells #[.slice pa a.length ca, .slice pb b.length cb] 70)
  have r1 : Rd 1 (w.alloc (.cells #[.slice pa a.length ca, .slice pb b.length cb] 70)) (.slice (some ⟨siz w, 0, none⟩) 2 2) 2 [.slice pa a.length ca, .slice pb b.length cb] :=
    ⟨rfl, .inr ⟨siz w, 0, 2, rfl, by omega, fun j hj => by rw [Nat.zero_add, cel_alloc_new, List.getElem?_toArray]⟩⟩
  generalize w.alloc (.cells #[.slice pa a.length ca, .slice pb b.length cb] 70) = w1 at k1 r1
  have s1 := k1.size
  refine concat_c r1 (ha.keep0 k1) (hb.keep0 k1) hl fun w2 v2 o2 k2 => ?_
  have s2 := k2.size
  have hab : (a ++ b).length = a.length + b.length := List.length_append
  refine norm_c o2.rd (by omega) fun w3 v3 O hn hlO o3 k3 => ?_
  have := List.length_filter_le (fun s => decide (ok s)) (a ++ b)
  exact hq _ _ O hn.1 (fun y => by rw [hn.2, memB_append]) (by omega) (o3.le (by omega)) ((k1.trans k2).trans k3)

end
end Go.Proofs.YtndjohbbaplekaaGreatP
