/- The document's answers over ranges: norm, minus, both, how many blocks. Conditions: as each says. -/
import Derived.Test.YtndjohbbaplekaaGreatPRefW
import Derived.Test.YtndjohbbaplekaaGreatPSpanH
set_option linter.unusedSimpArgs false
set_option linter.unusedVariables false
namespace Go.Proofs.YtndjohbbaplekaaGreatP
open Go.Sh
set_option maxRecDepth 100000
section
variable {w : World} {Q : Value → World → Prop} {B : Nat} {v : Value}
/-- A map whose only value is 1, at these blocks. -/
def Ones (l : List (Pt Int)) (P : Int → Prop) : Prop := ∀ x, (valB l x = some 1 ↔ P x) ∧ ∀ u, valB l x = some u → u = 1
theorem Ones.nil {P : Int → Prop} (h : ∀ x, ¬ P x) : Ones [] P := fun x => ⟨⟨fun e => (by cases e), fun e => absurd e (h x)⟩, fun u e => by cases e⟩
theorem Ones.set {l l' : List (Pt Int)} {P P' : Int → Prop} {s : Sp} (h : Ones l P) (hv : ∀ x, valB l' x = if hasB s x then some 1 else valB l x) (hP : ∀ x, P' x ↔ P x ∨ hasB s x) : Ones l' P' := fun x => by
  rw [hv, hP]
  by_cases hx : hasB s x
  · rw [if_pos hx]; exact ⟨⟨fun _ => .inr hx, fun _ => rfl⟩, fun u e => by injection e with e; exact e.symm⟩
  · rw [if_neg hx]; exact ⟨⟨fun e => .inl ((h x).1.1 e), fun e => e.elim (h x).1.2 fun e => absurd e hx⟩, (h x).2⟩
theorem Ones.clear {l l' : List (Pt Int)} {P P' : Int → Prop} {s : Sp} (h : Ones l P) (hv : ∀ x, valB l' x = if hasB s x then none else valB l x) (hP : ∀ x, P' x ↔ P x ∧ ¬ hasB s x) : Ones l' P' := fun x => by
  rw [hv, hP]
  by_cases hx : hasB s x
  · rw [if_pos hx]; exact ⟨⟨fun e => (by cases e), fun e => absurd hx e.2⟩, fun u e => by cases e⟩
  · rw [if_neg hx]; exact ⟨⟨fun e => ⟨(h x).1.1 e, hx⟩, fun e => (h x).1.2 e.1⟩, (h x).2⟩
theorem Ones.with {l : List (Pt Int)} {P : Int → Prop} (h : Ones l P) (hc : Canon l) : Nrm (withL 1 l) ∧ ∀ x, memB (withL 1 l) x ↔ P x := ⟨withL_nrm hc, fun x => by rw [withL_mem hc.apart]; exact (h x).1⟩
theorem memB_take {l : List Sp} {i : Nat} (hi : i < l.length) (x : Int) : memB (l.take (i + 1)) x ↔ memB (l.take i) x ∨ hasB l[i] x := by
  rw [List.take_add_one, List.getElem?_eq_getElem hi, Option.toList_some, memB_append]
  simp [memB]
theorem span_at {l : List Sp} {i : Nat} (h : Rd 2 w v l.length (flat encS l)) (hi : i < l.length) : ∃ g o c, v = .slice (some ⟨g, o, none⟩) l.length c ∧
    Sh.cel w g (o + i * 2) = some (.int .i64 l[i].1) ∧ Sh.cel w g (o + i * 2 + 1) = some (.int .i64 l[i].2) := by
  obtain ⟨g, o, c, e, _, hc⟩ := h.at (by omega)
  obtain ⟨q0, q1⟩ := spans_at hc (List.getElem?_eq_getElem hi)
  exact ⟨g, o, c, e, q0, q1⟩
theorem rsnorm_c {l : List Sp} (h : Rd 2 w v l.length (flat encS l)) (hl : l.length ≤ 1000)
    (hq : ∀ w' v' N, IsNorm l N → N.length ≤ 2 * l.length → Own w' (siz w) 72 2 v' N.length (flat encS N) → K0 w w' → Q v' w') :
    callS Tryz.prog 32 #[v] Q w := by
  refine ref32 ?_
  unfold S32
  obtain ⟨pa, ca, rfl⟩ := h.form
  refine lpc2 l.length (by omega) (fun i y w' => K0 w w' ∧ ∃ lm, RM w' (siz w) y lm ∧ Canon lm ∧ Ones lm (memB (l.take i)) ∧ ChN lm (2 * i))
    ⟨K0.refl _, [], Own.nil _ _ _ _, Canon.nil, Ones.nil fun x => by simp [memB], ChN.nil⟩ (fun i y w1 hi ⟨k1, lm, o1, c1, h1, n1⟩ J hJ => ?_) (fun y w1 ⟨k1, lm, o1, c1, h1, n1⟩ J => ?_)
  · intro _j
    have hi' : ((i : Int) < (l.length : Int)) := by omega
    have hlm := n1.len c1
    obtain ⟨g, o, c, e, q0, q1⟩ := span_at (h.keep0 k1) hi
    injection e with e1 _ e2
    subst e1 e2
    have s1 := k1.size
    simp only [stp, Nat.reduceAdd, Int.reduceLT, Int.reduceLE, Int.reduceEq, Int.reduceNe, ne_eq, bne_self_eq_false, beq_self_eq_true, stm, hi', ix_70 hi, q0, q1, cel_drew, Option.isSome_some, Option.getD_some]
    refine rset_c o1 s1 c1 (by omega) fun w2 v2 l2 o2 c2 hv2 k2 => ?_
    exact hJ _ _ ⟨k1.trans k2, l2, o2, c2, h1.set hv2 (memB_take hi), n1.upd (g := fun _ => some 1) hv2⟩
  · intro _j
    have hi' : ¬ ((l.length : Int) < (l.length : Int)) := by omega
    have hlm := n1.len c1
    have s1 := k1.size
    rw [List.take_length] at h1
    simp only [stp, Nat.reduceAdd, Int.reduceLT, Int.reduceLE, Int.reduceEq, Int.reduceNe, ne_eq, bne_self_eq_false, beq_self_eq_true, stm, hi']
    refine rwith_c o1 (by omega) fun w2 v2 o2 k2 => ?_
    exact hq _ _ _ (h1.with c1) (Nat.le_trans (withL_len _ _) hlm) (o2.le s1) (k1.trans k2)
theorem rminus_c {va vb : Value} {a b : List Sp} (ha : Rd 2 w va a.length (flat encS a)) (hb : Rd 2 w vb b.length (flat encS b)) (hl : a.length + b.length ≤ 2000)
    (hq : ∀ w' v' out, Nrm out → (∀ y, memB out y ↔ memB a y ∧ ¬ memB b y) → out.length ≤ 2 * (a.length + b.length) → Own w' (siz w) 72 2 v' out.length (flat encS out) → K0 w w' → Q v' w') :
    callS Tryz.prog 39 #[va, vb] Q w := by
  refine ref39 ?_
  unfold S39
  obtain ⟨pa, ca, rfl⟩ := ha.form
  obtain ⟨pb, cb, rfl⟩ := hb.form
  refine lpc2 a.length (by omega) (fun i y w' => K0 w w' ∧ ∃ lm, RM w' (siz w) y lm ∧ Canon lm ∧ Ones lm (memB (a.take i)) ∧ ChN lm (2 * i))
    ⟨K0.refl _, [], Own.nil _ _ _ _, Canon.nil, Ones.nil fun x => by simp [memB], ChN.nil⟩ (fun i y w1 hi ⟨k1, lm, o1, c1, h1, n1⟩ J hJ => ?_) (fun y w1 ⟨k1, lm, o1, c1, h1, n1⟩ J => ?_)
  · intro _j
    have hi' : ((i : Int) < (a.length : Int)) := by omega
    have hlm := n1.len c1
    obtain ⟨g, o, c, e, q0, q1⟩ := span_at (ha.keep0 k1) hi
    injection e with e1 _ e2
    subst e1 e2
    have s1 := k1.size
    simp only [stp, Nat.reduceAdd, Int.reduceLT, Int.reduceLE, Int.reduceEq, Int.reduceNe, ne_eq, bne_self_eq_false, beq_self_eq_true, stm, hi', ix_70 hi, q0, q1, cel_drew, Option.isSome_some, Option.getD_some]
    refine rset_c o1 s1 c1 (by omega) fun w2 v2 l2 o2 c2 hv2 k2 => ?_
    exact hJ _ _ ⟨k1.trans k2, l2, o2, c2, h1.set hv2 (memB_take hi), n1.upd (g := fun _ => some 1) hv2⟩
  · intro _j
    have hi' : ¬ ((a.length : Int) < (a.length : Int)) := by omega
    rw [List.take_length] at h1
    simp only [stp, Nat.reduceAdd, Int.reduceLT, Int.reduceLE, Int.reduceEq, Int.reduceNe, ne_eq, bne_self_eq_false, beq_self_eq_true, stm, hi']
    refine lpc2 b.length (by omega) (fun i y w' => K0 w w' ∧ ∃ lm, RM w' (siz w) y lm ∧ Canon lm ∧ Ones lm (fun x => memB a x ∧ ¬ memB (b.take i) x) ∧ ChN lm (2 * (a.length + i)))
      ⟨k1, lm, o1, c1, fun x => ⟨⟨fun e => ⟨(h1 x).1.1 e, by simp [memB]⟩, fun e => (h1 x).1.2 e.1⟩, (h1 x).2⟩, n1⟩ (fun i y w2 hi ⟨k2, lm2, o2, c2, h2, n2⟩ J' hJ' => ?_) (fun y w2 ⟨k2, lm2, o2, c2, h2, n2⟩ J' => ?_)
    · intro _j
      have hi' : ((i : Int) < (b.length : Int)) := by omega
      have hlm := n2.len c2
      obtain ⟨g, o, c, e, q0, q1⟩ := span_at (hb.keep0 k2) hi
      injection e with e1 _ e2
      subst e1 e2
      have s2 := k2.size
      simp only [stp, Nat.reduceAdd, Int.reduceLT, Int.reduceLE, Int.reduceEq, Int.reduceNe, ne_eq, bne_self_eq_false, beq_self_eq_true, stm, hi', ix_70 hi, q0, q1, cel_drew, Option.isSome_some, Option.getD_some]
      refine rclear_c o2 s2 c2 (by omega) fun w3 v3 l3 o3 c3 hv3 _ k3 => ?_
      refine hJ' _ _ ⟨k2.trans k3, l3, o3, c3, h2.clear hv3 fun x => ?_, (n2.upd (g := fun _ => none) hv3).mono (by omega)⟩
      rw [memB_take hi, not_or, and_assoc]
    · intro _j
      have hi' : ¬ ((b.length : Int) < (b.length : Int)) := by omega
      have hlm := n2.len c2
      have s2 := k2.size
      rw [List.take_length] at h2
      simp only [stp, Nat.reduceAdd, Int.reduceLT, Int.reduceLE, Int.reduceEq, Int.reduceNe, ne_eq, bne_self_eq_false, beq_self_eq_true, stm, hi']
      refine rwith_c o2 (by omega) fun w3 v3 o3 k3 => ?_
      exact hq _ _ _ (h2.with c2).1 (h2.with c2).2 (Nat.le_trans (withL_len _ _) hlm) (o3.le s2) (k2.trans k3)
theorem rboth_c {va vb : Value} {a b : List Sp} (ha : Rd 2 w va a.length (flat encS a)) (hb : Rd 2 w vb b.length (flat encS b)) (hl : a.length + b.length ≤ 200)
    (hq : ∀ w' v' out, Nrm out → (∀ y, memB out y ↔ memB a y ∧ memB b y) → out.length ≤ 2000 → Own w' (siz w) 72 2 v' out.length (flat encS out) → K0 w w' → Q v' w') :
    callS Tryz.prog 40 #[va, vb] Q w := by
  refine ref40 ?_
  unfold S40
  refine rminus_c ha hb (by omega) fun w1 v1 o1 n1 m1 l1 ow1 k1 => ?_
  refine rminus_c (ha.keep0 k1) ow1.rd (by omega) fun w2 v2 o2 n2 m2 l2 ow2 k2 => ?_
  refine hq _ _ _ n2 (fun y => ?_) (by omega) (ow2.le k1.size) (k1.trans k2)
  rw [m2, m1]
  constructor
  · rintro ⟨h1, h2⟩
    exact ⟨h1, Classical.byContradiction fun hn => h2 ⟨h1, hn⟩⟩
  · rintro ⟨h1, h2⟩
    exact ⟨h1, fun e => e.2 h2⟩
theorem sumS_app : ∀ a b : List Sp, sumS (a ++ b) = sumS a + sumS b := fun a b => by
  induction a with
  | nil => simp [sumS]
  | cons t a ih => rw [List.cons_append, sumS, ih, sumS]; omega
theorem sumS_take {N : List Sp} (hn : Nrm N) (i : Nat) : 0 ≤ sumS (N.take i) ∧ sumS (N.take i) ≤ sumS N := by
  have h2 := sumS_app (N.take i) (N.drop i)
  rw [List.take_append_drop] at h2
  have h3 := sumS_nonneg (l := N.drop i) fun s hs => hn.1 s (List.mem_of_mem_drop hs)
  have h4 := sumS_nonneg (l := N.take i) fun s hs => hn.1 s (List.mem_of_mem_take hs)
  omega
theorem rblocks_c {N : List Sp} {most : Int} (h : Rd 2 w v N.length (flat encS N)) (hn : Nrm N) (hl : N.length ≤ 1000) (he : ∀ s ∈ N, s.2 ≤ 9223372036854775807) (h0 : 0 ≤ most) (h1 : most ≤ 3000)
    (hq : ∀ w' r, (r ≤ most ↔ sumS N ≤ most) → K0 w w' → Q (.int .i64 r) w') :
    callS Tryz.prog 44 #[.int .i64 most, v] Q w := by
  refine ref44 ?_
  unfold S44
  obtain ⟨pa, ca, rfl⟩ := h.form
  refine lpc2 N.length (by omega) (fun i y w' => K0 w w' ∧ y = .int .i64 (sumS (N.take i)) ∧ sumS (N.take i) ≤ most) ⟨K0.refl _, by simp [sumS], by simp [sumS]; exact h0⟩ (fun i y w1 hi ⟨k1, hy, hs⟩ J hJ => ?_) (fun y w1 ⟨k1, hy, hs⟩ J => ?_)
  · intro _j
    subst hy
    have hi' : ((i : Int) < (N.length : Int)) := by omega
    have hok := hn.1 _ (List.getElem_mem hi)
    have hen := he _ (List.getElem_mem hi)
    have ho1 := hok.1
    have ho2 := hok.2
    obtain ⟨g, o, c, e, q0, q1⟩ := span_at (h.keep0 k1) hi
    injection e with e1 _ e2
    subst e1 e2
    have hst := sumS_take hn i
    have hst1 := sumS_take hn (i + 1)
    have hS : sumS (N.take (i + 1)) = sumS (N.take i) + (N[i].2 - N[i].1) := by rw [List.take_add_one, List.getElem?_eq_getElem hi, Option.toList_some, sumS_snoc]
    have kd := (K0.refl w1).drew
    have e1 : IntKind.i64.wrap (N[i].2 - N[i].1) = N[i].2 - N[i].1 := wrap_id (by omega) (by omega)
    have e2 : IntKind.i64.wrap (most - sumS (N.take i)) = most - sumS (N.take i) := wrap_id (by omega) (by omega)
    have e3 : IntKind.i64.wrap (most + 1) = most + 1 := wrap_id (by omega) (by omega)
    by_cases hgt : most - sumS (N.take i) < N[i].2 - N[i].1
    · simp only [stp, Nat.reduceAdd, Int.reduceLT, Int.reduceLE, Int.reduceEq, Int.reduceNe, ne_eq, bne_self_eq_false, beq_self_eq_true, stm, hi', ix_70 hi, q0, q1, cel_drew, e1, e2, e3, hgt, Option.isSome_some, Option.getD_some]
      refine hq _ _ ⟨fun e => by omega, fun e => by omega⟩ (k1.trans kd)
    · have e4 : IntKind.i64.wrap (IntKind.i64.wrap (sumS (N.take i) + N[i].2) - N[i].1) = sumS (N.take (i + 1)) := by
        rw [hS]
        have e3 : IntKind.i64.wrap (IntKind.i64.wrap (sumS (N.take i) + N[i].2) - N[i].1) = IntKind.i64.wrap (sumS (N.take i) + (N[i].2 - N[i].1)) := by
          simp only [IntKind.wrap, IntKind.bits, IntKind.signed]
          simp
          omega
        rw [e3, wrap_id (by omega) (by omega)]
      simp only [stp, Nat.reduceAdd, Int.reduceLT, Int.reduceLE, Int.reduceEq, Int.reduceNe, ne_eq, bne_self_eq_false, beq_self_eq_true, stm, hi', ix_70 hi, q0, q1, cel_drew, e1, e2, e4, hgt, Option.isSome_some, Option.getD_some]
      exact hJ _ _ ⟨k1.trans kd.drew, rfl, by omega⟩
  · intro _j
    subst hy
    have hi' : ¬ ((N.length : Int) < (N.length : Int)) := by omega
    rw [List.take_length] at hs ⊢
    simp only [stp, Nat.reduceAdd, Int.reduceLT, Int.reduceLE, Int.reduceEq, Int.reduceNe, ne_eq, bne_self_eq_false, beq_self_eq_true, stm, hi']
    exact hq _ _ Iff.rfl k1
end
end Go.Proofs.YtndjohbbaplekaaGreatP
