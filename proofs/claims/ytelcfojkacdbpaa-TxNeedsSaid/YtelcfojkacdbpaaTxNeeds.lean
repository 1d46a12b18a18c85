/- What TxNeeds computes: true. Conditions: none. -/
import Derived.Test.YtelcfojkacdbpaaTxF
set_option linter.unusedSimpArgs false
set_option linter.unusedVariables false
namespace Go.Proofs.Ytelcfojkacdbpaa
open Go.Sh Go.Proofs.Ytelcfojkacdbpaa.Mi
set_option maxRecDepth 100000
section
variable {w w' : World} {Q : Value → World → Prop} {B t m a b : Nat} {s : TS}
def ndF (l : List (Pt Int)) (x : Int) : I3 := if valB l x = some 1 then (x, x + 1, 2) else (0, 0, 0)
theorem tneeds_u {x : Int} (h : TX w B t s) (hx : valB s.l x = some 1 → x < 9223372036854775807) (hlo : -9223372036854775808 ≤ x)
    (hq : ∀ w', K0 w w' → Q (.tuple #[.agg #[.int .i64 (ndF s.l x).1, .int .i64 (ndF s.l x).2.1, .int .i64 (ndF s.l x).2.2], .bool (decide (valB s.l x = some 1))]) w') :
    callS Try.prog 8 #[.pointer (some ⟨t, 0, none⟩), .int .i64 x] Q w := by
  refine tneeds_c h hx hlo (fun w1 e k1 => ?_) (fun w1 e k1 => ?_)
  · have := hq w1 k1
    unfold ndF at this
    rw [if_pos e, decide_eq_true e] at this
    exact this
  · have := hq w1 k1
    unfold ndF at this
    rw [if_neg e, decide_eq_false e] at this
    exact this
theorem txneeds_law {v : Value} {L : List I3} {x y : Int} (hL : Rd 3 w v L.length (flat enc3 L)) (_ : L.length ≤ maxLen) (_ : ∀ s ∈ L, good3 s) (hx : (Lit.int .i64 x).wf = true) (hy : (Lit.int .i64 y).wf = true)
    (hq : ∀ w', Keep (fun b => siz w ≤ b) w w' → Q (.bool true) w') : callS Try.prog 3 #[v, .int .i64 x, .int .i64 y] Q w := by
  refine ref3 ?_
  unfold S3
  have hx := wf64 hx
  have hy := wf64 hy
  obtain ⟨pa, ca, rfl⟩ := hL.form
  by_cases h16 : (16 : Int) < (L.length : Int)
  · simp only [stp, Nat.reduceAdd, Int.reduceLT, Int.reduceLE, Int.reduceEq, Int.reduceNe, ne_eq, bne_self_eq_false, beq_self_eq_true, h16]
    exact alive_c fun w1 k1 => hq _ k1.new
  simp only [stp, Nat.reduceAdd, Int.reduceLT, Int.reduceLE, Int.reduceEq, Int.reduceNe, ne_eq, bne_self_eq_false, beq_self_eq_true, h16]
  refine shape_c fun w1 k1 => ?_
  refine tnew_c (s := shp) (hL.keep0 k1) (by omega) (fun w2 e he hne k2 => ?_) fun w2 t l hck ht hvl hll h2 k2 => ?_
  · simp only [stp, Nat.reduceAdd, Int.reduceLT, Int.reduceLE, Int.reduceEq, Int.reduceNe, ne_eq, bne_self_eq_false, beq_self_eq_true, stm, hne]
    refine alive_c fun w3 k3 => ?_
    try simp only [stp, Nat.reduceAdd, Int.reduceLT, Int.reduceLE, Int.reduceEq, Int.reduceNe, ne_eq, bne_self_eq_false, beq_self_eq_true, stm]
    exact hq _ ((k1.trans k2).trans k3).new
  have k02 := k1.trans k2
  have s1 := k1.size
  have hB : siz w ≤ siz w1 := s1
  have hin : ∀ x v, valB l x = some v → 0 ≤ x ∧ x < 4096 := fun x v hv => by
    rw [hvl] at hv
    have := ck_in hck hv
    have h10 : x < 10 := this.2.1
    exact ⟨this.1, by omega⟩
  have hd : (⟨#[120]⟩ : ByteArray).size ≤ 9223372036854775807 := by decide
  have hd' : (⟨#[121]⟩ : ByteArray).size ≤ 9223372036854775807 := by decide
  simp only [stp, Nat.reduceAdd, Int.reduceLT, Int.reduceLE, Int.reduceEq, Int.reduceNe, ne_eq, bne_self_eq_false, beq_self_eq_true, stm]
  refine mayread_c h2 fun w3 k3 => ?_
  have h3 := h2.keep0 k3
  refine tneeds_u h3 (fun e => by have := (hin _ _ e).2; omega) (by omega) fun w4 k4 => ?_
  simp only [stp, Nat.reduceAdd, Int.reduceLT, Int.reduceLE, Int.reduceEq, Int.reduceNe, ne_eq, bne_self_eq_false, beq_self_eq_true, stm]
  generalize hw5 : w4.alloc _ = w5
  have k5 : K0 w4 w5 := by rw [← hw5]; exact (K0.refl w4).alloc _
  have h5 := (h3.keep0 k4).keep0 k5
  have k05 := ((k02.trans k3).trans k4).trans k5
  refine tneeds_u h5 (fun e => by have := (hin _ _ e).2; omega) (by omega) fun w6 k6 => ?_
  simp only [stp, Nat.reduceAdd, Int.reduceLT, Int.reduceLE, Int.reduceEq, Int.reduceNe, ne_eq, bne_self_eq_false, beq_self_eq_true, stm]
  generalize hw7 : w6.alloc _ = w7
  have b7 : blk w7 (siz w6) = some (.cells #[.int .i64 (ndF l x).1, .int .i64 (ndF l x).2.1, .int .i64 (ndF l x).2.2] 35) := by rw [← hw7]; exact blk_alloc_new
  have k7 : K0 w6 w7 := by rw [← hw7]; exact (K0.refl w6).alloc _
  have h7 := (h5.keep0 k6).keep0 k7
  have k07 := (k05.trans k6).trans k7
  refine twrite_c h7 hd (by simp) fun w8 h8 k8 => ?_
  have b8 := k8.blk b7 rfl
  have d0 : Sh.cel w8 (siz w6) 0 = some (.int .i64 (ndF l x).1) := cel_b b8 0
  have d1 : Sh.cel w8 (siz w6) 1 = some (.int .i64 (ndF l x).2.1) := cel_b b8 1
  have d2 : Sh.cel w8 (siz w6) 2 = some (.int .i64 (ndF l x).2.2) := cel_b b8 2
  have k08 := k07.ko k8 hB
  have hll' : l.length ≤ 90000 := by omega
  cases hA : valB l x with
  | none =>
    have e1 : wrC ⟨shp, l, [], []⟩ x ⟨#[120]⟩ = 30 := by unfold wrC; rw [if_pos hA]
    have e2 : wrS ⟨shp, l, [], []⟩ x ⟨#[120]⟩ = ⟨shp, l, [], []⟩ := by unfold wrS; rw [e1]; rfl
    rw [e2] at h8
    have e3 : decide ((none : Option Int) = some 1) = false := rfl
    simp only [stp, Nat.reduceAdd, Int.reduceLT, Int.reduceLE, Int.reduceEq, Int.reduceNe, ne_eq, bne_self_eq_false, beq_self_eq_true, stm, e1, e3, Option.isSome_none, Bool.false_eq_true, if_false]
    refine alive_c fun w9 k9 => ?_
    simp only [stp, Nat.reduceAdd, Int.reduceLT, Int.reduceLE, Int.reduceEq, Int.reduceNe, ne_eq, bne_self_eq_false, beq_self_eq_true, stm]
    refine tgrow_c (h8.keep0 k9) hin (by omega) (fun w10 l10 h10 => by have h10 : valB l x = some 1 := h10; rw [hA] at h10; cases h10) (fun w10 _ k10 => ?_) hll'
    simp only [stp, Nat.reduceAdd, Int.reduceLT, Int.reduceLE, Int.reduceEq, Int.reduceNe, ne_eq, bne_self_eq_false, beq_self_eq_true, stm]
    exact hq _ ((k08.trans k9).trans k10).new
  | some md =>
    have hmd := (ck_in hck (by rw [← hvl]; exact hA)).2.2.2
    have hx4 := hin _ _ hA
    rcases hmd with rfl | rfl
    · have e1 : wrC ⟨shp, l, [], []⟩ x ⟨#[120]⟩ = 13 := by unfold wrC; rw [if_neg (by rw [hA]; simp), if_neg (by decide), if_pos (by rw [hA]; simp)]
      have e2 : wrS ⟨shp, l, [], []⟩ x ⟨#[120]⟩ = ⟨shp, l, [], []⟩ := by unfold wrS; rw [e1]; rfl
      rw [e2] at h8
      have e3 : decide ((some 1 : Option Int) = some 1) = true := rfl
      have e4 : ndF l x = (x, x + 1, 2) := by unfold ndF; rw [if_pos hA]
      rw [e4] at d0 d1 d2
      have e5 : IntKind.i64.wrap (x + 1) = x + 1 := wrap_id (by omega) (by omega)
      simp only [stp, Nat.reduceAdd, Int.reduceLT, Int.reduceLE, Int.reduceEq, Int.reduceNe, ne_eq, bne_self_eq_false, beq_self_eq_true, stm, e1, e3, d0, d1, d2, e5, Option.isSome_some, if_true, Option.getD_some]
      refine tgrow_c h8 hin (by omega) (fun w9 l9 _ hv9 h9 k9 => ?_) (fun w9 hno _ => absurd hA hno) hll'
      simp only [stp, Nat.reduceAdd, Int.reduceLT, Int.reduceLE, Int.reduceEq, Int.reduceNe, ne_eq, bne_self_eq_false, beq_self_eq_true, stm]
      have v9 : valB l9 x = some 2 := by rw [hv9, if_pos rfl]
      refine tneeds_u h9 (fun e => by omega) (by omega) fun w10 k10 => ?_
      have e6 : decide (valB l9 x = some 1) = false := by rw [v9]; rfl
      simp only [stp, Nat.reduceAdd, Int.reduceLT, Int.reduceLE, Int.reduceEq, Int.reduceNe, ne_eq, bne_self_eq_false, beq_self_eq_true, stm, e6]
      generalize hw11 : w10.alloc _ = w11
      have k11 : K0 w10 w11 := by rw [← hw11]; exact (K0.refl w10).alloc _
      have h11 := (h9.keep0 k10).keep0 k11
      refine tneeds_u h11 (fun e => by
        have e : valB l9 y = some 1 := e
        rw [hv9] at e
        split at e
        · omega
        · have := (hin _ _ e).2; omega) (by omega) fun w12 k12 => ?_
      simp only [stp, Nat.reduceAdd, Int.reduceLT, Int.reduceLE, Int.reduceEq, Int.reduceNe, ne_eq, bne_self_eq_false, beq_self_eq_true, stm]
      generalize hw13 : w12.alloc _ = w13
      have k13 : K0 w12 w13 := by rw [← hw13]; exact (K0.refl w12).alloc _
      have h13 := (h11.keep0 k12).keep0 k13
      refine alive_c fun w14 k14 => ?_
      simp only [stp, Nat.reduceAdd, Int.reduceLT, Int.reduceLE, Int.reduceEq, Int.reduceNe, ne_eq, bne_self_eq_false, beq_self_eq_true, stm]
      refine twrite_c (h13.keep0 k14) hd' (by simp) fun w15 h15 k15 => ?_
      have e7 : wrC { sh := shp, l := l9, wr := [], rd := [] } x ⟨#[121]⟩ = 0 := by
        unfold wrC; rw [if_neg (by rw [v9]; simp), if_neg (by decide), if_neg (by rw [v9]; simp), if_neg]
        rintro ⟨_, h⟩
        rw [mostF_8] at h
        exact absurd h (show ¬ (min (1 : Int) 4 ≤ ((0 : Nat) : Int)) by decide)
      have kF := ((((((k08.ko k9 hB).trans k10).trans k11).trans k12).trans k13).trans k14).ko k15 hB
      by_cases hyx : y = x
      · simp only [stp, Nat.reduceAdd, Int.reduceLT, Int.reduceLE, Int.reduceEq, Int.reduceNe, ne_eq, bne_self_eq_false, beq_self_eq_true, stm, e7, hyx]
        exact hq _ kF.new
      · have e8 : valB l9 y = valB l y := by rw [hv9, if_neg hyx]
        simp only [stp, Nat.reduceAdd, Int.reduceLT, Int.reduceLE, Int.reduceEq, Int.reduceNe, ne_eq, bne_self_eq_false, beq_self_eq_true, stm, e7, hyx, e8]
        exact hq _ kF.new
    · have e1 : wrC ⟨shp, l, [], []⟩ x ⟨#[120]⟩ = 0 := by
        unfold wrC; rw [if_neg (by rw [hA]; simp), if_neg (by decide), if_neg (by rw [hA]; simp), if_neg]
        rintro ⟨_, h⟩
        rw [mostF_8] at h
        exact absurd h (show ¬ (min (1 : Int) 4 ≤ ((0 : Nat) : Int)) by decide)
      have e2 : wrS ⟨shp, l, [], []⟩ x ⟨#[120]⟩ = ⟨shp, l, [(x, padF ⟨#[120]⟩)], []⟩ := by unfold wrS; rw [if_pos e1]; rfl
      rw [e2] at h8
      have e3 : decide ((some 2 : Option Int) = some 1) = false := rfl
      simp only [stp, Nat.reduceAdd, Int.reduceLT, Int.reduceLE, Int.reduceEq, Int.reduceNe, ne_eq, bne_self_eq_false, beq_self_eq_true, stm, e1, e3, Option.isSome_some, if_true, Option.getD_some]
      refine tgrow_c h8 hin (by omega) (fun w9 l9 h9 => by have h9 : valB l x = some 1 := h9; rw [hA] at h9; cases h9) (fun w9 _ k9 => ?_) hll'
      simp only [stp, Nat.reduceAdd, Int.reduceLT, Int.reduceLE, Int.reduceEq, Int.reduceNe, ne_eq, bne_self_eq_false, beq_self_eq_true, stm]
      have h9 := h8.keep0 k9
      refine tneeds_u h9 (fun e => by omega) (by omega) fun w10 k10 => ?_
      have e6 : decide (valB l x = some 1) = false := by rw [hA]; rfl
      simp only [stp, Nat.reduceAdd, Int.reduceLT, Int.reduceLE, Int.reduceEq, Int.reduceNe, ne_eq, bne_self_eq_false, beq_self_eq_true, stm, e6]
      generalize hw11 : w10.alloc _ = w11
      have k11 : K0 w10 w11 := by rw [← hw11]; exact (K0.refl w10).alloc _
      have h11 := (h9.keep0 k10).keep0 k11
      refine tneeds_u h11 (fun e => by have := (hin _ _ e).2; omega) (by omega) fun w12 k12 => ?_
      simp only [stp, Nat.reduceAdd, Int.reduceLT, Int.reduceLE, Int.reduceEq, Int.reduceNe, ne_eq, bne_self_eq_false, beq_self_eq_true, stm]
      generalize hw13 : w12.alloc _ = w13
      have k13 : K0 w12 w13 := by rw [← hw13]; exact (K0.refl w12).alloc _
      have h13 := (h11.keep0 k12).keep0 k13
      refine alive_c fun w14 k14 => ?_
      simp only [stp, Nat.reduceAdd, Int.reduceLT, Int.reduceLE, Int.reduceEq, Int.reduceNe, ne_eq, bne_self_eq_false, beq_self_eq_true, stm]
      refine twrite_c (h13.keep0 k14) hd' (by simp) fun w15 h15 k15 => ?_
      have e7 : wrC ⟨shp, l, [(x, padF ⟨#[120]⟩)], []⟩ x ⟨#[121]⟩ = 0 := by
        unfold wrC; rw [if_neg (by rw [hA]; simp), if_neg (by decide), if_neg (by rw [hA]; simp), if_neg]
        rintro ⟨h, _⟩
        simp [lkp] at h
      have kF := ((((((k08.trans k9).trans k10).trans k11).trans k12).trans k13).trans k14).ko k15 hB
      by_cases hyx : y = x
      · simp only [stp, Nat.reduceAdd, Int.reduceLT, Int.reduceLE, Int.reduceEq, Int.reduceNe, ne_eq, bne_self_eq_false, beq_self_eq_true, stm, e7, hyx]
        exact hq _ kF.new
      · simp only [stp, Nat.reduceAdd, Int.reduceLT, Int.reduceLE, Int.reduceEq, Int.reduceNe, ne_eq, bne_self_eq_false, beq_self_eq_true, stm, e7, hyx]
        exact hq _ kF.new
end
end Go.Proofs.Ytelcfojkacdbpaa
