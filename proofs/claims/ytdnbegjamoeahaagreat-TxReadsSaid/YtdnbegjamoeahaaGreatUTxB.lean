/- A transaction: what its functions compute. Conditions: as each says. -/
import Derived.Test.YtdnbegjamoeahaaGreatUTxA
set_option linter.unusedSimpArgs false
set_option linter.unusedVariables false
namespace Go.Proofs.YtdnbegjamoeahaaGreatU
open Go.Sh Go.Proofs.YtdnbegjamoeahaaGreatU.Mi
set_option maxRecDepth 100000
section
variable {w w' : World} {Q : Value → World → Prop} {B t m a b : Nat} {s : TS}
theorem TXr.cel (h : TXr w B t s m a b) (o : Nat) : cel w t o = (s.cells m a b)[o]? := cel_b h.ct o
theorem TXr.tm (h : TXr w B t s m a b) : t ≠ m := fun e => by
  obtain ⟨cs, hb⟩ := im_blk' h.im
  rw [← e, h.ct] at hb; injection hb with hb; injection hb with _ hb; cases hb
theorem map_ne {cs : Array Value} {ty : TypeId} {l : List (Int × ByteArray)} (h : TM w a l) (hb : blk w b = some (.cells cs ty)) : a ≠ b := fun e => by
  obtain ⟨es, c, h⟩ := tm_blk h
  rw [e, hb] at h; cases h
theorem tnone_c (h : TX w B t s) (hq : Q (.bool false) w) : callS Tryz.prog 211 #[.pointer (some ⟨t, 0, none⟩)] Q w := by
  refine ref211 ?_
  unfold S211
  obtain ⟨m, a, b, h⟩ := h
  have c5 : Sh.cel w t 5 = some (.pointer (some ⟨m, 0, none⟩)) := h.cel 5
  simp only [stp, Nat.reduceAdd, Int.reduceLT, Int.reduceLE, Int.reduceEq, Int.reduceNe, ne_eq, bne_self_eq_false, beq_self_eq_true, stm, c5, Option.isSome_some, Option.getD_some, Option.isNone_some]
  exact hq
def mdV (v : Option Int) : Int := v.getD 0
theorem tget_c {x : Int} (h : IM w m s.l) (hl : s.l.length ≤ 100000) (hq : ∀ w', K0 w w' → Q (.tuple #[.int .i64 (mdV (valB s.l x)), .bool (valB s.l x).isSome]) w') :
    callS Tryz.prog 77 #[.pointer (some ⟨m, 0, none⟩), .int .i64 x] Q w := by
  refine get_c h (by omega) fun w1 k1 => ?_
  have := hq w1 k1
  cases hv : valB s.l x with
  | none => rw [hv] at this; exact this
  | some v => rw [hv] at this; exact this
theorem mayread_c {x : Int} (h : TX w B t s) (hq : ∀ w', K0 w w' → Q (.int .i64 (if (valB s.l x).isSome then 0 else 30)) w') :
    callS Tryz.prog 113 #[.pointer (some ⟨t, 0, none⟩), .int .i64 x] Q w := by
  refine ref113 ?_
  unfold S113
  refine tnone_c h ?_
  obtain ⟨m, a, b, h⟩ := h
  have c5 : Sh.cel w t 5 = some (.pointer (some ⟨m, 0, none⟩)) := h.cel 5
  simp only [stp, Nat.reduceAdd, Int.reduceLT, Int.reduceLE, Int.reduceEq, Int.reduceNe, ne_eq, bne_self_eq_false, beq_self_eq_true, stm, c5, Option.isSome_some, Option.getD_some]
  refine tget_c h.im h.ll fun w1 k1 => ?_
  have hq := hq w1 k1
  cases hv : (valB s.l x).isSome <;> rw [hv] at hq <;> simp only [stp, Nat.reduceAdd, Int.reduceLT, Int.reduceLE, Int.reduceEq, Int.reduceNe, ne_eq, bne_self_eq_false, beq_self_eq_true, stm] <;> exact hq
theorem tneeds_c {x : Int} (h : TX w B t s) (hx : valB s.l x = some 1 → x < 9223372036854775807) (hlo : -9223372036854775808 ≤ x)
    (hq1 : ∀ w', valB s.l x = some 1 → K0 w w' → Q (.tuple #[.agg #[.int .i64 x, .int .i64 (x + 1), .int .i64 2], .bool true]) w')
    (hq0 : ∀ w', valB s.l x ≠ some 1 → K0 w w' → Q (.tuple #[.agg #[.int .i64 0, .int .i64 0, .int .i64 0], .bool false]) w') :
    callS Tryz.prog 108 #[.pointer (some ⟨t, 0, none⟩), .int .i64 x] Q w := by
  refine ref108 ?_
  unfold S108
  rw [al_148]
  generalize hw1 : w.alloc _ = w1
  have b1 : blk w1 (siz w) = some (.cells #[.int .i64 0, .int .i64 0, .int .i64 0] 148) := by rw [← hw1]; exact blk_alloc_new
  have k1 : K0 w w1 := by rw [← hw1]; exact (K0.refl w).alloc _
  have h1 := h.keep0 k1
  refine tnone_c h1 ?_
  obtain ⟨m, a, b, h1⟩ := h1
  have c5 : Sh.cel w1 t 5 = some (.pointer (some ⟨m, 0, none⟩)) := h1.cel 5
  simp only [stp, Nat.reduceAdd, Int.reduceLT, Int.reduceLE, Int.reduceEq, Int.reduceNe, ne_eq, bne_self_eq_false, beq_self_eq_true, stm, c5, Option.isSome_some, Option.getD_some]
  refine tget_c h1.im h1.ll fun w2 k2 => ?_
  have b2 := k2.blk b1 (fun e => e)
  have e0 : ∀ o, Sh.cel w2 (siz w) o = (#[.int .i64 0, .int .i64 0, .int .i64 0] : Array Value)[o]? := fun o => cel_b b2 o
  have f2 := fre_b b2
  have i0 : (Sh.cel w2 (siz w) 0).isSome = true := by rw [e0]; rfl
  have i1 : (Sh.cel w2 (siz w) 1).isSome = true := by rw [e0]; rfl
  have i2 : (Sh.cel w2 (siz w) 2).isSome = true := by rw [e0]; rfl
  have kk := k1.trans k2
  have fin : ∀ (y0 y1 y2 : Int), K0 w (stoL w2 (siz w) 0 [.int .i64 y0, .int .i64 y1, .int .i64 y2]) ∧ blk (stoL w2 (siz w) 0 [.int .i64 y0, .int .i64 y1, .int .i64 y2]) (siz w) = some (.cells #[.int .i64 y0, .int .i64 y1, .int .i64 y2] 148) := fun y0 y1 y2 =>
    ⟨kk.stoL _ 0 (.inr (Nat.le_refl _)), blk_stoL_all (zs := [.int .i64 0, .int .i64 0, .int .i64 0]) (xs := [.int .i64 y0, .int .i64 y1, .int .i64 y2]) rfl b2⟩
  by_cases hv : valB s.l x = some 1
  · have e1 : mdV (valB s.l x) = 1 := by rw [hv]; rfl
    have e2 : IntKind.i64.wrap (x + 1) = x + 1 := wrap_id (by omega) (by have := hx hv; omega)
    simp only [stp, Nat.reduceAdd, Int.reduceLT, Int.reduceLE, Int.reduceEq, Int.reduceNe, ne_eq, bne_self_eq_false, beq_self_eq_true, stm, e1, e2, i0, i1, i2, f2]
    obtain ⟨kF, bF⟩ := fin x (x + 1) 2
    generalize stoL w2 (siz w) 0 _ = w3 at kF bF
    have d0 : Sh.cel w3 (siz w) 0 = some (.int .i64 x) := cel_b bF 0
    have d1 : Sh.cel w3 (siz w) 1 = some (.int .i64 (x + 1)) := cel_b bF 1
    have d2 : Sh.cel w3 (siz w) 2 = some (.int .i64 2) := cel_b bF 2
    simp only [stp, Nat.reduceAdd, Int.reduceLT, Int.reduceLE, Int.reduceEq, Int.reduceNe, ne_eq, bne_self_eq_false, beq_self_eq_true, d0, d1, d2, Option.isSome_some, Option.getD_some]
    exact hq1 _ hv kF
  · have e1 : ¬ mdV (valB s.l x) = 1 := by
      unfold mdV
      cases hh : valB s.l x with
      | none => simp
      | some v => intro e; exact hv (by rw [hh]; simp at e; rw [e])
    simp only [stp, Nat.reduceAdd, Int.reduceLT, Int.reduceLE, Int.reduceEq, Int.reduceNe, ne_eq, bne_self_eq_false, beq_self_eq_true, stm, e1, i0, i1, i2, f2]
    obtain ⟨kF, bF⟩ := fin 0 0 0
    generalize stoL w2 (siz w) 0 _ = w3 at kF bF
    have d0 : Sh.cel w3 (siz w) 0 = some (.int .i64 0) := cel_b bF 0
    have d1 : Sh.cel w3 (siz w) 1 = some (.int .i64 0) := cel_b bF 1
    have d2 : Sh.cel w3 (siz w) 2 = some (.int .i64 0) := cel_b bF 2
    simp only [stp, Nat.reduceAdd, Int.reduceLT, Int.reduceLE, Int.reduceEq, Int.reduceNe, ne_eq, bne_self_eq_false, beq_self_eq_true, d0, d1, d2, Option.isSome_some, Option.getD_some]
    exact hq0 _ hv kF
/-- The locks of a transaction are others. -/
theorem TXr.setL {l' : List (Pt Int)} (h : TXr w B t s m a b) (k : Keep (fun g => g = m) w w') (hi : IM w' m l') (hl : l'.length ≤ 100000) : TXr w' B t { s with l := l' } m a b := by
  obtain ⟨cs, hm⟩ := im_blk' h.im
  exact { h with ct := k.blk h.ct h.tm, im := hi, ma := h.ma.keep k (map_ne h.ma hm), mb := h.mb.keep k (map_ne h.mb hm), ll := hl }
theorem TXr.kd (h : TXr w B t s m a b) (k : Keep (fun g => g = m) w w') : KO B tp w w' := KO.ofB k fun g e => by
  obtain ⟨cs, hm⟩ := im_blk' h.im
  have e : g = m := e
  subst e
  exact ⟨h.Bm, _, hm, rfl⟩
theorem tgrow_c {x : Int} (h : TX w B t s) (hc : ∀ x v, valB s.l x = some v → 0 ≤ x ∧ x < 4096) (hlo : -9223372036854775808 ≤ x)
    (hq1 : ∀ w' l', valB s.l x = some 1 → (∀ y, valB l' y = if y = x then some 2 else valB s.l y) → TX w' B t { s with l := l' } → KO B tp w w' → Q (.bool true) w')
    (hq0 : ∀ w', valB s.l x ≠ some 1 → K0 w w' → Q (.bool false) w') (hlen : s.l.length ≤ 90000) :
    callS Tryz.prog 109 #[.pointer (some ⟨t, 0, none⟩), .int .i64 x] Q w := by
  refine ref109 ?_
  unfold S109
  refine tneeds_c h (fun e => by have := (hc _ _ e).2; omega) hlo (fun w1 hv k1 => ?_) (fun w1 hv k1 => ?_)
  · have h1 := h.keep0 k1
    simp only [stp, Nat.reduceAdd, Int.reduceLT, Int.reduceLE, Int.reduceEq, Int.reduceNe, ne_eq, bne_self_eq_false, beq_self_eq_true, stm]
    generalize hw2 : w1.alloc _ = w2
    have b2 : blk w2 (siz w1) = some (.cells #[.int .i64 x, .int .i64 (x + 1), .int .i64 2] 148) := by rw [← hw2]; exact blk_alloc_new
    have k2 : K0 w1 w2 := by rw [← hw2]; exact (K0.refl w1).alloc _
    have d0 : Sh.cel w2 (siz w1) 0 = some (.int .i64 x) := cel_b b2 0
    have d1 : Sh.cel w2 (siz w1) 1 = some (.int .i64 (x + 1)) := cel_b b2 1
    have d2 : Sh.cel w2 (siz w1) 2 = some (.int .i64 2) := cel_b b2 2
    obtain ⟨m, a, b, h2⟩ := h1.keep0 k2
    have c5 : Sh.cel w2 t 5 = some (.pointer (some ⟨m, 0, none⟩)) := h2.cel 5
    simp only [stp, Nat.reduceAdd, Int.reduceLT, Int.reduceLE, Int.reduceEq, Int.reduceNe, ne_eq, bne_self_eq_false, beq_self_eq_true, stm, cel_drew, d0, d1, d2, c5, Option.isSome_some, Option.getD_some]
    have k3 : K0 w w2.drew := (k1.trans k2).drew
    have h3 : TXr w2.drew B t s m a b := h2.keep0 ((K0.refl w2).drew)
    have hx := hc _ _ hv
    refine set_ok (v := 2) h3.im ⟨by omega, by show x < x + 1; omega⟩ (by omega) fun w4 l' m4 hv4 hl4 k4 => ?_
    refine hq1 _ l' hv (fun y => ?_) ⟨m, a, b, h3.setL k4 m4 (by omega)⟩ ((KO.of0 k3).trans (h3.kd k4))
    rw [hv4]
    by_cases hy : y = x
    · rw [if_pos hy, if_pos ⟨⟨by omega, by show x < x + 1; omega⟩, by show x ≤ y; omega, by show y < x + 1; omega⟩]
    · rw [if_neg hy, if_neg]
      rintro ⟨_, h1, h2⟩
      have h1 : x ≤ y := h1
      have h2 : y < x + 1 := h2
      omega
  · simp only [stp, Nat.reduceAdd, Int.reduceLT, Int.reduceLE, Int.reduceEq, Int.reduceNe, ne_eq, bne_self_eq_false, beq_self_eq_true, stm]
    exact hq0 _ hv (k1.alloc _).drew
theorem twrote_c {x : Int} (h : TX w B t s) (hq : Q (.tuple #[(aget (.int .i64 x) (s.wr.map kvP)).getD (.string ⟨#[]⟩), .bool (aget (.int .i64 x) (s.wr.map kvP)).isSome]) w) :
    callS Tryz.prog 102 #[.pointer (some ⟨t, 0, none⟩), .int .i64 x] Q w := by
  refine ref102 ?_
  unfold S102
  refine tnone_c h ?_
  obtain ⟨m, a, b, h⟩ := h
  have c6 : Sh.cel w t 6 = some (.map (some a)) := h.cel 6
  simp only [stp, Nat.reduceAdd, Int.reduceLT, Int.reduceLE, Int.reduceEq, Int.reduceNe, ne_eq, bne_self_eq_false, beq_self_eq_true, stm, c6, Option.isSome_some, Option.getD_some]
  rw [rd_eq (lu_177 h.ma.mp (fun p hp => by obtain ⟨q, _, rfl⟩ := List.mem_map.1 hp; exact ⟨_, rfl⟩) ⟨x, rfl⟩ true)]
  simp only [stp, Nat.reduceAdd, Int.reduceLT, Int.reduceLE, Int.reduceEq, Int.reduceNe, ne_eq, bne_self_eq_false, beq_self_eq_true, stm, if_true]
  exact hq
end
end Go.Proofs.YtdnbegjamoeahaaGreatU
