/- What TableFair computes: true. Conditions: as each says. -/
import Derived.Test.YtiomanikpboclaaTabH
import Derived.Test.YtiomanikpboclaaShR
set_option linter.unusedSimpArgs false
set_option linter.unusedVariables false
namespace Go.Proofs.Ytiomanikpboclaa
open Go.Sh Go.Proofs.Ytiomanikpboclaa.Mi
set_option maxRecDepth 100000
section
variable {w w' : World} {Q : Value → World → Prop} {B t : Nat} {s : TS}
def andI (a b : Int) : Int := IntKind.i64.wrap (BitVec.ofInt 64 a &&& BitVec.ofInt 64 b).toNat
theorem pur_andI {P : Program} {tt : TypeId} {x y : Bool} {a b : Int} {k : Value → Prop} : pur P (binS .and tt x y (.int .i64 a) (.int .i64 b)) k = k (.int .i64 (andI a b)) := pur_eq fun w => by
  simp [binS, eqG_int, binOp, Op.intBits]
  rfl
theorem andI_le (a : Int) (n : Nat) (hn : n < 4611686018427387904) : 0 ≤ andI a n ∧ andI a n ≤ n := by
  unfold andI
  have h1 : (BitVec.ofInt 64 a &&& BitVec.ofInt 64 n).toNat ≤ n := by
    rw [BitVec.toNat_and]
    refine Nat.le_trans Nat.and_le_right ?_
    rw [BitVec.toNat_ofInt]
    omega
  generalize (BitVec.ofInt 64 a &&& BitVec.ofInt 64 n).toNat = r at *
  rw [wrap_id (by omega) (by omega)]
  omega
/-- The mode that the j-th one asks for. -/
def mdF (us : List Int) (j : Nat) : Int := 1 + andI (us.getD (j - 1) 0) 1
theorem mdF_is (us : List Int) (j : Nat) : isM12 (mdF us j) := by
  have := andI_le (us.getD (j - 1) 0) 1 (by omega)
  unfold mdF isM12
  have e : ((1 : Nat) : Int) = 1 := rfl
  rw [e] at this
  omega
/-- The state while the holders are let go, one after the other. -/
structure FS (s : TS) (x0 : Int) (m : Nat → Int) (N p h q : Nat) : Prop where
  n : s.nodes = 16
  ws : s.ws = VL (EF x0 m) q (N - q)
  qN : q ≤ N
  ph : p < h ∧ h ≤ q
  b : ∀ o x, bl s o x = if x = x0 ∧ p < o ∧ o ≤ h then some (m o) else none
  f : q < N → ∀ o, p < o → o ≤ h → ¬ fitP (m o) (m (q + 1))
/-- Ahead of the first release: the last node holds the block alone. -/
structure F0 (s : TS) (x0 : Int) (m : Nat → Int) (i : Nat) : Prop where
  n : s.nodes = 16
  ws : s.ws = VL (EF x0 m) 0 i
  la : s.last = (i : Int)
  b : ∀ o x, bl s o x = if x = x0 ∧ o = 16 then some 2 else none
theorem ws_ok {x0 : Int} {m : Nat → Int} {q n : Nat} (hn : n ≤ 15) (h0 : 0 ≤ x0) (h1 : x0 < 4096) (hm : ∀ j, isM12 (m j)) (hs : s.ws = VL (EF x0 m) q n) : WsOk s.ws := by
  rw [hs]
  refine ⟨by rw [VL_len]; omega, fun k hk => ?_⟩
  obtain ⟨j, _, _, rfl⟩ := VL_mem _ _ _ _ hk
  refine ⟨⟨h0, ?_⟩, ?_, hm j⟩
  · show x0 < x0 + 1; omega
  · show x0 + 1 ≤ 4096; omega
theorem ws_n {x0 : Int} {m : Nat → Int} {q n : Nat} (hn : q + n ≤ 15) (hs : s.ws = VL (EF x0 m) q n) (hn' : s.nodes = 16) : WsN s := fun k hk => by
  rw [hs] at hk
  obtain ⟨j, h1, h2, rfl⟩ := VL_mem _ _ _ _ hk
  show 1 ≤ (j : Int) ∧ (j : Int) ≤ s.nodes
  omega
/-- All is let go: the next ones are let through. -/
theorem fair_next {x0 : Int} {m : Nat → Int} {N q : Nat} (p : Pu s) (h0 : 0 ≤ x0) (h1 : x0 < 4096) (hm : ∀ j, isM12 (m j)) (hN : N ≤ 15) (hqN : q < N) (hn : s.nodes = 16) (hws : s.ws = VL (EF x0 m) q (N - q)) (hno : ∀ o x, bl s o x = none) :
    ∃ c, 0 < c ∧ q + c ≤ N ∧ grantOut s = VL (EF x0 m) q c ∧ FS s.granted x0 m N q (q + c) (q + c) := by
  have e : grantG s s.ws = grantG s (VL (EF x0 m) q (N - q)) := by rw [hws]
  have hnn : s.granted.nodes = 16 := by rw [granted_nodes, hn]
  rcases fair_group (N := N) (q := q) p h0 h1 (fun j _ _ => hm j) hN hn hno (N - q) (by omega) with A | ⟨c, hc0, hcn, Bb⟩
  · refine ⟨N - q, by omega, by omega, ?_, { n := hnn, ws := ?_, qN := by omega, ph := by omega, b := fun o x => ?_, f := fun h => by omega }⟩
    · show (grantG s s.ws).2.2.2 = _
      rw [e, A.o]
    · show (grantG s s.ws).2.1 = _
      rw [e, A.l, show N - (q + (N - q)) = 0 by omega]
      rfl
    · show bl (grantG s s.ws).1 o x = _
      rw [e]
      exact A.b o x
  · refine ⟨c, hc0, by omega, ?_, { n := hnn, ws := ?_, qN := by omega, ph := by omega, b := fun o x => ?_, f := fun _ => Bb.f }⟩
    · show (grantG s s.ws).2.2.2 = _
      rw [e, Bb.o]
    · show (grantG s s.ws).2.1 = _
      rw [e, Bb.l, show N - q - c = N - (q + c) by omega]
    · show bl (grantG s s.ws).1 o x = _
      rw [e]
      exact Bb.b o x
theorem rel0 (p : Pu s) {x0 : Int} {h : Nat} (h0 : 0 ≤ x0) (hh : h < 17) (o : Nat) (x : Int) (hv : ∀ v, bl s h x = some v → 0 < v) : bl (s.release h x0 (x0 + 1) 0) o x = if o = h ∧ x = x0 then none else bl s o x := by
  rw [p.bl_release hh, relF_in h0]
  have hx : inR x0 (x0 + 1) x ↔ x = x0 := by unfold inR; omega
  by_cases ho : o = h
  · subst ho
    rw [if_pos rfl]
    by_cases hx' : x = x0
    · rw [if_pos (hx.2 hx'), if_pos ⟨rfl, hx'⟩]
      cases hb : bl s o x with
      | none => rfl
      | some v =>
        have := hv v hb
        show relV 0 (some v) v = none
        unfold relV
        rw [if_neg (by omega), if_pos rfl]
    · rw [if_neg fun h => hx' (hx.1 h), if_neg fun h => hx' h.2]
  · rw [if_neg ho, if_neg fun h => ho h.1]
theorem fair_law {x0 : Int} {v : Value} {us : List Int} (_ : (Lit.int .i64 x0).wf = true) (hv : Row 1 w v us.length (fun i => .int .i64 (us.getD i 0))) (_ : us.length ≤ maxLen) (_ : ∀ n ∈ us, (Lit.int .i64 n).wf = true) (hq : ∀ w', Keep (fun b => siz w ≤ b) w w' → Q (.bool true) w') :
    callS Try.prog 5 #[.int .i64 x0, v] Q w := by
  refine ref5 ?_
  unfold S5
  have out : callS Try.prog 8 #[] Q w := talive_c fun w2 k2 => hq _ k2
  obtain ⟨pv, cv, rfl⟩ := hv.form
  generalize hNe : us.length = N at *
  by_cases g1 : x0 < 0
  · simp only [stp, Nat.reduceAdd, Int.reduceLT, Int.reduceLE, Int.reduceEq, Int.reduceNe, ne_eq, bne_self_eq_false, beq_self_eq_true, stm, g1]; exact out
  by_cases g2 : 4000 < x0
  · simp only [stp, Nat.reduceAdd, Int.reduceLT, Int.reduceLE, Int.reduceEq, Int.reduceNe, ne_eq, bne_self_eq_false, beq_self_eq_true, stm, g1, g2]; exact out
  by_cases g3 : (15 : Int) < (N : Int)
  · simp only [stp, Nat.reduceAdd, Int.reduceLT, Int.reduceLE, Int.reduceEq, Int.reduceNe, ne_eq, bne_self_eq_false, beq_self_eq_true, stm, g1, g2, g3]; exact out
  by_cases g4 : (N : Int) < 2
  · simp only [stp, Nat.reduceAdd, Int.reduceLT, Int.reduceLE, Int.reduceEq, Int.reduceNe, ne_eq, bne_self_eq_false, beq_self_eq_true, stm, g1, g2, g3, g4]; exact out
  simp only [stp, Nat.reduceAdd, Int.reduceLT, Int.reduceLE, Int.reduceEq, Int.reduceNe, ne_eq, bne_self_eq_false, beq_self_eq_true, stm, g1, g2, g3, g4]
  clear out
  have h0 : 0 ≤ x0 := by omega
  have h1 : x0 < 4096 := by omega
  have hN : N ≤ 15 := by omega
  refine tnew_c (B := siz w) (nodes := 16) (by omega) (Nat.le_refl _) fun w1 t1 k1 => ?_
  have s1 := k1.size
  have hw1 : IntKind.i64.wrap (x0 + 1) = x0 + 1 := wrap_id (by omega) (by omega)
  simp only [stp, Nat.reduceAdd, Int.reduceLT, Int.reduceLE, Int.reduceEq, Int.reduceNe, ne_eq, bne_self_eq_false, beq_self_eq_true, stm, hw1]
  have k2 : K0 w1 (w1.alloc (.cells #[.int .i64 x0, .int .i64 (x0 + 1)] 23)) := (K0.refl w1).alloc _
  have b2 : blk (w1.alloc (.cells #[.int .i64 x0, .int .i64 (x0 + 1)] 23)) (siz w1) = some (.cells #[.int .i64 x0, .int .i64 (x0 + 1)] 23) := blk_alloc_new
  generalize w1.alloc (.cells #[.int .i64 x0, .int .i64 (x0 + 1)] 23) = w2 at b2 k2
  have s2 := k2.size
  have k02 := k1.trans k2
  have cS : ∀ {w'}, KO (siz w) tp w2 w' → cel w' (siz w1) 0 = some (.int .i64 x0) ∧ cel w' (siz w1) 1 = some (.int .i64 (x0 + 1)) := fun k => by
    have e1 := k.blk b2 rfl
    refine ⟨?_, ?_⟩ <;> (rw [cel_b e1]; rfl)
  have vS : ∀ {w'}, KO (siz w) tp w2 w' → ∀ i, i < N → ∃ b o, pv = some ⟨b, o, none⟩ ∧ cel w' b (o + i) = some (.int .i64 (us.getD i 0)) := fun k i hi => by
    have k0 : Keep (fun b => siz w ≤ b) w _ := (Keep.new k02).trans (k.below (Nat.le_refl _))
    obtain ⟨b, o, c, e, _, hc⟩ := (hv.keep k0 fun b hb hF => by omega).at (by omega)
    injection e with e1 _ _
    exact ⟨b, o, e1, hc i (by omega)⟩
  obtain ⟨y0, y1⟩ := cS (KO.refl _ _ _)
  try simp only [stp, Nat.reduceAdd, Int.reduceLT, Int.reduceLE, Int.reduceEq, Int.reduceNe, ne_eq, bne_self_eq_false, beq_self_eq_true, stm, y0, y1]
  have t2 := t1.keep0 k2
  have p2 := t2.pu
  have hone : hasB (x0, x0 + 1) x0 := (hasB_in h0).2 ⟨by omega, by omega⟩
  have hin : ∀ x, inR x0 (x0 + 1) x ↔ x = x0 := fun x => by unfold inR; omega
  have honly : ∀ x, hasB (x0, x0 + 1) x → x = x0 := fun x hx => (hin x).1 ((hasB_in h0).1 hx)
  refine ask_free (i := 16) t2 wsOk_nil (fun k hk => by cases hk) (by show (0 : Int) ≤ 0 ∧ (0 : Int) ≤ 1000000000; omega) (by omega) ⟨by show (1 : Int) ≤ 16 ∧ (16 : Int) ≤ 16; omega, by unfold rightL ok; dsimp only; omega⟩ (fun h => ?_) ((p2.free_nil rfl).2 fun x _ hh => ?_) fun w3 t3 k3 => ?_
  · obtain ⟨u, hu, _⟩ := h x0 hone
    rw [bl_fresh] at hu; cases hu
  · obtain ⟨o, _, _, _, u, hu, _⟩ := hh
    rw [bl_fresh] at hu; cases hu
  generalize hm : mdF us = m
  have hm12 : ∀ j, isM12 (m j) := fun j => by rw [← hm]; exact mdF_is us j
  have f3 : F0 ((TS.fresh 16).raise 16 x0 (x0 + 1) 2) x0 m 0 := by
    refine { n := rfl, ws := rfl, la := rfl, b := fun o x => ?_ }
    rw [p2.bl_raise (i := 16) (a := x0) (b := x0 + 1) (md := 2) (by omega) h0 (by omega), updM_in h0, bl_fresh, bl_fresh]
    by_cases ho : o = 16 <;> by_cases hx : x = x0
    · rw [if_pos ho, if_pos ((hin x).2 hx), if_pos ⟨hx, ho⟩]
    · rw [if_pos ho, if_neg fun h => hx ((hin x).1 h), if_neg fun h => hx h.1]
    · rw [if_neg ho, if_neg fun h => ho h.2]
    · rw [if_neg ho, if_neg fun h => ho h.2]
  try simp only [stp, Nat.reduceAdd, Int.reduceLT, Int.reduceLE, Int.reduceEq, Int.reduceNe, ne_eq, bne_self_eq_false, beq_self_eq_true]
  generalize (TS.fresh 16).raise 16 x0 (x0 + 1) 2 = s3 at *
  refine lpc1 N (by omega) (fun i w' => ∃ s, F0 s x0 m i ∧ TL w' (siz w) (siz w) s ∧ KO (siz w) tp w2 w') ⟨s3, f3, t3, k3⟩ ?_ ?_
  · rintro i w4 hi ⟨s4, f4, t4, k4⟩ J hJ _j
    have hi' : (i : Int) < (N : Int) := by omega
    have hwi := wrap_succ (i := i) (by omega)
    obtain ⟨y0, y1⟩ := cS k4
    obtain ⟨b, o, rfl, hc⟩ := vS k4 i hi
    simp only [stp, Nat.reduceAdd, Int.reduceLT, Int.reduceLE, Int.reduceEq, Int.reduceNe, ne_eq, bne_self_eq_false, beq_self_eq_true, stm, hi', hwi, y0, y1]
    rw [ix_40 hi]
    have hmi : IntKind.i64.wrap (1 + andI (us.getD i 0) 1) = m (i + 1) := by
      have h2 := andI_le (us.getD i 0) 1 (by omega)
      have e : ((1 : Nat) : Int) = 1 := rfl
      rw [e] at h2
      rw [← hm]
      unfold mdF
      rw [Nat.add_sub_cancel]
      exact wrap_id (by omega) (by omega)
    simp only [stp, Nat.reduceAdd, Int.reduceLT, Int.reduceLE, Int.reduceEq, Int.reduceNe, ne_eq, bne_self_eq_false, beq_self_eq_true, stm, hc, pur_andI, hmi]
    have p4 := t4.pu
    have n4 := f4.n
    have la4 := f4.la
    have s4' := k4.size
    have hmi2 := hm12 (i + 1)
    have hno : ∀ j : Nat, j ≠ 16 → ∀ x, bl s4 j x = none := fun j hj x => by rw [f4.b, if_neg fun h => hj h.2]
    have ok4 : WsOk s4.ws := ws_ok (q := 0) (n := i) (by omega) h0 h1 hm12 f4.ws
    refine ask_wait (i := i + 1) (w := w4.drew) (t4.keep0 ((K0.refl w4).drew)) ok4 (ws_n (q := 0) (n := i) (by omega) f4.ws n4) (by omega) (by show siz w ≤ siz w4; omega) ⟨by omega, ⟨h0, by show x0 < x0 + 1; omega⟩, by show x0 + 1 ≤ 4096; omega, hmi2⟩ (fun h => ?_) (fun h => ?_) (fun h => ?_) (by rw [f4.ws, VL_len]; omega) fun w5 t5 k5 => ?_
    · obtain ⟨u, hu, _⟩ := h x0 hone
      rw [hno _ (by omega)] at hu; cases hu
    · refine (free_iff t4).1 h x0 hone (.inl ⟨16, by omega, by omega, by omega, 2, ?_, (not_fit2 hmi2).1⟩)
      rw [f4.b, if_pos ⟨rfl, rfl⟩]
    · obtain ⟨_, k, hk, _, _, q, hq, _, hd⟩ := h
      obtain ⟨x, _, _, hx⟩ := hd
      rw [hno _ (by omega)] at hx; cases hx
    · have hla : s4.last + 1 = ((i + 1 : Nat) : Int) := by omega
      rw [hla]
      simp only [stp, Nat.reduceAdd, Int.reduceLT, Int.reduceLE, Int.reduceEq, Int.reduceNe, ne_eq, bne_self_eq_false, beq_self_eq_true, hwi]
      have hgo := fun h => hJ w5 ⟨s4.wait ((i + 1 : Nat) : Int) x0 (x0 + 1) (m (i + 1)), h, t5, k4.trans ((KO.of0 ((K0.refl w4).drew)).trans k5)⟩
      rw [hwi] at hgo
      refine hgo { n := n4, ws := ?_, la := hla, b := f4.b }
      show s4.ws ++ [(s4.last + 1, ((i + 1 : Nat) : Int), x0, x0 + 1, m (i + 1))] = _
      rw [f4.ws, hla]
      show _ = VL (EF x0 m) 0 i ++ [EF x0 m (0 + i + 1)]
      rw [Nat.zero_add]
      rfl
  · rintro w4 ⟨s4, f4, t4, k4⟩ J _j
    have hn : ¬ ((N : Int) < (N : Int)) := by omega
    simp only [stp, Nat.reduceAdd, Int.reduceLT, Int.reduceLE, Int.reduceEq, Int.reduceNe, ne_eq, bne_self_eq_false, beq_self_eq_true, hn]
    refine lp3 (fun mm xl xh xk w' => ∃ (s : TS) (hd q k : Nat), xl = .int .i64 (q : Int) ∧ xh = .int .i64 (hd : Int) ∧ xk = .int .i64 (k : Int) ∧ mm = 40 - k ∧ k ≤ 16 ∧ TL w' (siz w) (siz w) s ∧ KO (siz w) tp w2 w' ∧
      ((F0 s x0 m N ∧ q = 0 ∧ hd = 16 ∧ k = 0) ∨ ∃ p, FS s x0 m N p hd q ∧ k + hd = 1 + p + q)) 40 ⟨s4, 16, 0, 0, rfl, rfl, rfl, rfl, by omega, t4, k4, .inl ⟨f4, rfl, rfl, rfl⟩⟩ ?_
    rintro mm xl xh xk w5 ⟨s5, hd, q, k, rfl, rfl, rfl, rfl, hk, t5, k5, hst⟩ J hJ _j
    have hk' : (k : Int) < 40 := by omega
    have s5' := k5.size
    by_cases hqN : q < N
    case neg =>
      have hqN' : ¬ ((q : Int) < (N : Int)) := by omega
      simp only [stp, Nat.reduceAdd, Int.reduceLT, Int.reduceLE, Int.reduceEq, Int.reduceNe, ne_eq, bne_self_eq_false, beq_self_eq_true, hk', hqN']
      have hq0 : q = N := by
        rcases hst with ⟨_, rfl, _⟩ | ⟨p, f, _⟩
        · omega
        · have := f.qN; omega
      subst hq0
      have hws : s5.ws = [] := by
        rcases hst with ⟨_, h, _⟩ | ⟨p, f, _⟩
        · omega
        · rw [f.ws, Nat.sub_self]; rfl
      refine talive_c fun w6 k6 => ?_
      have k6 : K0 w5 w6 := k6.old'
      simp only [stp, Nat.reduceAdd, Int.reduceLT, Int.reduceLE, Int.reduceEq, Int.reduceNe, ne_eq, bne_self_eq_false, beq_self_eq_true]
      refine twaits_c (t5.keep0 k6) (by rw [hws]; simp) fun w7 v7 o7 k7 => ?_
      rw [hws] at o7
      obtain ⟨p7, c7, rfl⟩ := o7.form
      simp only [stp, Nat.reduceAdd, Int.reduceLT, Int.reduceLE, Int.reduceEq, Int.reduceNe, ne_eq, bne_self_eq_false, beq_self_eq_true, List.length_nil, Int.natCast_zero, Int.ofNat_zero]
      exact hq _ (((Keep.new k02).trans (k5.below (Nat.le_refl _))).trans ((k6.trans k7).none))
    have hqN' : ((q : Int) < (N : Int)) := by omega
    simp only [stp, Nat.reduceAdd, Int.reduceLT, Int.reduceLE, Int.reduceEq, Int.reduceNe, ne_eq, bne_self_eq_false, beq_self_eq_true, hk', hqN']
    have hwk := wrap_succ (i := k) (by omega)
    have p5 := t5.pu
    -- what the release leaves
    have hfacts : s5.nodes = 16 ∧ s5.ws = VL (EF x0 m) q (N - q) ∧ 1 ≤ hd ∧ hd ≤ 16 ∧ (∀ v, bl s5 hd x0 = some v → 0 < v) ∧ (∀ v x, bl s5 hd x = some v → 0 < v) := by
      rcases hst with ⟨f, rfl, rfl, rfl⟩ | ⟨p, f, hk2⟩
      · refine ⟨f.n, f.ws, by omega, by omega, fun v hv => ?_, fun v x hv => ?_⟩
        · rw [f.b] at hv
          split at hv
          · injection hv with hv; omega
          · cases hv
        · rw [f.b] at hv
          split at hv
          · injection hv with hv; omega
          · cases hv
      · have := f.ph
        have := f.qN
        have hmh := hm12 hd
        unfold isM12 at hmh
        refine ⟨f.n, f.ws, by omega, by omega, fun v hv => ?_, fun v x hv => ?_⟩
        · rw [f.b] at hv
          split at hv
          · injection hv with hv; omega
          · cases hv
        · rw [f.b] at hv
          split at hv
          · injection hv with hv; omega
          · cases hv
    obtain ⟨n5, ws5, hd1, hd2, _, hpos⟩ := hfacts
    have p6 := p5.release (i := hd) (a := x0) (b := x0 + 1) (keep := 0) (by omega)
    have b6 := fun o x => rel0 p5 (h := hd) h0 (by omega) o x (fun v hv => hpos v x hv)
    have n6 : (s5.release hd x0 (x0 + 1) 0).nodes = 16 := n5
    have ws6 : (s5.release hd x0 (x0 + 1) 0).ws = VL (EF x0 m) q (N - q) := ws5
    have key : (∃ c, 0 < c ∧ q + c ≤ N ∧ grantOut (s5.release hd x0 (x0 + 1) 0) = VL (EF x0 m) q c ∧ FS (s5.release hd x0 (x0 + 1) 0).granted x0 m N q (q + c) (q + c) ∧ k = q) ∨
        (grantOut (s5.release hd x0 (x0 + 1) 0) = [] ∧ 2 ≤ hd ∧ ∃ p, FS (s5.release hd x0 (x0 + 1) 0).granted x0 m N p (hd - 1) q ∧ k + hd = 1 + p + q) := by
      have allnone : (∀ o x, bl (s5.release hd x0 (x0 + 1) 0) o x = none) → k = q → ∃ c, 0 < c ∧ q + c ≤ N ∧ grantOut (s5.release hd x0 (x0 + 1) 0) = VL (EF x0 m) q c ∧ FS (s5.release hd x0 (x0 + 1) 0).granted x0 m N q (q + c) (q + c) ∧ k = q := fun hno hkq => by
        obtain ⟨c, c1, c2, c3, c4⟩ := fair_next p6 h0 h1 hm12 hN hqN n6 ws6 hno
        exact ⟨c, c1, c2, c3, c4, hkq⟩
      rcases hst with ⟨f, hq0, hh0, hk0⟩ | ⟨p, f, hk2⟩
      · refine .inl (allnone (fun o x => ?_) (by omega))
        rw [b6, f.b]
        by_cases hc : x = x0 ∧ o = 16
        · rw [if_pos ⟨by omega, hc.1⟩]
        · rw [if_neg hc, ite_self]
      · have hph := f.ph
        by_cases hlast : hd = p + 1
        · refine .inl (allnone (fun o x => ?_) (by omega))
          rw [b6, f.b]
          by_cases hc : x = x0 ∧ p < o ∧ o ≤ hd
          · rw [if_pos ⟨by omega, hc.1⟩]
          · rw [if_neg hc, ite_self]
        · refine .inr ?_
          have hff := f.f hqN
          have hb1 : bl (s5.release hd x0 (x0 + 1) 0) (p + 1) x0 = some (m (p + 1)) := by
            rw [b6, if_neg (by omega), f.b, if_pos ⟨rfl, by omega, by omega⟩]
          obtain ⟨e1, e2, e3, _⟩ := fair_stay (N := N) (q := q) p6 h0 (fun j _ _ => hm12 j) n6 ⟨by omega, by have := f.qN; omega, .inl (by omega)⟩ hb1 (hm12 _) (hff (p + 1) (by omega) (by omega)) (N - q) (by omega)
          have eg : grantG (s5.release hd x0 (x0 + 1) 0) (s5.release hd x0 (x0 + 1) 0).ws = grantG (s5.release hd x0 (x0 + 1) 0) (VL (EF x0 m) q (N - q)) := by rw [ws6]
          refine ⟨?_, by omega, p, { n := by rw [granted_nodes]; exact n6, ws := ?_, qN := f.qN, ph := by omega, b := fun o x => ?_, f := fun _ o g1 g2 => hff o g1 (by omega) }, hk2⟩
          · show (grantG _ _).2.2.2 = _
            rw [eg, e3]
          · show (grantG _ _).2.1 = _
            rw [eg, e2]
          · show bl (grantG _ _).1 o x = _
            rw [eg, e1, b6, f.b]
            by_cases hc : x = x0 ∧ p < o ∧ o ≤ hd - 1
            · rw [if_neg (by omega), if_pos ⟨hc.1, hc.2.1, by omega⟩, if_pos hc]
            · rw [if_neg hc]
              by_cases hc2 : o = hd ∧ x = x0
              · rw [if_pos hc2]
              · rw [if_neg hc2, if_neg (by omega)]
    obtain ⟨y0, y1⟩ := cS k5
    refine jn2 (fun xl xh w' => ∃ (s : TS) (hd q : Nat), xl = .int .i64 (q : Int) ∧ xh = .int .i64 (hd : Int) ∧ TL w' (siz w) (siz w) s ∧ KO (siz w) tp w2 w' ∧ ∃ p, FS s x0 m N p hd q ∧ k + 1 + hd = 1 + p + q) (fun J2 hJ2 => ?_) ?_
    · simp only [stp, Nat.reduceAdd, Int.reduceLT, Int.reduceLE, Int.reduceEq, Int.reduceNe, ne_eq, bne_self_eq_false, beq_self_eq_true, stm, y0, y1]
      have ok5 : WsOk s5.ws := ws_ok (q := q) (n := N - q) (by omega) h0 h1 hm12 ws5
      refine release_c t5 ok5 (ws_n (q := q) (n := N - q) (by omega) ws5 n5) (by omega) (fun w8 g _ => absurd ⟨by omega, by unfold ok; dsimp only; omega, .inl rfl⟩ g) fun w6 v6 i ei hi1 hi2 _ _ t6 o6 k6 => ?_
      have hi : i = hd := by omega
      subst hi
      have k26 := k5.trans k6
      simp only [stp, Nat.reduceAdd, Int.reduceLT, Int.reduceLE, Int.reduceEq, Int.reduceNe, ne_eq, bne_self_eq_false, beq_self_eq_true]
      generalize s5.release i x0 (x0 + 1) 0 = s6 at *
      rcases key with ⟨c, hc0, hcN, ho6, fs6, hkq⟩ | ⟨ho6, hi2', p, fs6, hk2⟩
      · rw [ho6, VL_len] at o6
        obtain ⟨p6', c6, rfl⟩ := o6.form
        refine lp3 (fun mm xl xh xi w' => ∃ j : Nat, xl = .int .i64 ((q + j : Nat) : Int) ∧ xi = .int .i64 (j : Int) ∧ mm = c - j ∧ j ≤ c ∧ (0 < j → xh = .int .i64 ((q + j : Nat) : Int)) ∧ w' = w6) c ⟨0, rfl, rfl, rfl, by omega, fun h => absurd h (Nat.lt_irrefl 0), rfl⟩ ?_
        rintro mm xl xh xi w6' ⟨j, rfl, rfl, rfl, hj, hxh, rfl⟩ J3 hJ3 _j
        by_cases hjc : j < c
        · have hjc' : (j : Int) < (c : Int) := by omega
          have hw3 := wrap_succ (i := q + j) (by omega)
          have hw4 := wrap_succ (i := j) (by omega)
          have hgj := VL_get (EF x0 m) q c j hjc
          obtain ⟨g, cg, e, _, _, _, _, _, hcel⟩ := o6.at (by omega)
          injection e with e1 _ e2
          subst e1 e2
          have r0 : cel w6' g (j * 5) = some (.int .i64 ((q + j + 1 : Nat) : Int)) := by
            rw [← Nat.add_zero (j * 5), hcel (j * 5 + 0) (by omega)]
            exact flat_get (enc := enc5) enc5_len hgj (j := 0) (by omega)
          have r1 : cel w6' g (j * 5 + 1) = some (.int .i64 ((q + j + 1 : Nat) : Int)) := by
            rw [hcel (j * 5 + 1) (by omega)]
            exact flat_get (enc := enc5) enc5_len hgj (j := 1) (by omega)
          have xix : ∀ k, pur Try.prog (Instr.indexAt 32 (.slice (some ⟨g, 0, none⟩) c c6) (.int .i64 (j : Int))) k = k (.pointer (some ⟨g, j * 5, none⟩)) := fun k => by rw [ix_32 hjc, Nat.zero_add]
          simp only [stp, Nat.reduceAdd, Int.reduceLT, Int.reduceLE, Int.reduceEq, Int.reduceNe, ne_eq, bne_self_eq_false, beq_self_eq_true, hjc', xix]
          simp only [stp, Nat.reduceAdd, Int.reduceLT, Int.reduceLE, Int.reduceEq, Int.reduceNe, ne_eq, bne_self_eq_false, beq_self_eq_true, stm, r0, r1, hw3, hw4]
          refine hJ3 (c - (j + 1)) _ _ _ _ (by omega) ⟨j + 1, ?_, rfl, rfl, by omega, fun _ => ?_, rfl⟩
          · rw [Nat.add_assoc]
          · rw [Nat.add_assoc]
        · have hjc' : ¬ ((j : Int) < (c : Int)) := by omega
          have hjc2 : j = c := by omega
          subst hjc2
          have hc0' : ¬ ((j : Int) = 0) := by omega
          simp only [stp, Nat.reduceAdd, Int.reduceLT, Int.reduceLE, Int.reduceEq, Int.reduceNe, ne_eq, bne_self_eq_false, beq_self_eq_true, hjc', hc0']
          exact hJ2 _ _ _ ⟨s6.granted, q + j, q + j, rfl, hxh hc0, t6, k26, q, fs6, by omega⟩
      · rw [ho6] at o6
        obtain ⟨p6', c6, rfl⟩ := o6.form
        refine lp3 (fun mm xl xh xi w' => xl = .int .i64 (q : Int) ∧ xi = .int .i64 0 ∧ w' = w6) 0 ⟨rfl, rfl, rfl⟩ ?_
        rintro mm xl xh xi w6' ⟨rfl, rfl, rfl⟩ J3 hJ3 _j
        simp only [stp, Nat.reduceAdd, Int.reduceLT, Int.reduceLE, Int.reduceEq, Int.reduceNe, ne_eq, bne_self_eq_false, beq_self_eq_true, List.length_nil, Int.natCast_zero, Int.ofNat_zero]
        have hk9 : k + 1 + (i - 1) = 1 + p + q := by omega
        have n7 : s6.granted.nodes = 16 := fs6.n
        have hph := fs6.ph
        have hqN7 := fs6.qN
        refine lp2 (fun mm xh xn w' => ∃ n : Nat, n ≤ N ∧ xn = .int .i64 ((n + 1 : Nat) : Int) ∧ mm = N + 1 - n ∧ xh = .int .i64 (if n ≤ p then 0 else ((min n (i - 1) : Nat) : Int)) ∧ K0 w6' w') (N + 1) ⟨0, by omega, rfl, rfl, by rw [if_pos (Nat.zero_le _)], K0.refl _⟩ ?_
        rintro mm xh xn w7 ⟨n, hn, rfl, rfl, rfl, k7⟩ J4 hJ4 _j
        by_cases hnN : ((n + 1 : Nat) : Int) ≤ (N : Int)
        · have hwn := wrap_succ (i := n + 1) (by omega)
          simp only [stp, Nat.reduceAdd, Int.reduceLT, Int.reduceLE, Int.reduceEq, Int.reduceNe, ne_eq, bne_self_eq_false, beq_self_eq_true, hnN]
          refine jn1 (fun xh w' => xh = .int .i64 (if n + 1 ≤ p then 0 else ((min (n + 1) (i - 1) : Nat) : Int)) ∧ K0 w6' w') (fun J5 hJ5 => ?_) ?_
          · refine tmode_bl (i := n + 1) (t6.keep0 k7) (by omega) (by omega) fun w8 k8 => ?_
            have hmn := hm12 (n + 1)
            unfold isM12 at hmn
            rw [fs6.b]
            by_cases hc : p < n + 1 ∧ n + 1 ≤ i - 1
            · rw [if_pos ⟨rfl, hc.1, hc.2⟩]
              have hne : ¬ (m (n + 1) = 0) := by omega
              simp only [stp, Nat.reduceAdd, Int.reduceLT, Int.reduceLE, Int.reduceEq, Int.reduceNe, ne_eq, bne_self_eq_false, beq_self_eq_true, Option.getD_some, hne]
              refine hJ5 _ _ ⟨?_, k7.trans k8⟩
              rw [if_neg (by omega), Nat.min_eq_left hc.2]
            · rw [if_neg (by omega)]
              simp only [stp, Nat.reduceAdd, Int.reduceLT, Int.reduceLE, Int.reduceEq, Int.reduceNe, ne_eq, bne_self_eq_false, beq_self_eq_true, Option.getD_none]
              refine hJ5 _ _ ⟨?_, k7.trans k8⟩
              by_cases h1 : n + 1 ≤ p
              · rw [if_pos h1, if_pos (by omega)]
              · rw [if_neg h1, if_neg (by omega), Nat.min_eq_right (by omega), Nat.min_eq_right (by omega)]
          · rintro xh w8 ⟨rfl, k8⟩ _j
            simp only [stp, Nat.reduceAdd, Int.reduceLT, Int.reduceLE, Int.reduceEq, Int.reduceNe, ne_eq, bne_self_eq_false, beq_self_eq_true, hwn]
            exact hJ4 (N + 1 - (n + 1)) _ _ _ (by omega) ⟨n + 1, by omega, rfl, rfl, rfl, k8⟩
        · have hnN2 : n = N := by omega
          subst hnN2
          rw [if_neg (by omega), Nat.min_eq_right (by omega)]
          have hne : ¬ (((i - 1 : Nat) : Int) = 0) := by omega
          simp only [stp, Nat.reduceAdd, Int.reduceLT, Int.reduceLE, Int.reduceEq, Int.reduceNe, ne_eq, bne_self_eq_false, beq_self_eq_true, hnN, hne]
          exact hJ2 _ _ _ ⟨s6.granted, i - 1, q, rfl, rfl, t6.keep0 k7, k26.trans (KO.of0 k7), p, fs6, hk9⟩
    · rintro xl xh w6 ⟨s6, hd6, q6, rfl, rfl, t6, k6, p, fs6, hk6⟩ _j
      simp only [stp, Nat.reduceAdd, Int.reduceLT, Int.reduceLE, Int.reduceEq, Int.reduceNe, ne_eq, bne_self_eq_false, beq_self_eq_true, hwk]
      have := fs6.ph
      have := fs6.qN
      exact hJ (40 - (k + 1)) _ _ _ _ (by omega) ⟨s6, hd6, q6, k + 1, rfl, rfl, rfl, rfl, by omega, t6, k6, .inr ⟨p, fs6, hk6⟩⟩
end
end Go.Proofs.Ytiomanikpboclaa
