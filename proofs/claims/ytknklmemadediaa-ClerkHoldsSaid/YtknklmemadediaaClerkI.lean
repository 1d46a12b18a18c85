/- A node's side of the locks: what is owed. Conditions: as each says. -/
import Derived.Test.YtknklmemadediaaClerkH
set_option linter.unusedSimpArgs false
set_option linter.unusedVariables false
namespace Go.Proofs.Ytknklmemadediaa
open Go.Sh Go.Proofs.Ytknklmemadediaa.Mi
set_option maxRecDepth 100000
/-- What is owed, with what is used in mind. -/
def maxX (V : BF) (x : Int) (_ : Option Int) (o : Int) : Option Int := some (match V x with | some v => max v o | none => o)
def maxF (md : Int) (_ : Option Int) (v : Int) : Option Int := some (max v md)
def overs (lh : List (Pt Int)) (k : Pt Int) : List (Pt Int) := (partsL k.1 lh).filterMap fun p => if k.2 < p.2 then some (p.1, k.2) else none
def owedB (V O H : BF) : BF := fun x => match O x with
  | none => none
  | some o => match H x with
    | none => none
    | some h => if (match V x with | some v => max v o | none => o) < h then some (match V x with | some v => max v o | none => o) else none
theorem hasB_parts {k : Sp} {lh : List (Pt Int)} (hc : Canon lh) {x v : Int} (hx : hasB k x) (hv : valB lh x = some v) : ∃ p ∈ partsL k lh, hasB p.1 x ∧ p.2 = v := by
  have := partsL_val k lh hc.1 x
  rw [if_pos hx, hv] at this
  obtain ⟨p, hp, h1, h2⟩ := valB_some this
  exact ⟨p, hp, h1, h2⟩
theorem parts_in {k : Sp} {lh : List (Pt Int)} (hc : Canon lh) {p : Pt Int} (hp : p ∈ partsL k lh) {x : Int} (hx : hasB p.1 x) : hasB k x ∧ valB lh x = some p.2 := by
  have hP := partsL_canon (s := k) hc
  have := valB_mem hP.apart hp hx
  rw [partsL_val k lh hc.1] at this
  by_cases h : hasB k x
  · rw [if_pos h] at this; exact ⟨h, this⟩
  · rw [if_neg h] at this; cases this
theorem owes_val {lm lh : List (Pt Int)} (hm : Canon lm) (hh : Canon lh) (x : Int) :
    setF (asLocks (lm.flatMap (overs lh))) x = match valB lm x with | none => none | some m => match valB lh x with | none => none | some h => if m < h then some m else none := by
  have mem : ∀ e ∈ asLocks (lm.flatMap (overs lh)), hasB (e.1, e.2.1) x → ∃ h, valB lm x = some e.2.2 ∧ valB lh x = some h ∧ e.2.2 < h := fun e he hx => by
    obtain ⟨q, hq, rfl⟩ := List.mem_map.1 he
    obtain ⟨k, hk, hq⟩ := List.mem_flatMap.1 hq
    obtain ⟨p, hp, hpq⟩ := List.mem_filterMap.1 hq
    split at hpq
    · rename_i hlt
      injection hpq with hpq
      subst hpq
      obtain ⟨h1, h2⟩ := parts_in hh hp hx
      exact ⟨p.2, valB_mem hm.apart hk h1, h2, hlt⟩
    · cases hpq
  cases hv : valB lm x with
  | none => exact setF_none fun e he hx => by obtain ⟨_, h1, _⟩ := mem e he hx; rw [hv] at h1; cases h1
  | some m =>
    cases hw : valB lh x with
    | none => exact setF_none fun e he hx => by obtain ⟨_, _, h1, _⟩ := mem e he hx; rw [hw] at h1; cases h1
    | some h =>
      simp only
      by_cases hlt : m < h
      · rw [if_pos hlt]
        refine setF_some (fun e he hx => ?_) ?_
        · obtain ⟨_, h1, _⟩ := mem e he hx; rw [hv] at h1; injection h1 with h1; exact h1.symm
        · obtain ⟨k, hk, hkx, rfl⟩ := valB_some hv
          obtain ⟨p, hp, hpx, rfl⟩ := hasB_parts hh hkx hw
          exact ⟨(p.1.1, p.1.2, k.2), List.mem_map.2 ⟨(p.1, k.2), List.mem_flatMap.2 ⟨k, hk, List.mem_filterMap.2 ⟨p, hp, if_pos hlt⟩⟩, rfl⟩, hpx⟩
      · rw [if_neg hlt]
        exact setF_none fun e he hx => by
          obtain ⟨h', h1, h2, h3⟩ := mem e he hx
          rw [hv] at h1; rw [hw] at h2
          injection h1 with h1; injection h2 with h2
          omega
section
variable {w w' : World} {Q : Value → World → Prop} {B c : Nat} {s : CS} {mh mu mo : Nat} {wv : Value}
theorem cowed_c (h : CL w B c s) (hq : ∀ w' v e l', Canon l' → Bd 4096 l' → (∀ x, valB l' x = owedB (raiseB (valB s.lu) (cutB e (valB s.lw))) (valB s.lo) (valB s.lh) x) → Own w' (siz w) 25 3 v (asLocks l').length (flat enc3 (asLocks l')) → K0 w w' → Q v w') :
    callS Try.prog 19 #[.pointer (some ⟨c, 0, none⟩)] Q w := by
  refine ref19 ?_
  unfold S19
  refine cnone_c h ?_
  simp only [stp, Nat.reduceAdd, Int.reduceLT, Int.reduceLE, Int.reduceEq, Int.reduceNe, ne_eq, bne_self_eq_false, beq_self_eq_true]
  refine new_c fun w1 m1 k1 => ?_
  refine using_c (h.keep0 k1) fun w2 lV e u2 hdV hvV k2 => ?_
  obtain ⟨mh, mu, mo, wv, h⟩ := h
  have k02 := k1.trans k2
  have h2 := h.keep0 k02
  have m2 := m1.keep0 k2
  have s1 : siz w < siz w1 := m1.lt
  have c5 : cel w2 c 5 = some (.pointer (some ⟨mo, 0, none⟩)) := by rw [h2.cel]; rfl
  simp only [stp, Nat.reduceAdd, Int.reduceLT, Int.reduceLE, Int.reduceEq, Int.reduceNe, ne_eq, bne_self_eq_false, beq_self_eq_true, stm, c5]
  have hlO := h2.lenO
  have hcO := h2.o.canon
  refine all_c h2.o (by omega) fun w3 v3 o3 k3 => ?_
  have k03 := k02.trans k3
  have h3 := h.keep0 k03
  have m3 := m2.keep0 k3
  have u3 := u2.keep0 k3
  obtain ⟨pa, ca, rfl⟩ := o3.form
  simp only [stp, Nat.reduceAdd, Int.reduceLT, Int.reduceLE, Int.reduceEq, Int.reduceNe, ne_eq, bne_self_eq_false, beq_self_eq_true]
  have hlV := canon_len (n := 4096) u2.canon hdV
  refine lpc1 s.lo.length (by omega) (fun i w' => ∃ l, IM w' (siz w) l ∧ IM w' (siz w1) lV ∧ (∀ x, valB l x = overX (maxX (valB lV)) (fun _ => none) (valB (s.lo.take i)) x) ∧ KO (siz w) cp w3 w') ⟨[], m3, u3, fun x => rfl, KO.refl _ _ _⟩ ?_ ?_
  · rintro i w4 hlt ⟨l, m4, u4, hv4, k4⟩ J hJ _j
    have hlt' : ((i : Int) < (s.lo.length : Int)) := by omega
    obtain ⟨g, rfl, p0, p1, p2⟩ := part_at (k4.own o3 fun cs => rfl) hlt
    simp only [stp, Nat.reduceAdd, Int.reduceLT, Int.reduceLE, Int.reduceEq, Int.reduceNe, ne_eq, bne_self_eq_false, beq_self_eq_true, hlt']
    rw [ix_72 hlt]
    simp only [stp, Nat.reduceAdd, Int.reduceLT, Int.reduceLE, Int.reduceEq, Int.reduceNe, ne_eq, bne_self_eq_false, beq_self_eq_true, stm, p0, p1, p2]
    have k5 := (K0.refl w4).alloc (.cells #[.int .i64 s.lo[i].1.1, .int .i64 s.lo[i].1.2, .int .i64 s.lo[i].2] 75)
    have e5 : blk (w4.alloc (.cells #[.int .i64 s.lo[i].1.1, .int .i64 s.lo[i].1.2, .int .i64 s.lo[i].2] 75)) (siz w4) = some (.cells #[.int .i64 s.lo[i].1.1, .int .i64 s.lo[i].1.2, .int .i64 s.lo[i].2] 75) := blk_alloc_new
    generalize w4.alloc (.cells #[.int .i64 s.lo[i].1.1, .int .i64 s.lo[i].1.2, .int .i64 s.lo[i].2] 75) = w5 at k5 e5
    have m5 := m4.keep0 k5
    have u5 := u4.keep0 k5
    have z0 : cel w5 (siz w4) 0 = some (.int .i64 s.lo[i].1.1) := by rw [cel_b e5]; rfl
    have z1 : cel w5 (siz w4) 1 = some (.int .i64 s.lo[i].1.2) := by rw [cel_b e5]; rfl
    have z2 : cel w5 (siz w4) 2 = some (.int .i64 s.lo[i].2) := by rw [cel_b e5]; rfl
    try simp only [stp, Nat.reduceAdd, Int.reduceLT, Int.reduceLE, Int.reduceEq, Int.reduceNe, ne_eq, bne_self_eq_false, beq_self_eq_true, stm, z0, z1, z2]
    have hd5 : Bd 4096 l := bd_of_val m4.canon fun x hx => by rw [hv4]; exact overX_bd (fun _ _ => rfl) h.do_ _ hx
    refine set_any m5 (by have := canon_len (n := 4096) m5.canon hd5; omega) fun w6 l6 _ m6 hv6 _ k6 => ?_
    have u6 := u5.keepM m5 (by omega) k6
    have kk6 := k4.trans ((KO.of0 k5).trans (im_ko m5 (Nat.le_refl _) k6))
    obtain ⟨_, em5⟩ := im_blk m5
    have e6 := k6.blk e5 (ne_of_ty e5 em5 (by decide))
    have z0 : cel w6 (siz w4) 0 = some (.int .i64 s.lo[i].1.1) := by rw [cel_b e6]; rfl
    have z1 : cel w6 (siz w4) 1 = some (.int .i64 s.lo[i].1.2) := by rw [cel_b e6]; rfl
    try simp only [stp, Nat.reduceAdd, Int.reduceLT, Int.reduceLE, Int.reduceEq, Int.reduceNe, ne_eq, bne_self_eq_false, beq_self_eq_true, stm, z0, z1]
    refine parts_c u6 (by omega) fun w7 v7 o7 k7 => ?_
    have hWl := partsL_len s.lo[i].1 lV
    have hWc := partsL_canon (s := s.lo[i].1) u6.canon
    have hWv := partsL_val s.lo[i].1 lV u6.canon.1
    change Own w7 (siz w6) 75 3 v7 (partsL s.lo[i].1 lV).length (flat enc (partsL s.lo[i].1 lV)) at o7
    generalize partsL s.lo[i].1 lV = W at o7 hWl hWc hWv
    have hdW : Bd 4096 W := bd_of_val hWc fun x hx => by
      rw [hWv]; split
      · exact val_of_bd hdV hx
      · rfl
    have m7 := m6.keep0 k7
    have u7 := u6.keep0 k7
    have e7 := k7.blk e6 id
    have hd6 : Bd 4096 l6 := bd_of_val m6.canon fun x hx => by
      rw [hv6, if_neg (fun hh => by have := h.do_ _ (List.getElem_mem hlt); have := hh.2.2; simp only at this; omega)]; exact val_of_bd hd5 hx
    obtain ⟨pb, cb, rfl⟩ := o7.form
    simp only [stp, Nat.reduceAdd, Int.reduceLT, Int.reduceLE, Int.reduceEq, Int.reduceNe, ne_eq, bne_self_eq_false, beq_self_eq_true]
    refine lpc1 W.length (by omega) (fun j w' => ∃ l8, IM w' (siz w) l8 ∧ IM w' (siz w1) lV ∧ (∀ x, valB l8 x = overB (maxF s.lo[i].2) (valB l6) (valB (W.take j)) x) ∧ KO (siz w) cp w7 w') ⟨l6, m7, u7, fun x => rfl, KO.refl _ _ _⟩ ?_ ?_
    · rintro j w8 hjt ⟨l8, m8, u8, hv8, k8⟩ J2 hJ2 _j
      have hjt' : ((j : Int) < (W.length : Int)) := by omega
      obtain ⟨g', rfl, q0, q1, q2⟩ := part_at (k8.own o7 fun cs => rfl) hjt
      have e8 := k8.blk e7 rfl
      simp only [stp, Nat.reduceAdd, Int.reduceLT, Int.reduceLE, Int.reduceEq, Int.reduceNe, ne_eq, bne_self_eq_false, beq_self_eq_true, hjt']
      rw [ix_72 hjt]
      simp only [stp, Nat.reduceAdd, Int.reduceLT, Int.reduceLE, Int.reduceEq, Int.reduceNe, ne_eq, bne_self_eq_false, beq_self_eq_true, stm, q0, q1, q2]
      have k9 := (K0.refl w8).alloc (.cells #[.int .i64 W[j].1.1, .int .i64 W[j].1.2, .int .i64 W[j].2] 75)
      have e9 : blk (w8.alloc (.cells #[.int .i64 W[j].1.1, .int .i64 W[j].1.2, .int .i64 W[j].2] 75)) (siz w8) = some (.cells #[.int .i64 W[j].1.1, .int .i64 W[j].1.2, .int .i64 W[j].2] 75) := blk_alloc_new
      generalize w8.alloc (.cells #[.int .i64 W[j].1.1, .int .i64 W[j].1.2, .int .i64 W[j].2] 75) = w9 at k9 e9
      have m9 := m8.keep0 k9
      have u9 := u8.keep0 k9
      have f9 := k9.blk e8 id
      have z0 : cel w9 (siz w8) 0 = some (.int .i64 W[j].1.1) := by rw [cel_b e9]; rfl
      have z1 : cel w9 (siz w8) 1 = some (.int .i64 W[j].1.2) := by rw [cel_b e9]; rfl
      have z2 : cel w9 (siz w8) 2 = some (.int .i64 W[j].2) := by rw [cel_b e9]; rfl
      have y2 : cel w9 (siz w4) 2 = some (.int .i64 s.lo[i].2) := by rw [cel_b f9]; rfl
      try simp only [stp, Nat.reduceAdd, Int.reduceLT, Int.reduceLE, Int.reduceEq, Int.reduceNe, ne_eq, bne_self_eq_false, beq_self_eq_true, stm, z0, z1, z2, y2]
      have hd8 : Bd 4096 l8 := bd_of_val m8.canon fun x hx => by rw [hv8]; exact over_bd (fun y hy => val_of_bd hd6 hy) hdW _ hx
      refine set_any m9 (by have := canon_len (n := 4096) m9.canon hd8; omega) fun w10 l10 _ m10 hv10 _ k10 => ?_
      try simp only [stp, Nat.reduceAdd, Int.reduceLT, Int.reduceLE, Int.reduceEq, Int.reduceNe, ne_eq, bne_self_eq_false, beq_self_eq_true]
      refine hJ2 _ ⟨l10, m10, u9.keepM m9 (by omega) k10, fun x => ?_, k8.trans ((KO.of0 k9).trans (im_ko m9 (Nat.le_refl _) k10))⟩
      rw [hv10, over_take hWc.apart hjt, hv8]; rfl
    · rintro w8 ⟨l8, m8, u8, hv8, k8⟩ J2 _j
      have hn : ¬ ((W.length : Int) < (W.length : Int)) := by omega
      simp only [stp, Nat.reduceAdd, Int.reduceLT, Int.reduceLE, Int.reduceEq, Int.reduceNe, ne_eq, bne_self_eq_false, beq_self_eq_true, hn]
      refine hJ _ ⟨l8, m8, u8, fun x => ?_, kk6.trans ((KO.of0 k7).trans k8)⟩
      rw [hv8, overX_take hcO.apart hlt, List.take_length]
      by_cases hx : hasB s.lo[i].1 x
      · have hx' : hasB (s.lo[i].1.1, s.lo[i].1.2) x := hx
        rw [if_pos hx]
        cases hV : valB lV x with
        | none =>
          have e1 : valB W x = none := by rw [hWv, if_pos hx, hV]
          rw [over_none e1, hv6, if_pos hx']
          unfold maxX; rw [hV]
        | some g =>
          have e1 : valB W x = some g := by rw [hWv, if_pos hx, hV]
          rw [over_some e1]
          unfold maxX maxF; rw [hV]
      · have hx' : ¬ hasB (s.lo[i].1.1, s.lo[i].1.2) x := hx
        rw [if_neg hx]
        have e1 : valB W x = none := by rw [hWv, if_neg hx]
        rw [over_none e1, hv6, if_neg hx', hv4]
  · rintro w4 ⟨lm, m4, u4, hv4, k4⟩ J _j
    have hn : ¬ ((s.lo.length : Int) < (s.lo.length : Int)) := by omega
    rw [List.take_length] at hv4
    have hdM : Bd 4096 lm := bd_of_val m4.canon fun x hx => by
      rw [hv4, overX_none (val_of_bd h.do_ hx)]
    have hlM := canon_len (n := 4096) m4.canon hdM
    have k04 : K0 w w4 := (k03.new.trans (k4.below (Nat.le_refl _))).old'
    simp only [stp, Nat.reduceAdd, Int.reduceLT, Int.reduceLE, Int.reduceEq, Int.reduceNe, ne_eq, bne_self_eq_false, beq_self_eq_true, hn]
    refine clocks_c m4 (by omega) fun w5 v5 o5 k5 => ?_
    have k05 := k04.trans k5
    have h5 := h.keep0 k05
    have hcH := h5.h.canon
    have hlH := h5.lenH
    obtain ⟨pb, cb, rfl⟩ := o5.form
    simp only [stp, Nat.reduceAdd, Int.reduceLT, Int.reduceLE, Int.reduceEq, Int.reduceNe, ne_eq, bne_self_eq_false, beq_self_eq_true]
    refine lpc2 (asLocks lm).length (by rw [asLocks_len]; omega) (fun i x w' => ∃ E, E = (lm.take i).flatMap (overs s.lh) ∧ E.length ≤ i * 4096 ∧ Own w' (siz w5) 25 3 x E.length (flat enc3 (asLocks E)) ∧ K0 w5 w') ⟨[], rfl, by simp, Own.nil _ _ _ _, K0.refl _⟩ ?_ ?_
    · rintro i xo w6 hlt ⟨E, hE, hEl, oE, k6⟩ J hJ _j
      have hltN : i < lm.length := by rwa [asLocks_len] at hlt
      have hlt' : ((i : Int) < ((asLocks lm).length : Int)) := by omega
      obtain ⟨b, o, rfl, p0, p1, p2⟩ := lkp_at (o5.keep k6 fun _ _ => id).rd hltN
      have h6 := h5.keep0 k6
      simp only [stp, Nat.reduceAdd, Int.reduceLT, Int.reduceLE, Int.reduceEq, Int.reduceNe, ne_eq, bne_self_eq_false, beq_self_eq_true, hlt']
      rw [ix_27 hlt]
      simp only [stp, Nat.reduceAdd, Int.reduceLT, Int.reduceLE, Int.reduceEq, Int.reduceNe, ne_eq, bne_self_eq_false, beq_self_eq_true, stm, p0, p1, p2]
      have k7 := (K0.refl w6).alloc (.cells #[.int .i64 lm[i].1.1, .int .i64 lm[i].1.2, .int .i64 lm[i].2] 25)
      have e7 : blk (w6.alloc (.cells #[.int .i64 lm[i].1.1, .int .i64 lm[i].1.2, .int .i64 lm[i].2] 25)) (siz w6) = some (.cells #[.int .i64 lm[i].1.1, .int .i64 lm[i].1.2, .int .i64 lm[i].2] 25) := blk_alloc_new
      generalize w6.alloc (.cells #[.int .i64 lm[i].1.1, .int .i64 lm[i].1.2, .int .i64 lm[i].2] 25) = w7 at k7 e7
      have h7 := h6.keep0 k7
      have k7d : K0 w6 w7.drew := k7.drew
      have h7d := h6.keep0 k7d
      have c3 : cel w7 c 3 = some (.pointer (some ⟨mh, 0, none⟩)) := by rw [h7.cel]; rfl
      have z0 : cel w7 (siz w6) 0 = some (.int .i64 lm[i].1.1) := by rw [cel_b e7]; rfl
      have z1 : cel w7 (siz w6) 1 = some (.int .i64 lm[i].1.2) := by rw [cel_b e7]; rfl
      simp only [stp, Nat.reduceAdd, Int.reduceLT, Int.reduceLE, Int.reduceEq, Int.reduceNe, ne_eq, bne_self_eq_false, beq_self_eq_true, stm, c3, z0, z1]
      refine parts_c h7d.h (by have := h7d.lenH; omega) fun w8 v8 o8 k8 => ?_
      have hPl := partsL_len lm[i].1 s.lh
      change Own w8 (siz w7.drew) 75 3 v8 (partsL lm[i].1 s.lh).length (flat enc (partsL lm[i].1 s.lh)) at o8
      have hov : overs s.lh lm[i] = (partsL lm[i].1 s.lh).filterMap fun p => if lm[i].2 < p.2 then some (p.1, lm[i].2) else none := rfl
      generalize partsL lm[i].1 s.lh = P at o8 hPl hov
      have k68 : K0 w6 w8 := k7d.trans k8
      have e8 := k8.blk (blk_drew' e7) id
      have oE8 := oE.keep k68 fun _ _ => id
      have sd : siz w7.drew = siz w7 := rfl
      obtain ⟨pc, cc, rfl⟩ := o8.form
      have s56 := k6.size
      have s67 := k7.size
      have s78 := k8.size
      simp only [stp, Nat.reduceAdd, Int.reduceLT, Int.reduceLE, Int.reduceEq, Int.reduceNe, ne_eq, bne_self_eq_false, beq_self_eq_true]
      refine lpc2 P.length (by omega) (fun j x w' => ∃ F, F = (P.take j).filterMap (fun p => if lm[i].2 < p.2 then some (p.1, lm[i].2) else none) ∧ F.length ≤ j ∧ Own w' (siz w5) 25 3 x (E ++ F).length (flat enc3 (asLocks (E ++ F))) ∧ Own w' (siz w7.drew) 75 3 (.slice pc P.length cc) P.length (flat enc P) ∧ blk w' (siz w6) = some (.cells #[.int .i64 lm[i].1.1, .int .i64 lm[i].1.2, .int .i64 lm[i].2] 25) ∧ (∀ g, x.ownBlock = some g → g ≠ siz w6) ∧ K0 w5 w') ⟨[], rfl, by simp, by rw [List.append_nil]; exact oE8, o8, e8, fun g hg e => by have := (oE.lt hg).2; omega, k6.trans k68⟩ ?_ ?_
      · rintro j x9 w9 hjt ⟨F, hF, hFl, oF9, oP9, e9, hx9, k9⟩ J2 hJ2 _j
        have hjt' : ((j : Int) < (P.length : Int)) := by omega
        obtain ⟨g', rfl, q0, q1, q2⟩ := part_at oP9 hjt
        have s9 := k9.size
        simp only [stp, Nat.reduceAdd, Int.reduceLT, Int.reduceLE, Int.reduceEq, Int.reduceNe, ne_eq, bne_self_eq_false, beq_self_eq_true, hjt']
        have hFj : (P.take (j + 1)).filterMap (fun p => if lm[i].2 < p.2 then some (p.1, lm[i].2) else none) = F ++ (if lm[i].2 < P[j].2 then [(P[j].1, lm[i].2)] else []) := by
          rw [List.take_add_one, List.getElem?_eq_getElem hjt, Option.toList_some, List.filterMap_append, hF]
          congr 1
          by_cases hc : lm[i].2 < P[j].2 <;> simp [hc]
        refine jn1 (fun (x : Value) (w' : World) => ∃ F, F = (P.take (j + 1)).filterMap (fun p => if lm[i].2 < p.2 then some (p.1, lm[i].2) else none) ∧ F.length ≤ j + 1 ∧ Own w' (siz w5) 25 3 x (E ++ F).length (flat enc3 (asLocks (E ++ F))) ∧ Own w' (siz w7.drew) 75 3 (.slice (some ⟨g', 0, none⟩) P.length cc) P.length (flat enc P) ∧ blk w' (siz w6) = some (.cells #[.int .i64 lm[i].1.1, .int .i64 lm[i].1.2, .int .i64 lm[i].2] 25) ∧ (∀ g, x.ownBlock = some g → g ≠ siz w6) ∧ K0 w5 w') (fun J1 hJ1 => ?_) ?_
        · rw [ix_72 hjt]
          simp only [stp, Nat.reduceAdd, Int.reduceLT, Int.reduceLE, Int.reduceEq, Int.reduceNe, ne_eq, bne_self_eq_false, beq_self_eq_true, stm, q0, q1, q2]
          have k10 := (K0.refl w9).alloc (.cells #[.int .i64 P[j].1.1, .int .i64 P[j].1.2, .int .i64 P[j].2] 75)
          have e10 : blk (w9.alloc (.cells #[.int .i64 P[j].1.1, .int .i64 P[j].1.2, .int .i64 P[j].2] 75)) (siz w9) = some (.cells #[.int .i64 P[j].1.1, .int .i64 P[j].1.2, .int .i64 P[j].2] 75) := blk_alloc_new
          generalize w9.alloc (.cells #[.int .i64 P[j].1.1, .int .i64 P[j].1.2, .int .i64 P[j].2] 75) = w10 at k10 e10
          have f10 := k10.blk e9 id
          have z0 : cel w10 (siz w9) 0 = some (.int .i64 P[j].1.1) := by rw [cel_b e10]; rfl
          have z1 : cel w10 (siz w9) 1 = some (.int .i64 P[j].1.2) := by rw [cel_b e10]; rfl
          have z2 : cel w10 (siz w9) 2 = some (.int .i64 P[j].2) := by rw [cel_b e10]; rfl
          have y2 : cel w10 (siz w6) 2 = some (.int .i64 lm[i].2) := by rw [cel_b f10]; rfl
          have oF10 := oF9.keep k10 fun _ _ => id
          have oP10 := oP9.keep k10 fun _ _ => id
          by_cases hc : lm[i].2 < P[j].2
          · rw [if_pos hc] at hFj
            simp only [stp, Nat.reduceAdd, Int.reduceLT, Int.reduceLE, Int.reduceEq, Int.reduceNe, ne_eq, bne_self_eq_false, beq_self_eq_true, stm, z0, z1, z2, y2, hc]
            have hEF : (E ++ F).length ≤ 4096 * 4096 + 4096 := by
              rw [List.length_append]
              have : i * 4096 ≤ 4096 * 4096 := Nat.mul_le_mul_right _ (by omega)
              omega
            refine pu_27 oF10 (by intro u hu; simp only [List.mem_cons, List.not_mem_nil, or_false] at hu; rcases hu with rfl | rfl | rfl <;> exact one_int) (by omega) (by have := k10.size; omega) fun v' w' ho hk hr => ?_
            refine hJ1 _ _ ⟨_, rfl, by rw [hFj, List.length_append]; simp; omega, ?_, oP10.keep hk fun g hg e => ?_, hk.blk f10 fun e => hx9 _ e rfl, fun g hg => ?_, (k9.trans k10).trans' hk fun b hb e => ?_⟩
            · rw [hFj, ← List.append_assoc]
              have e11 : asLocks (E ++ F ++ [(P[j].1, lm[i].2)]) = asLocks (E ++ F) ++ [(P[j].1.1, P[j].1.2, lm[i].2)] := by unfold asLocks; rw [List.map_append]; rfl
              rw [e11, flat_append, List.length_append]
              exact ho
            · have := hx9 g e
              obtain ⟨_, _, cur, e', _, hh, _⟩ := oF10.2.resolve_left (by rintro ⟨rfl, _⟩; cases e)
              subst e'
              injection e with e; subst e
              injection hg with hg
              obtain ⟨_, _, cur2, e2, _, hh2, _⟩ := oP10.2.resolve_left (by rintro ⟨h', _⟩; cases h')
              injection e2 with e2 _ _
              injection e2 with e2
              injection e2 with e2 _ _
              subst e2
              exact ne_of_ty (show blk w10 _ = _ from hh) (show blk w10 _ = _ from hh2) (by decide) hg.symm
            · rcases hr g hg with h' | h'
              · exact hx9 g h'
              · have := k10.size; have := blk_lt e9; omega
            · have := (oF9.lt e).1; omega
          · rw [if_neg hc, List.append_nil] at hFj
            simp only [stp, Nat.reduceAdd, Int.reduceLT, Int.reduceLE, Int.reduceEq, Int.reduceNe, ne_eq, bne_self_eq_false, beq_self_eq_true, stm, z2, y2, hc]
            exact hJ1 _ _ ⟨F, hFj.symm, by omega, oF10, oP10, f10, hx9, k9.trans k10⟩
        · rintro x10 w10 hI _
          try simp only [stp, Nat.reduceAdd, Int.reduceLT, Int.reduceLE, Int.reduceEq, Int.reduceNe, ne_eq, bne_self_eq_false, beq_self_eq_true]
          exact hJ2 _ _ hI
      · rintro x9 w9 ⟨F, hF, hFl, oF9, oP9, e9, hx9, k9⟩ J2 _j
        have hn : ¬ ((P.length : Int) < (P.length : Int)) := by omega
        simp only [stp, Nat.reduceAdd, Int.reduceLT, Int.reduceLE, Int.reduceEq, Int.reduceNe, ne_eq, bne_self_eq_false, beq_self_eq_true, hn]
        rw [List.take_length, ← hov] at hF
        refine hJ _ _ ⟨E ++ F, ?_, ?_, oF9, k9⟩
        · rw [List.take_add_one, List.getElem?_eq_getElem hltN, Option.toList_some, List.flatMap_append, hE, hF]
          simp
        · rw [List.length_append]; omega
    · rintro xo w6 ⟨E, hE, hEl, oE, k6⟩ J _j
      have hn : ¬ (((asLocks lm).length : Int) < ((asLocks lm).length : Int)) := by omega
      simp only [stp, Nat.reduceAdd, Int.reduceLT, Int.reduceLE, Int.reduceEq, Int.reduceNe, ne_eq, bne_self_eq_false, beq_self_eq_true, hn]
      rw [asLocks_len] at hEl
      rw [asLocks_len, List.take_length] at hE
      have hE4 : lm.length * 4096 ≤ 4096 * 4096 := Nat.mul_le_mul_right _ hlM
      have oE' : Rd 3 w6 xo (asLocks E).length (flat enc3 (asLocks E)) := by rw [asLocks_len]; exact oE.rd
      refine tidy_c oE' (by rw [asLocks_len]; omega) (fun k hk => ?_) fun w7 v7 l7 hc7 hd7 hv7 o7 k7 => ?_
      · obtain ⟨q, hq, rfl⟩ := List.mem_map.1 hk
        rw [hE] at hq
        obtain ⟨kk, hkk, hq⟩ := List.mem_flatMap.1 hq
        obtain ⟨p, hp, hpq⟩ := List.mem_filterMap.1 hq
        split at hpq
        · injection hpq with hpq
          subst hpq
          have hP := partsL_canon (s := kk.1) hcH
          have ho := hP.1 p hp
          have h9 := ho.2
          have := (parts_in hcH hp (x := p.1.2 - 1) ⟨ho, by omega, by omega⟩).1
          have := this.2.2
          have := hdM kk hkk
          simp only
          omega
        · cases hpq
      · try simp only [stp, Nat.reduceAdd, Int.reduceLT, Int.reduceLE, Int.reduceEq, Int.reduceNe, ne_eq, bne_self_eq_false, beq_self_eq_true]
        have s6 := k6.size
        have s05 := k05.size
        refine hq _ _ e l7 hc7 hd7 (fun x => ?_) (o7.le (by omega)) ((k05.trans k6).trans k7)
        rw [hv7, hE, owes_val m4.canon hcH, hv4]
        unfold owedB overX
        cases valB s.lo x with
        | none => rfl
        | some o =>
          simp only [maxX]
          rw [show valB lV = raiseB (valB s.lu) (cutB e (valB s.lw)) from funext hvV]
end
end Go.Proofs.Ytknklmemadediaa
