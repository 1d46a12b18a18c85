/- A node's side of the locks: what changes where locks are given. Conditions: as each says. -/
import Derived.Test.YtknklmemadediaaClerkI
set_option linter.unusedSimpArgs false
set_option linter.unusedVariables false
namespace Go.Proofs.Ytknklmemadediaa
open Go.Sh Go.Proofs.Ytknklmemadediaa.Mi
set_option maxRecDepth 100000
section
variable {w w' : World} {Q : Value → World → Prop} {B c : Nat} {s : CS} {mh mu mo : Nat} {wv : Value}
theorem changes_c {v : Value} {L : List I3} (h : CL w B c s) (hL : Rd 3 w v L.length (flat enc3 L)) (hlen : L.length ≤ 100000) (hd : ∀ k ∈ L, k.2.1 ≤ 4096)
    (hq : ∀ w' v' e l', Canon l' → Bd 4096 l' → (∀ x, valB l' x = (chgF (raiseB (valB s.lu) (cutB e (valB s.lw))) (valB s.lh) L).2 x) → Own w' (siz w) 25 3 v' (asLocks l').length (flat enc3 (asLocks l')) → K0 w w' → Q v' w') :
    callS Try.prog 48 #[.pointer (some ⟨c, 0, none⟩), v] Q w := by
  refine ref48 ?_
  unfold S48
  refine new_c fun w1 m1 k1 => ?_
  refine using_c (h.keep0 k1) fun w2 lV e u2 hdV hvV k2 => ?_
  refine new_c fun w3 t3 k3 => ?_
  obtain ⟨mh, mu, mo, wv, h⟩ := h
  have k03 := (k1.trans k2).trans k3
  have h3 := h.keep0 k03
  have m3 := (m1.keep0 k2).keep0 k3
  have u3 := u2.keep0 k3
  have n1 : siz w < siz w1 := m1.lt
  have n2 : siz w1 < siz w2 := u2.lt
  have n3 : siz w2 < siz w3 := t3.lt
  have c3 : cel w3 c 3 = some (.pointer (some ⟨mh, 0, none⟩)) := by rw [h3.cel]; rfl
  simp only [stp, Nat.reduceAdd, Int.reduceLT, Int.reduceLE, Int.reduceEq, Int.reduceNe, ne_eq, bne_self_eq_false, beq_self_eq_true, stm, c3]
  have hlH := h3.lenH
  have hcH := h3.h.canon
  have hlV := canon_len (n := 4096) u2.canon hdV
  refine clocks_c h3.h (by omega) fun w4 v4 o4 k4 => ?_
  have k04 := k03.trans k4
  have m4 := m3.keep0 k4
  have u4 := u3.keep0 k4
  have t4 := t3.keep0 k4
  obtain ⟨pa, ca, rfl⟩ := o4.form
  simp only [stp, Nat.reduceAdd, Int.reduceLT, Int.reduceLE, Int.reduceEq, Int.reduceNe, ne_eq, bne_self_eq_false, beq_self_eq_true]
  refine lpc1 (asLocks s.lh).length (by rw [asLocks_len]; omega) (fun i w' => ∃ lt, IM w' (siz w) [] ∧ IM w' (siz w1) lV ∧ IM w' (siz w2) lt ∧ (∀ x, valB lt x = overB sF (fun _ => none) (valB (s.lh.take i)) x) ∧ KO (siz w) cp w4 w') ⟨[], m4, u4, t4, fun x => rfl, KO.refl _ _ _⟩ ?_ ?_
  · rintro i w5 hlt ⟨lt, m5, u5, t5, hv5, k5⟩ J hJ _j
    have hltN : i < s.lh.length := by rwa [asLocks_len] at hlt
    have hlt' : ((i : Int) < ((asLocks s.lh).length : Int)) := by omega
    obtain ⟨b, o, rfl, p0, p1, p2⟩ := lkp_at (k5.own o4 fun cs => rfl).rd hltN
    simp only [stp, Nat.reduceAdd, Int.reduceLT, Int.reduceLE, Int.reduceEq, Int.reduceNe, ne_eq, bne_self_eq_false, beq_self_eq_true, hlt']
    rw [ix_27 hlt]
    simp only [stp, Nat.reduceAdd, Int.reduceLT, Int.reduceLE, Int.reduceEq, Int.reduceNe, ne_eq, bne_self_eq_false, beq_self_eq_true, stm, p0, p1, p2]
    have k6 := (K0.refl w5).alloc (.cells #[.int .i64 s.lh[i].1.1, .int .i64 s.lh[i].1.2, .int .i64 s.lh[i].2] 25)
    have hd5 : Bd 4096 lt := bd_of_val t5.canon fun x hx => by rw [hv5]; exact over_bd (fun _ _ => rfl) h.dh _ hx
    have t6 := t5.keep0 k6
    refine set_any t6 (by have := canon_len (n := 4096) t6.canon hd5; omega) fun w7 l7 _ t7 hv7 _ k7 => ?_
    try simp only [stp, Nat.reduceAdd, Int.reduceLT, Int.reduceLE, Int.reduceEq, Int.reduceNe, ne_eq, bne_self_eq_false, beq_self_eq_true]
    refine hJ _ ⟨l7, (m5.keep0 k6).keepM t6 (by omega) k7, (u5.keep0 k6).keepM t6 (by omega) k7, t7, fun x => ?_, k5.trans ((KO.of0 k6).trans (im_ko t6 (by omega) k7))⟩
    rw [hv7, over_take hcH.apart hltN, hv5]; rfl
  · rintro w5 ⟨lt, m5, u5, t5, hv5, k5⟩ J _j
    have hn : ¬ (((asLocks s.lh).length : Int) < ((asLocks s.lh).length : Int)) := by omega
    rw [asLocks_len, List.take_length] at hv5
    have hT : ∀ x, valB lt x = valB s.lh x := fun x => by
      rw [hv5]
      unfold overB sF
      cases valB s.lh x <;> rfl
    have k05 : K0 w w5 := (k04.new.trans (k5.below (Nat.le_refl _))).old'
    have hL5 := hL.keep0 k05
    obtain ⟨pl, cl, rfl⟩ := hL.form
    simp only [stp, Nat.reduceAdd, Int.reduceLT, Int.reduceLE, Int.reduceEq, Int.reduceNe, ne_eq, bne_self_eq_false, beq_self_eq_true, hn]
    refine lpc1 L.length (by omega) (fun i w' => ∃ lm lt, IM w' (siz w) lm ∧ IM w' (siz w1) lV ∧ IM w' (siz w2) lt ∧ (∀ x, valB lt x = (chgF (valB lV) (valB s.lh) (L.take i)).1 x) ∧ (∀ x, valB lm x = (chgF (valB lV) (valB s.lh) (L.take i)).2 x) ∧ KO (siz w) cp w5 w') ⟨[], lt, m5, u5, t5, hT, fun x => rfl, KO.refl _ _ _⟩ ?_ ?_
    · rintro i w6 hlt ⟨lm, lt6, m6, u6, t6, ht6, hm6, k6⟩ J hJ _j
      have hlt' : ((i : Int) < (L.length : Int)) := by omega
      have k56 : K0 w w6 := (k05.new.trans (k6.below (Nat.le_refl _))).old'
      obtain ⟨b, o, rfl, p0, p1, p2⟩ := lkr_at (hL.keep0 k56) hlt
      have hsn : chgF (valB lV) (valB s.lh) (L.take (i + 1)) = chgS (valB lV) (chgF (valB lV) (valB s.lh) (L.take i)) L[i] := by
        rw [List.take_add_one, List.getElem?_eq_getElem hlt, Option.toList_some, chgF_snoc]
      have hft : (chgF (valB lV) (valB s.lh) (L.take i)).1 = valB lt6 := funext fun x => (ht6 x).symm
      have hfm : (chgF (valB lV) (valB s.lh) (L.take i)).2 = valB lm := funext fun x => (hm6 x).symm
      have hdt : Bd 4096 lt6 := bd_of_val t6.canon fun x hx => by rw [ht6]; exact (chgF_bd (val_of_bd h.dh hx) _).1
      have hdm : Bd 4096 lm := bd_of_val m6.canon fun x hx => by rw [hm6]; exact (chgF_bd (val_of_bd h.dh hx) _).2
      have hlt6 := canon_len (n := 4096) t6.canon hdt
      have hlm6 := canon_len (n := 4096) m6.canon hdm
      simp only [stp, Nat.reduceAdd, Int.reduceLT, Int.reduceLE, Int.reduceEq, Int.reduceNe, ne_eq, bne_self_eq_false, beq_self_eq_true, hlt']
      refine jn0 (fun w' => ∃ lm lt, IM w' (siz w) lm ∧ IM w' (siz w1) lV ∧ IM w' (siz w2) lt ∧ (∀ x, valB lt x = (chgF (valB lV) (valB s.lh) (L.take (i + 1))).1 x) ∧ (∀ x, valB lm x = (chgF (valB lV) (valB s.lh) (L.take (i + 1))).2 x) ∧ KO (siz w) cp w5 w') (fun J1 hJ1 => ?_) ?_
      · rw [ix_27 hlt]
        simp only [stp, Nat.reduceAdd, Int.reduceLT, Int.reduceLE, Int.reduceEq, Int.reduceNe, ne_eq, bne_self_eq_false, beq_self_eq_true, stm, p0, p1, p2]
        have k7 := (K0.refl w6).alloc (.cells #[.int .i64 L[i].1, .int .i64 L[i].2.1, .int .i64 L[i].2.2] 25)
        have e7 : blk (w6.alloc (.cells #[.int .i64 L[i].1, .int .i64 L[i].2.1, .int .i64 L[i].2.2] 25)) (siz w6) = some (.cells #[.int .i64 L[i].1, .int .i64 L[i].2.1, .int .i64 L[i].2.2] 25) := blk_alloc_new
        generalize w6.alloc (.cells #[.int .i64 L[i].1, .int .i64 L[i].2.1, .int .i64 L[i].2.2] 25) = w7 at k7 e7
        have m7 := m6.keep0 k7
        have u7 := u6.keep0 k7
        have t7 := t6.keep0 k7
        have z2 : cel w7 (siz w6) 2 = some (.int .i64 L[i].2.2) := by rw [cel_b e7]; rfl
        try simp only [stp, Nat.reduceAdd, Int.reduceLT, Int.reduceLE, Int.reduceEq, Int.reduceNe, ne_eq, bne_self_eq_false, beq_self_eq_true, stm, z2]
        refine mvalid_c ?_
        by_cases hmd : isMd L[i].2.2
        case neg =>
          simp only [stp, Nat.reduceAdd, Int.reduceLT, Int.reduceLE, Int.reduceEq, Int.reduceNe, ne_eq, bne_self_eq_false, beq_self_eq_true, hmd]
          refine hJ1 _ ⟨lm, lt6, m7, u7, t7, fun x => ?_, fun x => ?_, k6.trans (KO.of0 k7)⟩
          all_goals
            have hg : gives (valB lV) (valB lt6) L[i] x = false := by
              unfold gives
              rw [decide_eq_false (show ¬ (0 ≤ L[i].2.2 ∧ L[i].2.2 ≤ 2) from hmd)]; rfl
            rw [hsn]
            simp only [chgS, hft, hfm, hg]
            rfl
        case pos =>
        simp only [stp, Nat.reduceAdd, Int.reduceLT, Int.reduceLE, Int.reduceEq, Int.reduceNe, ne_eq, bne_self_eq_false, beq_self_eq_true, hmd]
        refine new_c fun w8 f8 k8 => ?_
        have m8 := m7.keep0 k8
        have u8 := u7.keep0 k8
        have t8 := t7.keep0 k8
        have e8 := k8.blk e7 id
        have n8 : siz w2 < siz w7 := by have := t7.lt; omega
        have z0 : cel w8 (siz w6) 0 = some (.int .i64 L[i].1) := by rw [cel_b e8]; rfl
        have z1 : cel w8 (siz w6) 1 = some (.int .i64 L[i].2.1) := by rw [cel_b e8]; rfl
        simp only [stp, Nat.reduceAdd, Int.reduceLT, Int.reduceLE, Int.reduceEq, Int.reduceNe, ne_eq, bne_self_eq_false, beq_self_eq_true, stm, z0, z1]
        refine parts_c t8 (by omega) fun w9 v9 o9 k9 => ?_
        have hPl := partsL_len (L[i].1, L[i].2.1) lt6
        have hPc := partsL_canon (s := (L[i].1, L[i].2.1)) t8.canon
        have hPv := partsL_val (L[i].1, L[i].2.1) lt6 t8.canon.1
        change Own w9 (siz w8) 75 3 v9 (partsL (L[i].1, L[i].2.1) lt6).length (flat enc (partsL (L[i].1, L[i].2.1) lt6)) at o9
        generalize partsL (L[i].1, L[i].2.1) lt6 = P at o9 hPl hPc hPv
        have hdP : Bd 4096 P := bd_of_val hPc fun x hx => by
          rw [hPv]; split
          · exact val_of_bd hdt hx
          · rfl
        have m9 := m8.keep0 k9
        have u9 := u8.keep0 k9
        have t9 := t8.keep0 k9
        have f9 := f8.keep0 k9
        have e9 := k9.blk e8 id
        have nf : siz w7 < siz w9 := f9.lt
        have n76 : siz w6 < siz w7 := blk_lt e7
        obtain ⟨pc, cc, rfl⟩ := o9.form
        simp only [stp, Nat.reduceAdd, Int.reduceLT, Int.reduceLE, Int.reduceEq, Int.reduceNe, ne_eq, bne_self_eq_false, beq_self_eq_true]
        refine lpc1 P.length (by omega) (fun j w' => ∃ lf, IM w' (siz w) lm ∧ IM w' (siz w1) lV ∧ IM w' (siz w2) lt6 ∧ IM w' (siz w7) lf ∧ (∀ x, valB lf x = overX (freeX (valB lV) L[i].2.2) (fun _ => none) (valB (P.take j)) x) ∧ KO (siz w) cp w9 w') ⟨[], m9, u9, t9, f9, fun x => rfl, KO.refl _ _ _⟩ ?_ ?_
        · rintro j w10 hjt ⟨lf, m10, u10, t10, f10, hf10, k10⟩ J2 hJ2 _j
          have hjt' : ((j : Int) < (P.length : Int)) := by omega
          obtain ⟨g, rfl, q0, q1, q2⟩ := part_at (k10.own o9 fun cs => rfl) hjt
          have e10 := k10.blk e9 rfl
          have hTk := fun x => overX_take (F := freeX (valB lV) L[i].2.2) (H := fun _ => none) hPc.apart hjt x
          have hdf : Bd 4096 lf := bd_of_val f10.canon fun x hx => by rw [hf10]; exact overX_bd (fun _ _ => rfl) hdP _ hx
          simp only [stp, Nat.reduceAdd, Int.reduceLT, Int.reduceLE, Int.reduceEq, Int.reduceNe, ne_eq, bne_self_eq_false, beq_self_eq_true, hjt']
          refine jn0 (fun w' => ∃ lf, IM w' (siz w) lm ∧ IM w' (siz w1) lV ∧ IM w' (siz w2) lt6 ∧ IM w' (siz w7) lf ∧ (∀ x, valB lf x = overX (freeX (valB lV) L[i].2.2) (fun _ => none) (valB (P.take (j + 1))) x) ∧ KO (siz w) cp w9 w') (fun J3 hJ3 => ?_) ?_
          · rw [ix_72 hjt]
            simp only [stp, Nat.reduceAdd, Int.reduceLT, Int.reduceLE, Int.reduceEq, Int.reduceNe, ne_eq, bne_self_eq_false, beq_self_eq_true, stm, q0, q1, q2]
            have k11 := (K0.refl w10).alloc (.cells #[.int .i64 P[j].1.1, .int .i64 P[j].1.2, .int .i64 P[j].2] 75)
            have e11 : blk (w10.alloc (.cells #[.int .i64 P[j].1.1, .int .i64 P[j].1.2, .int .i64 P[j].2] 75)) (siz w10) = some (.cells #[.int .i64 P[j].1.1, .int .i64 P[j].1.2, .int .i64 P[j].2] 75) := blk_alloc_new
            generalize w10.alloc (.cells #[.int .i64 P[j].1.1, .int .i64 P[j].1.2, .int .i64 P[j].2] 75) = w11 at k11 e11
            have m11 := m10.keep0 k11
            have u11 := u10.keep0 k11
            have t11 := t10.keep0 k11
            have f11 := f10.keep0 k11
            have x11 := k11.blk e10 id
            have y0 : cel w11 (siz w10) 0 = some (.int .i64 P[j].1.1) := by rw [cel_b e11]; rfl
            have y1 : cel w11 (siz w10) 1 = some (.int .i64 P[j].1.2) := by rw [cel_b e11]; rfl
            have y2 : cel w11 (siz w10) 2 = some (.int .i64 P[j].2) := by rw [cel_b e11]; rfl
            have z2 : cel w11 (siz w6) 2 = some (.int .i64 L[i].2.2) := by rw [cel_b x11]; rfl
            by_cases hle : P[j].2 ≤ L[i].2.2
            · have hnl : ¬ L[i].2.2 < P[j].2 := by omega
              simp only [stp, Nat.reduceAdd, Int.reduceLT, Int.reduceLE, Int.reduceEq, Int.reduceNe, ne_eq, bne_self_eq_false, beq_self_eq_true, stm, y2, z2, hle]
              refine hJ3 _ ⟨lf, m11, u11, t11, f11, fun x => ?_, k10.trans (KO.of0 k11)⟩
              rw [hTk, hf10]
              split
              · unfold freeX; rw [if_neg hnl]
              · rfl
            have hlt9 : L[i].2.2 < P[j].2 := by omega
            simp only [stp, Nat.reduceAdd, Int.reduceLT, Int.reduceLE, Int.reduceEq, Int.reduceNe, ne_eq, bne_self_eq_false, beq_self_eq_true, stm, y0, y1, y2, z2, hle]
            refine set_any f11 (by have := canon_len (n := 4096) f11.canon hdf; omega) fun w12 l12 _ f12 hv12 _ k12 => ?_
            have m12 := m11.keepM f11 (by omega) k12
            have u12 := u11.keepM f11 (by omega) k12
            have t12 := t11.keepM f11 (by omega) k12
            have ko12 := im_ko (B := siz w) f11 (by omega) k12
            have x12 := ko12.blk x11 rfl
            have e12 := ko12.blk e11 rfl
            have hd12 : Bd 4096 l12 := bd_of_val f12.canon fun x hx => by
              rw [hv12, if_neg (fun hh => by have := hdP _ (List.getElem_mem hjt); have := hh.2.2; simp only at this; omega)]; exact val_of_bd hdf hx
            have y0 : cel w12 (siz w10) 0 = some (.int .i64 P[j].1.1) := by rw [cel_b e12]; rfl
            have y1 : cel w12 (siz w10) 1 = some (.int .i64 P[j].1.2) := by rw [cel_b e12]; rfl
            try simp only [stp, Nat.reduceAdd, Int.reduceLT, Int.reduceLE, Int.reduceEq, Int.reduceNe, ne_eq, bne_self_eq_false, beq_self_eq_true, stm, y0, y1]
            refine parts_c u12 (by omega) fun w13 v13 o13 k13 => ?_
            have hWl := partsL_len P[j].1 lV
            have hWc := partsL_canon (s := P[j].1) u12.canon
            have hWv := partsL_val P[j].1 lV u12.canon.1
            change Own w13 (siz w12) 75 3 v13 (partsL P[j].1 lV).length (flat enc (partsL P[j].1 lV)) at o13
            generalize partsL P[j].1 lV = W at o13 hWl hWc hWv
            have x13 := k13.blk x12 id
            obtain ⟨pd, cd, rfl⟩ := o13.form
            simp only [stp, Nat.reduceAdd, Int.reduceLT, Int.reduceLE, Int.reduceEq, Int.reduceNe, ne_eq, bne_self_eq_false, beq_self_eq_true]
            refine lpc1 W.length (by omega) (fun t w' => ∃ l14, IM w' (siz w) lm ∧ IM w' (siz w1) lV ∧ IM w' (siz w2) lt6 ∧ IM w' (siz w7) l14 ∧ Bd 4096 l14 ∧ (∀ x, valB l14 x = overB (dropF L[i].2.2) (valB l12) (valB (W.take t)) x) ∧ KO (siz w) cp w13 w') ⟨l12, m12.keep0 k13, u12.keep0 k13, t12.keep0 k13, f12.keep0 k13, hd12, fun x => rfl, KO.refl _ _ _⟩ ?_ ?_
            · rintro t w14 htt ⟨l14, m14, u14, t14, f14, hd14, hv14, k14⟩ J4 hJ4 _j
              have htt' : ((t : Int) < (W.length : Int)) := by omega
              obtain ⟨g', rfl, r0, r1, r2⟩ := part_at (k14.own o13 fun cs => rfl) htt
              have x14 := k14.blk x13 rfl
              have hTw := fun x => over_take (F := dropF L[i].2.2) (H := valB l12) hWc.apart htt x
              simp only [stp, Nat.reduceAdd, Int.reduceLT, Int.reduceLE, Int.reduceEq, Int.reduceNe, ne_eq, bne_self_eq_false, beq_self_eq_true, htt']
              refine jn0 (fun w' => ∃ l14, IM w' (siz w) lm ∧ IM w' (siz w1) lV ∧ IM w' (siz w2) lt6 ∧ IM w' (siz w7) l14 ∧ Bd 4096 l14 ∧ (∀ x, valB l14 x = overB (dropF L[i].2.2) (valB l12) (valB (W.take (t + 1))) x) ∧ KO (siz w) cp w13 w') (fun J5 hJ5 => ?_) ?_
              · rw [ix_72 htt]
                simp only [stp, Nat.reduceAdd, Int.reduceLT, Int.reduceLE, Int.reduceEq, Int.reduceNe, ne_eq, bne_self_eq_false, beq_self_eq_true, stm, r0, r1, r2]
                have k15 := (K0.refl w14).alloc (.cells #[.int .i64 W[t].1.1, .int .i64 W[t].1.2, .int .i64 W[t].2] 75)
                have e15 : blk (w14.alloc (.cells #[.int .i64 W[t].1.1, .int .i64 W[t].1.2, .int .i64 W[t].2] 75)) (siz w14) = some (.cells #[.int .i64 W[t].1.1, .int .i64 W[t].1.2, .int .i64 W[t].2] 75) := blk_alloc_new
                generalize w14.alloc (.cells #[.int .i64 W[t].1.1, .int .i64 W[t].1.2, .int .i64 W[t].2] 75) = w15 at k15 e15
                have m15 := m14.keep0 k15
                have u15 := u14.keep0 k15
                have t15 := t14.keep0 k15
                have f15 := f14.keep0 k15
                have x15 := k15.blk x14 id
                have y0 : cel w15 (siz w14) 0 = some (.int .i64 W[t].1.1) := by rw [cel_b e15]; rfl
                have y1 : cel w15 (siz w14) 1 = some (.int .i64 W[t].1.2) := by rw [cel_b e15]; rfl
                have y2 : cel w15 (siz w14) 2 = some (.int .i64 W[t].2) := by rw [cel_b e15]; rfl
                have z2 : cel w15 (siz w6) 2 = some (.int .i64 L[i].2.2) := by rw [cel_b x15]; rfl
                by_cases hgt : L[i].2.2 < W[t].2
                · simp only [stp, Nat.reduceAdd, Int.reduceLT, Int.reduceLE, Int.reduceEq, Int.reduceNe, ne_eq, bne_self_eq_false, beq_self_eq_true, stm, y0, y1, y2, z2, hgt]
                  refine clear_any f15 (by have := canon_len (n := 4096) f15.canon hd14; omega) fun w16 l16 _ f16 hv16 _ k16 => ?_
                  try simp only [stp, Nat.reduceAdd, Int.reduceLT, Int.reduceLE, Int.reduceEq, Int.reduceNe, ne_eq, bne_self_eq_false, beq_self_eq_true]
                  refine hJ5 _ ⟨l16, m15.keepM f15 (by omega) k16, u15.keepM f15 (by omega) k16, t15.keepM f15 (by omega) k16, f16, bd_of_val f16.canon fun x hx => ?_, fun x => ?_, k14.trans ((KO.of0 k15).trans (im_ko f15 (by omega) k16))⟩
                  · rw [hv16]; split
                    · rfl
                    · exact val_of_bd hd14 hx
                  · rw [hv16, hTw, hv14]
                    have : hasB (W[t].1.1, W[t].1.2) x ↔ hasB W[t].1 x := Iff.rfl
                    by_cases hx : hasB W[t].1 x
                    · rw [if_pos (this.2 hx), if_pos hx]; unfold dropF; rw [if_pos hgt]
                    · rw [if_neg (fun h' => hx (this.1 h')), if_neg hx]
                · simp only [stp, Nat.reduceAdd, Int.reduceLT, Int.reduceLE, Int.reduceEq, Int.reduceNe, ne_eq, bne_self_eq_false, beq_self_eq_true, stm, y2, z2, hgt]
                  refine hJ5 _ ⟨l14, m15, u15, t15, f15, hd14, fun x => ?_, k14.trans (KO.of0 k15)⟩
                  rw [hTw, hv14]
                  split
                  · unfold dropF; rw [if_neg hgt]
                  · rfl
              · rintro w15 hI _
                try simp only [stp, Nat.reduceAdd, Int.reduceLT, Int.reduceLE, Int.reduceEq, Int.reduceNe, ne_eq, bne_self_eq_false, beq_self_eq_true]
                exact hJ4 _ hI
            · rintro w14 ⟨l14, m14, u14, t14, f14, hd14, hv14, k14⟩ J4 _j
              have hn : ¬ ((W.length : Int) < (W.length : Int)) := by omega
              rw [List.take_length] at hv14
              simp only [stp, Nat.reduceAdd, Int.reduceLT, Int.reduceLE, Int.reduceEq, Int.reduceNe, ne_eq, bne_self_eq_false, beq_self_eq_true, hn]
              refine hJ3 _ ⟨l14, m14, u14, t14, f14, fun x => ?_, k10.trans ((KO.of0 k11).trans (ko12.trans ((KO.of0 k13).trans k14)))⟩
              rw [hv14, hTk]
              have hx' : hasB (P[j].1.1, P[j].1.2) x ↔ hasB P[j].1 x := Iff.rfl
              by_cases hx : hasB P[j].1 x
              · rw [if_pos hx]
                unfold freeX usesOver
                rw [if_pos hlt9]
                cases hV : valB lV x with
                | none =>
                  have e1 : valB W x = none := by rw [hWv, if_pos hx, hV]
                  rw [over_none e1, hv12, if_pos (hx'.2 hx)]; rfl
                | some u =>
                  have e1 : valB W x = some u := by rw [hWv, if_pos hx, hV]
                  rw [over_some e1, hv12, if_pos (hx'.2 hx)]
                  unfold dropF
                  by_cases hu : L[i].2.2 < u <;> simp [hu]
              · rw [if_neg hx]
                have e1 : valB W x = none := by rw [hWv, if_neg hx]
                rw [over_none e1, hv12, if_neg (fun h' => hx (hx'.1 h')), hf10]
          · rintro w11 hI _
            try simp only [stp, Nat.reduceAdd, Int.reduceLT, Int.reduceLE, Int.reduceEq, Int.reduceNe, ne_eq, bne_self_eq_false, beq_self_eq_true]
            exact hJ2 _ hI
        · rintro w10 ⟨lf, m10, u10, t10, f10, hf10, k10⟩ J2 _j
          have hn : ¬ ((P.length : Int) < (P.length : Int)) := by omega
          rw [List.take_length] at hf10
          have hdf : Bd 4096 lf := bd_of_val f10.canon fun x hx => by rw [hf10, overX_none (val_of_bd hdP hx)]
          have hlf := canon_len (n := 4096) f10.canon hdf
          have hcF := f10.canon
          have hgv : ∀ x, valB lf x = if gives (valB lV) (valB lt6) L[i] x = true then some L[i].2.2 else none := fun x => by
            rw [hf10]
            unfold overX freeX gives
            rw [hPv, decide_eq_true (show 0 ≤ L[i].2.2 ∧ L[i].2.2 ≤ 2 from hmd)]
            by_cases hx : hasB (L[i].1, L[i].2.1) x
            · rw [if_pos hx, decide_eq_true hx]
              cases hT : valB lt6 x with
              | none => simp
              | some h =>
                by_cases hlt : L[i].2.2 < h
                · cases hu : usesOver (valB lV) L[i].2.2 x <;> simp [hlt, hu]
                · simp [hlt]
            · rw [if_neg hx, decide_eq_false hx]; simp
          simp only [stp, Nat.reduceAdd, Int.reduceLT, Int.reduceLE, Int.reduceEq, Int.reduceNe, ne_eq, bne_self_eq_false, beq_self_eq_true, hn]
          refine clocks_c f10 (by omega) fun w11 v11 o11 k11 => ?_
          obtain ⟨pe, ce, rfl⟩ := o11.form
          have kk11 : KO (siz w) cp w5 w11 := k6.trans ((KO.of0 ((k7.trans k8).trans k9)).trans (k10.trans (KO.of0 k11)))
          simp only [stp, Nat.reduceAdd, Int.reduceLT, Int.reduceLE, Int.reduceEq, Int.reduceNe, ne_eq, bne_self_eq_false, beq_self_eq_true]
          refine lpc1 (asLocks lf).length (by rw [asLocks_len]; omega) (fun t w' => ∃ lm' lt', IM w' (siz w) lm' ∧ IM w' (siz w1) lV ∧ IM w' (siz w2) lt' ∧ Bd 4096 lm' ∧ Bd 4096 lt' ∧ (∀ x, valB lt' x = overB sF (valB lt6) (valB (lf.take t)) x) ∧ (∀ x, valB lm' x = overB sF (valB lm) (valB (lf.take t)) x) ∧ KO (siz w) cp w11 w') ⟨lm, lt6, m10.keep0 k11, u10.keep0 k11, t10.keep0 k11, hdm, hdt, fun x => rfl, fun x => rfl, KO.refl _ _ _⟩ ?_ ?_
          · rintro t w12 htt ⟨lm', lt', m12, u12, t12, hdm', hdt', hvt, hvm, k12⟩ J3 hJ3 _j
            have httN : t < lf.length := by rwa [asLocks_len] at htt
            have htt' : ((t : Int) < ((asLocks lf).length : Int)) := by omega
            obtain ⟨b', o', rfl, p0, p1, p2⟩ := lkp_at (k12.own o11 fun cs => rfl).rd httN
            simp only [stp, Nat.reduceAdd, Int.reduceLT, Int.reduceLE, Int.reduceEq, Int.reduceNe, ne_eq, bne_self_eq_false, beq_self_eq_true, htt']
            rw [ix_27 htt]
            simp only [stp, Nat.reduceAdd, Int.reduceLT, Int.reduceLE, Int.reduceEq, Int.reduceNe, ne_eq, bne_self_eq_false, beq_self_eq_true, stm, p0, p1, p2]
            have k13 := (K0.refl w12).alloc (.cells #[.int .i64 lf[t].1.1, .int .i64 lf[t].1.2, .int .i64 lf[t].2] 25)
            have e13 : blk (w12.alloc (.cells #[.int .i64 lf[t].1.1, .int .i64 lf[t].1.2, .int .i64 lf[t].2] 25)) (siz w12) = some (.cells #[.int .i64 lf[t].1.1, .int .i64 lf[t].1.2, .int .i64 lf[t].2] 25) := blk_alloc_new
            generalize w12.alloc (.cells #[.int .i64 lf[t].1.1, .int .i64 lf[t].1.2, .int .i64 lf[t].2] 25) = w13 at k13 e13
            have m13 := m12.keep0 k13
            have u13 := u12.keep0 k13
            have t13 := t12.keep0 k13
            have y0 : cel w13 (siz w12) 0 = some (.int .i64 lf[t].1.1) := by rw [cel_b e13]; rfl
            have y1 : cel w13 (siz w12) 1 = some (.int .i64 lf[t].1.2) := by rw [cel_b e13]; rfl
            have y2 : cel w13 (siz w12) 2 = some (.int .i64 lf[t].2) := by rw [cel_b e13]; rfl
            try simp only [stp, Nat.reduceAdd, Int.reduceLT, Int.reduceLE, Int.reduceEq, Int.reduceNe, ne_eq, bne_self_eq_false, beq_self_eq_true, stm, y0, y1, y2]
            have hbd : ∀ {x : Int}, (4096 : Int) ≤ x → ¬ hasB (lf[t].1.1, lf[t].1.2) x := fun {x} hx hh => by
              have := hdf _ (List.getElem_mem httN)
              have := hh.2.2
              simp only at this
              omega
            refine set_any t13 (by have := canon_len (n := 4096) t13.canon hdt'; omega) fun w14 l14 _ t14 hv14 _ k14 => ?_
            have ko14 := im_ko (B := siz w) t13 (by omega) k14
            have m14 := m13.keepM t13 (by omega) k14
            have u14 := u13.keepM t13 (by omega) k14
            have e14 := ko14.blk e13 rfl
            have y0 : cel w14 (siz w12) 0 = some (.int .i64 lf[t].1.1) := by rw [cel_b e14]; rfl
            have y1 : cel w14 (siz w12) 1 = some (.int .i64 lf[t].1.2) := by rw [cel_b e14]; rfl
            have y2 : cel w14 (siz w12) 2 = some (.int .i64 lf[t].2) := by rw [cel_b e14]; rfl
            try simp only [stp, Nat.reduceAdd, Int.reduceLT, Int.reduceLE, Int.reduceEq, Int.reduceNe, ne_eq, bne_self_eq_false, beq_self_eq_true, stm, y0, y1, y2]
            refine set_any m14 (by have := canon_len (n := 4096) m14.canon hdm'; omega) fun w15 l15 _ m15 hv15 _ k15 => ?_
            have u15 := u14.keepM m14 (by omega) k15
            have t15 := t14.keepM m14 (by omega) k15
            try simp only [stp, Nat.reduceAdd, Int.reduceLT, Int.reduceLE, Int.reduceEq, Int.reduceNe, ne_eq, bne_self_eq_false, beq_self_eq_true]
            refine hJ3 _ ⟨l15, l14, m15, u15, t15, bd_of_val m15.canon fun x hx => ?_, bd_of_val t15.canon fun x hx => ?_, fun x => ?_, fun x => ?_, k12.trans ((KO.of0 k13).trans (ko14.trans (im_ko m14 (Nat.le_refl _) k15)))⟩
            · rw [hv15, if_neg (hbd hx)]; exact val_of_bd hdm' hx
            · rw [hv14, if_neg (hbd hx)]; exact val_of_bd hdt' hx
            · rw [hv14, over_take hcF.apart httN, hvt]; rfl
            · rw [hv15, over_take hcF.apart httN, hvm]; rfl
          · rintro w12 ⟨lm', lt', m12, u12, t12, hdm', hdt', hvt, hvm, k12⟩ J3 _j
            have hn : ¬ (((asLocks lf).length : Int) < ((asLocks lf).length : Int)) := by omega
            rw [asLocks_len, List.take_length] at hvt hvm
            simp only [stp, Nat.reduceAdd, Int.reduceLT, Int.reduceLE, Int.reduceEq, Int.reduceNe, ne_eq, bne_self_eq_false, beq_self_eq_true, hn]
            refine hJ1 _ ⟨lm', lt', m12, u12, t12, fun x => ?_, fun x => ?_, kk11.trans k12⟩
            · rw [hvt, hsn]
              simp only [chgS, hft]
              unfold overB sF
              rw [hgv]
              cases gives (valB lV) (valB lt6) L[i] x <;> rfl
            · rw [hvm, hsn]
              simp only [chgS, hft, hfm]
              unfold overB sF
              rw [hgv]
              cases gives (valB lV) (valB lt6) L[i] x <;> rfl
      · rintro w7 hI _
        try simp only [stp, Nat.reduceAdd, Int.reduceLT, Int.reduceLE, Int.reduceEq, Int.reduceNe, ne_eq, bne_self_eq_false, beq_self_eq_true]
        exact hJ _ hI
    · rintro w6 ⟨lm, lt6, m6, u6, t6, ht6, hm6, k6⟩ J _j
      have hn : ¬ ((L.length : Int) < (L.length : Int)) := by omega
      rw [List.take_length] at hm6
      simp only [stp, Nat.reduceAdd, Int.reduceLT, Int.reduceLE, Int.reduceEq, Int.reduceNe, ne_eq, bne_self_eq_false, beq_self_eq_true, hn]
      have hdm : Bd 4096 lm := bd_of_val m6.canon fun x hx => by rw [hm6]; exact (chgF_bd (val_of_bd h.dh hx) _).2
      have hlm := canon_len (n := 4096) m6.canon hdm
      have k06 : K0 w w6 := (k05.new.trans (k6.below (Nat.le_refl _))).old'
      refine clocks_c m6 (by omega) fun w7 v7 o7 k7 => ?_
      try simp only [stp, Nat.reduceAdd, Int.reduceLT, Int.reduceLE, Int.reduceEq, Int.reduceNe, ne_eq, bne_self_eq_false, beq_self_eq_true]
      refine hq _ _ e lm m6.canon hdm (fun x => ?_) (o7.le k06.size) (k06.trans k7)
      rw [hm6, show valB lV = raiseB (valB s.lu) (cutB e (valB s.lw)) from funext hvV]
end
end Go.Proofs.Ytknklmemadediaa
