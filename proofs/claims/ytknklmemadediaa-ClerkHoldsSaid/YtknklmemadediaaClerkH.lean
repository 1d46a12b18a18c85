/- A node's side of the locks: what is used, and what is owed. Conditions: as each says. -/
import Derived.Test.YtknklmemadediaaClerkG
set_option linter.unusedSimpArgs false
set_option linter.unusedVariables false
namespace Go.Proofs.Ytknklmemadediaa
open Go.Sh Go.Proofs.Ytknklmemadediaa.Mi
set_option maxRecDepth 100000
section
variable {w w' : World} {Q : Value → World → Prop} {B c : Nat} {s : CS} {mh mu mo : Nat} {wv : Value}
theorem tidy_c {v : Value} {L : List I3} (hL : Rd 3 w v L.length (flat enc3 L)) (hlen : L.length ≤ 100000000) (hd : ∀ k ∈ L, k.2.1 ≤ 4096)
    (hq : ∀ w' v' l', Canon l' → Bd 4096 l' → (∀ x, valB l' x = setF L x) → Own w' (siz w) 25 3 v' (asLocks l').length (flat enc3 (asLocks l')) → K0 w w' → Q v' w') :
    callS Try.prog 47 #[v] Q w := by
  refine ref47 ?_
  unfold S47
  refine new_c fun w1 m1 k1 => ?_
  obtain ⟨pa, ca, rfl⟩ := hL.form
  simp only [stp, Nat.reduceAdd, Int.reduceLT, Int.reduceLE, Int.reduceEq, Int.reduceNe, ne_eq, bne_self_eq_false, beq_self_eq_true]
  refine lpc1 L.length (by omega) (fun i w' => ∃ l, IM w' (siz w) l ∧ Bd 4096 l ∧ (∀ x, valB l x = setF (L.take i) x) ∧ K0 w w') ⟨[], m1, Bd.nil _, fun x => rfl, k1⟩ ?_ ?_
  · rintro i w3 hlt ⟨l, m3, hd3, hv3, k3⟩ J hJ _j
    have hlt' : ((i : Int) < (L.length : Int)) := by omega
    obtain ⟨b, o, rfl, p0, p1, p2⟩ := lkr_at (hL.keep0 k3) hlt
    simp only [stp, Nat.reduceAdd, Int.reduceLT, Int.reduceLE, Int.reduceEq, Int.reduceNe, ne_eq, bne_self_eq_false, beq_self_eq_true, hlt']
    rw [ix_27 hlt]
    simp only [stp, Nat.reduceAdd, Int.reduceLT, Int.reduceLE, Int.reduceEq, Int.reduceNe, ne_eq, bne_self_eq_false, beq_self_eq_true, stm, p0, p1, p2]
    have k4 := (K0.refl w3).alloc (.cells #[.int .i64 L[i].1, .int .i64 L[i].2.1, .int .i64 L[i].2.2] 25)
    have e4 : blk (w3.alloc (.cells #[.int .i64 L[i].1, .int .i64 L[i].2.1, .int .i64 L[i].2.2] 25)) (siz w3) = some (.cells #[.int .i64 L[i].1, .int .i64 L[i].2.1, .int .i64 L[i].2.2] 25) := blk_alloc_new
    generalize w3.alloc (.cells #[.int .i64 L[i].1, .int .i64 L[i].2.1, .int .i64 L[i].2.2] 25) = w4 at k4 e4
    have z0 : cel w4 (siz w3) 0 = some (.int .i64 L[i].1) := by rw [cel_b e4]; rfl
    have z1 : cel w4 (siz w3) 1 = some (.int .i64 L[i].2.1) := by rw [cel_b e4]; rfl
    have z2 : cel w4 (siz w3) 2 = some (.int .i64 L[i].2.2) := by rw [cel_b e4]; rfl
    try simp only [stp, Nat.reduceAdd, Int.reduceLT, Int.reduceLE, Int.reduceEq, Int.reduceNe, ne_eq, bne_self_eq_false, beq_self_eq_true, stm, z0, z1, z2]
    have m4 := m3.keep0 k4
    refine set_any m4 (by have := canon_len (n := 4096) m4.canon hd3; omega) fun w5 l5 _ m5 hv5 _ k5 => ?_
    have hd5 : Bd 4096 l5 := bd_of_val m5.canon fun x hx => by
      rw [hv5, if_neg (fun hh => by have := hd _ (List.getElem_mem hlt); have := hh.2.2; simp only at this; omega)]; exact val_of_bd hd3 hx
    try simp only [stp, Nat.reduceAdd, Int.reduceLT, Int.reduceLE, Int.reduceEq, Int.reduceNe, ne_eq, bne_self_eq_false, beq_self_eq_true]
    refine hJ _ ⟨l5, m5, hd5, fun x => ?_, (k3.trans k4).trans' k5 fun b hb e => by omega⟩
    rw [List.take_add_one, List.getElem?_eq_getElem hlt, Option.toList_some, setF_snoc, hv5]
    unfold set1
    rw [hv3]
  · rintro w3 ⟨l, m3, hd3, hv3, k3⟩ J _j
    have hn : ¬ ((L.length : Int) < (L.length : Int)) := by omega
    rw [List.take_length] at hv3
    simp only [stp, Nat.reduceAdd, Int.reduceLT, Int.reduceLE, Int.reduceEq, Int.reduceNe, ne_eq, bne_self_eq_false, beq_self_eq_true, hn]
    refine clocks_c m3 (by have := canon_len (n := 4096) m3.canon hd3; omega) fun w4 v4 o4 k4 => ?_
    try simp only [stp, Nat.reduceAdd, Int.reduceLT, Int.reduceLE, Int.reduceEq, Int.reduceNe, ne_eq, bne_self_eq_false, beq_self_eq_true]
    exact hq _ _ l m3.canon hd3 hv3 (o4.le k3.size) (k3.trans k4)
theorem using_c (h : CL w B c s) (hq : ∀ w' l e, IM w' (siz w) l → Bd 4096 l → (∀ x, valB l x = raiseB (valB s.lu) (cutB e (valB s.lw)) x) → K0 w w' → Q (.pointer (some ⟨siz w, 0, none⟩)) w') :
    callS Try.prog 42 #[.pointer (some ⟨c, 0, none⟩)] Q w := by
  refine ref42 ?_
  unfold S42
  obtain ⟨mh, mu, mo, wv, h⟩ := h
  refine new_c fun w1 m1 k1 => ?_
  have h1 := h.keep0 k1
  have c4 : cel w1 c 4 = some (.pointer (some ⟨mu, 0, none⟩)) := by rw [h1.cel]; rfl
  simp only [stp, Nat.reduceAdd, Int.reduceLT, Int.reduceLE, Int.reduceEq, Int.reduceNe, ne_eq, bne_self_eq_false, beq_self_eq_true, stm, c4]
  have hlU := h1.lenU
  refine clocks_c h1.u (by omega) fun w2 v2 o2 k2 => ?_
  have k02 := k1.trans k2
  have m2 := m1.keep0 k2
  obtain ⟨pa, ca, rfl⟩ := o2.form
  have hcU := h1.u.canon
  simp only [stp, Nat.reduceAdd, Int.reduceLT, Int.reduceLE, Int.reduceEq, Int.reduceNe, ne_eq, bne_self_eq_false, beq_self_eq_true]
  refine lpc1 (asLocks s.lu).length (by rw [asLocks_len]; omega) (fun i w' => ∃ l, IM w' (siz w) l ∧ (∀ x, valB l x = overB rF (fun _ => none) (valB (s.lu.take i)) x) ∧ KO (siz w) cp w2 w') ⟨[], m2, fun x => rfl, KO.refl _ _ _⟩ ?_ ?_
  · rintro i w3 hlt ⟨l, m3, hv3, k3⟩ J hJ _j
    have hltN : i < s.lu.length := by rwa [asLocks_len] at hlt
    have hlt' : ((i : Int) < ((asLocks s.lu).length : Int)) := by omega
    obtain ⟨b, o, rfl, p0, p1, p2⟩ := lkp_at (k3.own o2 fun cs => rfl).rd hltN
    simp only [stp, Nat.reduceAdd, Int.reduceLT, Int.reduceLE, Int.reduceEq, Int.reduceNe, ne_eq, bne_self_eq_false, beq_self_eq_true, hlt']
    rw [ix_27 hlt]
    simp only [stp, Nat.reduceAdd, Int.reduceLT, Int.reduceLE, Int.reduceEq, Int.reduceNe, ne_eq, bne_self_eq_false, beq_self_eq_true, stm, p0, p1, p2]
    have k4 := (K0.refl w3).alloc (.cells #[.int .i64 s.lu[i].1.1, .int .i64 s.lu[i].1.2, .int .i64 s.lu[i].2] 25)
    have m4 := m3.keep0 k4
    have hd4 : Bd 4096 l := bd_of_val m3.canon fun x hx => by rw [hv3]; exact over_bd (fun _ _ => rfl) h.du _ hx
    refine raise_c m4 (by have := canon_len (n := 4096) m4.canon hd4; omega) fun w5 l5 m5 hv5 k5 => ?_
    try simp only [stp, Nat.reduceAdd, Int.reduceLT, Int.reduceLE, Int.reduceEq, Int.reduceNe, ne_eq, bne_self_eq_false, beq_self_eq_true]
    refine hJ _ ⟨l5, m5, fun x => ?_, k3.trans ((KO.of0 k4).trans (im_ko m4 (Nat.le_refl _) k5))⟩
    rw [hv5, updM_rF, over_take hcU.apart hltN, hv3]
  · rintro w3 ⟨l, m3, hv3, k3⟩ J _j
    have hn : ¬ (((asLocks s.lu).length : Int) < ((asLocks s.lu).length : Int)) := by omega
    rw [asLocks_len, List.take_length] at hv3
    have k03 : K0 w w3 := (k02.new.trans (k3.below (Nat.le_refl _))).old'
    have hU : ∀ x, valB l x = valB s.lu x := fun x => by
      rw [hv3]
      unfold overB rF
      cases valB s.lu x <;> rfl
    have h3 := h.keep0 k03
    simp only [stp, Nat.reduceAdd, Int.reduceLT, Int.reduceLE, Int.reduceEq, Int.reduceNe, ne_eq, bne_self_eq_false, beq_self_eq_true, hn]
    refine jn1 (fun (x : Value) (w' : World) => ∃ e, x = .int .i64 e ∧ IM w' (siz w) l ∧ K0 w w') (fun J1 hJ1 => ?_) ?_
    · refine cneeds_c ⟨mh, mu, mo, wv, h3⟩ fun w4 v4 l4 hc4 hv4 hl4 hm4 o4 k4 => ?_
      obtain ⟨pb, cb, rfl⟩ := o4.form
      by_cases hl0 : 0 < l4.length
      · obtain ⟨b, o, rfl, p0, p1, p2⟩ := lkp_at o4.rd hl0
        have hl0' : (0 : Int) < ((asLocks l4).length : Int) := by rw [asLocks_len]; omega
        simp only [stp, Nat.reduceAdd, Int.reduceLT, Int.reduceLE, Int.reduceEq, Int.reduceNe, ne_eq, bne_self_eq_false, beq_self_eq_true, hl0']
        rw [show (Value.int IntKind.i64 0) = Value.int .i64 ((0 : Nat) : Int) from rfl, ix_27 (by rw [asLocks_len]; exact hl0)]
        simp only [stp, Nat.reduceAdd, Int.reduceLT, Int.reduceLE, Int.reduceEq, Int.reduceNe, ne_eq, bne_self_eq_false, beq_self_eq_true, stm, p0]
        exact hJ1 _ _ ⟨_, rfl, m3.keep0 k4, k03.trans k4⟩
      · have hl0' : ¬ (0 : Int) < ((asLocks l4).length : Int) := by rw [asLocks_len]; omega
        simp only [stp, Nat.reduceAdd, Int.reduceLT, Int.reduceLE, Int.reduceEq, Int.reduceNe, ne_eq, bne_self_eq_false, beq_self_eq_true, hl0']
        exact hJ1 _ _ ⟨_, rfl, m3.keep0 k4, k03.trans k4⟩
    · rintro _ w4 ⟨e, rfl, m4, k4⟩ _j
      have h4 := h.keep0 k4
      have c6 : cel w4 c 6 = some wv := by rw [h4.cel]; rfl
      have hlW := h4.lenW
      have hwr := h4.wr.1.1
      obtain ⟨pw, cw', rfl⟩ := hwr.form
      simp only [stp, Nat.reduceAdd, Int.reduceLT, Int.reduceLE, Int.reduceEq, Int.reduceNe, ne_eq, bne_self_eq_false, beq_self_eq_true, stm, c6]
      refine lpc1 (asLocks s.lw).length (by rw [asLocks_len]; omega) (fun i w' => ∃ l', IM w' (siz w) l' ∧ (∀ x, valB l' x = overB rF (valB s.lu) (cutB e (valB (s.lw.take i))) x) ∧ KO (siz w) cp w4 w') ⟨l, m4, fun x => by rw [hU]; unfold overB cutB; simp [valB], KO.refl _ _ _⟩ ?_ ?_
      · rintro i w5 hlt ⟨l5, m5, hv5, k5⟩ J hJ _j
        have hltN : i < s.lw.length := by rwa [asLocks_len] at hlt
        have hlt' : ((i : Int) < ((asLocks s.lw).length : Int)) := by omega
        have k45 : K0 w w5 := (k4.new.trans (k5.below (Nat.le_refl _))).old'
        obtain ⟨b, o, rfl, p0, p1, p2⟩ := lkp_at (h.wr.keep0 k45).1.1 hltN
        have hokN := h.cw.1 _ (List.getElem_mem hltN)
        have hok : ok (s.lw[i].1.1, s.lw[i].1.2) := hokN
        have hd5 : Bd 4096 l5 := bd_of_val m5.canon fun x hx => by
          rw [hv5]
          have : cutB e (valB (s.lw.take i)) x = none := by unfold cutB; split; exact valB_take_none (val_of_bd h.dw hx) _; rfl
          rw [over_none this]; exact val_of_bd h.du hx
        have hT := take_val h.cw.apart hltN
        have stepv : ∀ x, overB rF (valB s.lu) (cutB e (valB (s.lw.take (i + 1)))) x = if hasB (s.lw[i].1.1, min s.lw[i].1.2 e) x then rF (overB rF (valB s.lu) (cutB e (valB (s.lw.take i))) x) s.lw[i].2 else overB rF (valB s.lu) (cutB e (valB (s.lw.take i))) x := fun x => by
          obtain ⟨t1, t2⟩ := hT x
          by_cases hx : hasB (s.lw[i].1.1, min s.lw[i].1.2 e) x
          · rw [if_pos hx]
            obtain ⟨ha, hb⟩ := (hasB_cut hok).1 hx
            have ha' : hasB s.lw[i].1 x := ha
            rw [if_pos ha'] at t1
            rw [over_some (v := s.lw[i].2) (by unfold cutB; rw [if_pos hb, t1]), over_none (by unfold cutB; rw [if_pos hb, t2 ha'])]
          · rw [if_neg hx]
            have : cutB e (valB (s.lw.take (i + 1))) x = cutB e (valB (s.lw.take i)) x := by
              unfold cutB
              by_cases hb : x < e
              · rw [if_pos hb, if_pos hb, t1, if_neg fun ha => hx ((hasB_cut hok).2 ⟨ha, hb⟩)]
              · rw [if_neg hb, if_neg hb]
            unfold overB
            rw [this]
        simp only [stp, Nat.reduceAdd, Int.reduceLT, Int.reduceLE, Int.reduceEq, Int.reduceNe, ne_eq, bne_self_eq_false, beq_self_eq_true, hlt']
        refine jn0 (fun w' => ∃ l', IM w' (siz w) l' ∧ (∀ x, valB l' x = overB rF (valB s.lu) (cutB e (valB (s.lw.take (i + 1)))) x) ∧ KO (siz w) cp w4 w') (fun J1 hJ1 => ?_) ?_
        · rw [ix_27 hlt]
          simp only [stp, Nat.reduceAdd, Int.reduceLT, Int.reduceLE, Int.reduceEq, Int.reduceNe, ne_eq, bne_self_eq_false, beq_self_eq_true, stm, p0, p1, p2]
          have k6 := (K0.refl w5).alloc (.cells #[.int .i64 s.lw[i].1.1, .int .i64 s.lw[i].1.2, .int .i64 s.lw[i].2] 25)
          have e6 : blk (w5.alloc (.cells #[.int .i64 s.lw[i].1.1, .int .i64 s.lw[i].1.2, .int .i64 s.lw[i].2] 25)) (siz w5) = some (.cells #[.int .i64 s.lw[i].1.1, .int .i64 s.lw[i].1.2, .int .i64 s.lw[i].2] 25) := blk_alloc_new
          generalize w5.alloc (.cells #[.int .i64 s.lw[i].1.1, .int .i64 s.lw[i].1.2, .int .i64 s.lw[i].2] 25) = w6 at k6 e6
          have z1 : cel w6 (siz w5) 1 = some (.int .i64 s.lw[i].1.2) := by rw [cel_b e6]; rfl
          try simp only [stp, Nat.reduceAdd, Int.reduceLT, Int.reduceLE, Int.reduceEq, Int.reduceNe, ne_eq, bne_self_eq_false, beq_self_eq_true, stm, z1]
          try rw [st_3 one_int (by rw [z1]; rfl) (fre_b e6)]
          have e7 := blk_sto (o := 1) (v := .int .i64 (min s.lw[i].1.2 e)) e6
          have k7 : K0 w5 (sto w6 (siz w5) 1 (.int .i64 (min s.lw[i].1.2 e))) := k6.sto (.inr (Nat.le_refl _)) _ _
          generalize sto w6 (siz w5) 1 (.int .i64 (min s.lw[i].1.2 e)) = w7 at e7 k7
          have y0 : cel w7 (siz w5) 0 = some (.int .i64 s.lw[i].1.1) := by rw [cel_b e7]; rfl
          have y1 : cel w7 (siz w5) 1 = some (.int .i64 (min s.lw[i].1.2 e)) := by rw [cel_b e7]; rfl
          have y2 : cel w7 (siz w5) 2 = some (.int .i64 s.lw[i].2) := by rw [cel_b e7]; rfl
          simp only [stp, Nat.reduceAdd, Int.reduceLT, Int.reduceLE, Int.reduceEq, Int.reduceNe, ne_eq, bne_self_eq_false, beq_self_eq_true, stm, y0, y1]
          refine valid_c fun w8 g8 => ?_
          have k8 := k7.trans g8.1
          have m8 := m5.keep0 k8
          have e8 := g8.1.blk e7 id
          have y0 : cel w8 (siz w5) 0 = some (.int .i64 s.lw[i].1.1) := by rw [cel_b e8]; rfl
          have y1 : cel w8 (siz w5) 1 = some (.int .i64 (min s.lw[i].1.2 e)) := by rw [cel_b e8]; rfl
          have y2 : cel w8 (siz w5) 2 = some (.int .i64 s.lw[i].2) := by rw [cel_b e8]; rfl
          by_cases hv : ok (s.lw[i].1.1, min s.lw[i].1.2 e)
          · simp only [stp, Nat.reduceAdd, Int.reduceLT, Int.reduceLE, Int.reduceEq, Int.reduceNe, ne_eq, bne_self_eq_false, beq_self_eq_true, stm, hv, y0, y1, y2]
            refine raise_c m8 (by have := canon_len (n := 4096) m8.canon hd5; omega) fun w9 l9 m9 hv9 k9 => ?_
            try simp only [stp, Nat.reduceAdd, Int.reduceLT, Int.reduceLE, Int.reduceEq, Int.reduceNe, ne_eq, bne_self_eq_false, beq_self_eq_true]
            refine hJ1 _ ⟨l9, m9, fun x => ?_, k5.trans ((KO.of0 k8).trans (im_ko m8 (Nat.le_refl _) k9))⟩
            rw [hv9, updM_rF, stepv, hv5]
          · simp only [stp, Nat.reduceAdd, Int.reduceLT, Int.reduceLE, Int.reduceEq, Int.reduceNe, ne_eq, bne_self_eq_false, beq_self_eq_true, stm, hv]
            refine hJ1 _ ⟨l5, m8, fun x => ?_, k5.trans (KO.of0 k8)⟩
            rw [stepv, if_neg (fun hh => hv hh.1), hv5]
        · rintro w6 ⟨l6, m6, hv6, k6⟩ _
          try simp only [stp, Nat.reduceAdd, Int.reduceLT, Int.reduceLE, Int.reduceEq, Int.reduceNe, ne_eq, bne_self_eq_false, beq_self_eq_true]
          exact hJ _ ⟨l6, m6, hv6, k6⟩
      · rintro w5 ⟨l5, m5, hv5, k5⟩ J _j
        have hn : ¬ (((asLocks s.lw).length : Int) < ((asLocks s.lw).length : Int)) := by omega
        rw [asLocks_len, List.take_length] at hv5
        simp only [stp, Nat.reduceAdd, Int.reduceLT, Int.reduceLE, Int.reduceEq, Int.reduceNe, ne_eq, bne_self_eq_false, beq_self_eq_true, hn]
        have hd5 : Bd 4096 l5 := bd_of_val m5.canon fun x hx => by
          rw [hv5]
          have : cutB e (valB s.lw) x = none := by unfold cutB; split; exact val_of_bd h.dw hx; rfl
          rw [over_none this]; exact val_of_bd h.du hx
        exact hq _ l5 e m5 hd5 (fun x => by rw [hv5, raiseB_over]) (k4.new.trans (k5.below (Nat.le_refl _))).old'
end
end Go.Proofs.Ytknklmemadediaa
