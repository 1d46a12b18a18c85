/- A node's side of the locks: what a message of the server leaves. Conditions: as each says. -/
import Derived.Test.YtknklmemadediaaClerkE
set_option linter.unusedSimpArgs false
set_option linter.unusedVariables false
namespace Go.Proofs.Ytknklmemadediaa
open Go.Sh Go.Proofs.Ytknklmemadediaa.Mi
set_option maxRecDepth 100000
section
variable {w w' : World} {Q : Value → World → Prop} {B c : Nat} {s : CS} {mh mu mo : Nat} {wv : Value}
/-- What is owed, and what is left of what is revoked, block by block. -/
def oweX (H : BF) (x : Int) (o : Option Int) (g : Int) : Option Int := match H x with | none => o | some h => oF g o h
def leftX (H : BF) (x : Int) (o : Option Int) (g : Int) : Option Int := match H x with | none => o | some h => gF g o h
theorem min_nat (n m : Nat) : min (n : Int) (m : Int) = ((min n m : Nat) : Int) := by omega
theorem crevoke_w {kind mi node gen stamp epoch err : Int} {lv : Value} {L : List I3} (h : CL w B c s) (hB : B ≤ siz w) (hl1 : Go.Sh.one lv = true) (hL : Rd 3 w lv L.length (flat enc3 L)) (hlo : ∀ g, lv.ownBlock = some g → 0 < L.length → g < B ∨ ∃ cs, blk w g = some (.cells cs 25)) (hlen : L.length ≤ 5000) (hd : ∀ k ∈ L, k.2.1 ≤ 4096)
    (hq : ∀ w' v lo, (∀ x, valB lo x = overX (oweX (valB s.lh)) (valB s.lo) (goneF L) x) → CL w' B c { s with lo := lo } → KO B cp w w' → Q v w') :
    callS Try.prog 37 #[.pointer (some ⟨c, 0, none⟩), .agg (msgC kind mi node gen stamp epoch err lv)] Q w := by
  refine ref37 ?_
  unfold S37
  obtain ⟨mh, mu, mo, wv, h⟩ := h
  unfold msgC
  simp only [act_box, agg_cells]
  generalize hw1 : w.alloc (.cells #[.int .i64 kind, .int .i64 mi, .int .i64 node, .int .i64 gen, .int .i64 stamp, .int .u64 epoch, .int .i64 err, lv] 39) = w1
  have b1 : blk w1 (siz w) = some (.cells #[.int .i64 kind, .int .i64 mi, .int .i64 node, .int .i64 gen, .int .i64 stamp, .int .u64 epoch, .int .i64 err, lv] 39) := by rw [← hw1]; exact blk_alloc_new
  have k1 : K0 w w1 := by rw [← hw1]; exact (K0.refl w).alloc _
  have s1 := k1.size
  refine new_c fun w2 m2 k2 => ?_
  have k02 := k1.trans k2
  have h2 := h.keep0 k02
  have b2 := k2.blk b1 id
  obtain ⟨x0, x1, x2, x3, x4, x5, x6, x7⟩ := msg_cells b2
  have hL2 := hL.keep0 k02
  obtain ⟨pl, cl, rfl⟩ := hL.form
  have lh := h.h.lt
  have lu := h.u.lt
  have lo_ := h.o.lt
  have hmgB : B ≤ siz w1 := by omega
  have hkeepL : ∀ w', KO B cp w2 w' → Rd 3 w' (.slice pl L.length cl) L.length (flat enc3 L) := fun w' k => hL2.keep1 k fun h0 g hg hgs hk => by
    rcases hlo g hg h0 with hlt | ⟨cs, hcs⟩
    · have := hk.1; omega
    · obtain ⟨o, ho, hpo⟩ := hk.2
      rw [k02.blk hcs id] at ho; injection ho with ho; subst ho; cases hpo
  simp only [stp, Nat.reduceAdd, Int.reduceLT, Int.reduceLE, Int.reduceEq, Int.reduceNe, ne_eq, bne_self_eq_false, beq_self_eq_true, stm, x7]
  refine lpc1 L.length (by omega) (fun i w' => ∃ lg, CLr w' B c s mh mu mo wv ∧ IM w' (siz w1) lg ∧ Bd 4096 lg ∧ (∀ x, valB lg x = goneF (L.take i) x) ∧ KO B cp w2 w') ⟨[], h2, m2, Bd.nil _, fun x => rfl, KO.refl _ _ _⟩ ?_ ?_
  · rintro i w3 hlt ⟨lg, h3, g3, hd3, hv3, k3⟩ J hJ _j
    have hlt' : ((i : Int) < (L.length : Int)) := by omega
    obtain ⟨b, o, rfl, p0, p1, p2⟩ := lkr_at (hkeepL _ k3) hlt
    simp only [stp, Nat.reduceAdd, Int.reduceLT, Int.reduceLE, Int.reduceEq, Int.reduceNe, ne_eq, bne_self_eq_false, beq_self_eq_true, hlt']
    rw [ix_27 hlt]
    simp only [stp, Nat.reduceAdd, Int.reduceLT, Int.reduceLE, Int.reduceEq, Int.reduceNe, ne_eq, bne_self_eq_false, beq_self_eq_true, stm, p0, p1, p2]
    have k4 := (K0.refl w3).alloc (.cells #[.int .i64 L[i].1, .int .i64 L[i].2.1, .int .i64 L[i].2.2] 25)
    have e4 : blk (w3.alloc (.cells #[.int .i64 L[i].1, .int .i64 L[i].2.1, .int .i64 L[i].2.2] 25)) (siz w3) = some (.cells #[.int .i64 L[i].1, .int .i64 L[i].2.1, .int .i64 L[i].2.2] 25) := blk_alloc_new
    generalize w3.alloc (.cells #[.int .i64 L[i].1, .int .i64 L[i].2.1, .int .i64 L[i].2.2] 25) = w4 at k4 e4
    have h4 := h3.keep0 k4
    have g4 := g3.keep0 k4
    have z0 : cel w4 (siz w3) 0 = some (.int .i64 L[i].1) := by rw [cel_b e4]; rfl
    have z1 : cel w4 (siz w3) 1 = some (.int .i64 L[i].2.1) := by rw [cel_b e4]; rfl
    try simp only [stp, Nat.reduceAdd, Int.reduceLT, Int.reduceLE, Int.reduceEq, Int.reduceNe, ne_eq, bne_self_eq_false, beq_self_eq_true, stm, z0, z1]
    have hlg := canon_len (n := 4096) g4.canon hd3
    refine parts_c g4 (by omega) fun w5 v5 o5 k5 => ?_
    have hWl := partsL_len (L[i].1, L[i].2.1) lg
    have hWc := partsL_canon (s := (L[i].1, L[i].2.1)) g4.canon
    have hWv := partsL_val (L[i].1, L[i].2.1) lg g4.canon.1
    change Own w5 (siz w4) 75 3 v5 (partsL (L[i].1, L[i].2.1) lg).length (flat enc (partsL (L[i].1, L[i].2.1) lg)) at o5
    generalize partsL (L[i].1, L[i].2.1) lg = W at o5 hWl hWc hWv
    have hdW : Bd 4096 W := bd_of_val hWc fun x hx => by
      rw [hWv]; split
      · exact val_of_bd hd3 hx
      · rfl
    have h5 := h4.keep0 k5
    have g5 := g4.keep0 k5
    have e5 := k5.blk e4 id
    obtain ⟨pb, cb, rfl⟩ := o5.form
    have z0 : cel w5 (siz w3) 0 = some (.int .i64 L[i].1) := by rw [cel_b e5]; rfl
    have z1 : cel w5 (siz w3) 1 = some (.int .i64 L[i].2.1) := by rw [cel_b e5]; rfl
    have z2 : cel w5 (siz w3) 2 = some (.int .i64 L[i].2.2) := by rw [cel_b e5]; rfl
    simp only [stp, Nat.reduceAdd, Int.reduceLT, Int.reduceLE, Int.reduceEq, Int.reduceNe, ne_eq, bne_self_eq_false, beq_self_eq_true, stm, z0, z1, z2]
    refine set_any g5 (by omega) fun w6 l6 _ g6 hv6 _ k6 => ?_
    have kg5 := im_kd g5 hmgB
    obtain ⟨_, eg5⟩ := im_blk g5
    have hko6 : KO B cp w5 w6 := KO.ofB k6 fun b e => e ▸ kg5
    have keepC : ∀ {wa wb : World} {la : List (Pt Int)}, CLr wa B c s mh mu mo wv → IM wa (siz w1) la → Keep (fun b => b = siz w1) wa wb → CLr wb B c s mh mu mo wv := fun {wa wb la} ha ga k => by
      obtain ⟨_, ega⟩ := im_blk ga
      have hk : KO B cp wa wb := KO.ofB k fun b e => e ▸ im_kd ga hmgB
      exact { ha with b := k.blk ha.b (ne_of_ty ha.b ega (by decide)), h := ha.h.keepM ga (by omega) k, u := ha.u.keepM ga (by omega) k, o := ha.o.keepM ga (by omega) k, wr := ha.wr.ko hk fun cs => rfl }
    have h6 := keepC h5 g5 k6
    have hd6 : Bd 4096 l6 := bd_of_val g6.canon fun x hx => by
      rw [hv6, if_neg (fun hh => by have := hd _ (List.getElem_mem hlt); have := hh.2.2; simp only at this; omega)]; exact val_of_bd hd3 hx
    have o6 := hko6.own o5 fun cs => rfl
    have e6 := hko6.blk e5 rfl
    have kk6 : KO B cp w2 w6 := k3.trans ((KO.of0 (k4.trans k5)).trans hko6)
    try simp only [stp, Nat.reduceAdd, Int.reduceLT, Int.reduceLE, Int.reduceEq, Int.reduceNe, ne_eq, bne_self_eq_false, beq_self_eq_true]
    refine lpc1 W.length (by omega) (fun j w' => ∃ l8, CLr w' B c s mh mu mo wv ∧ IM w' (siz w1) l8 ∧ Bd 4096 l8 ∧ (∀ x, valB l8 x = overB (mF L[i].2.2) (valB l6) (valB (W.take j)) x) ∧ KO B cp w6 w') ⟨l6, h6, g6, hd6, fun x => rfl, KO.refl _ _ _⟩ ?_ ?_
    · rintro j w8 hjt ⟨l8, h8, g8, hd8, hv8, k8⟩ J2 hJ2 _j
      have hjt' : ((j : Int) < (W.length : Int)) := by omega
      obtain ⟨g', rfl, q0, q1, q2⟩ := part_at (k8.own o6 fun cs => rfl) hjt
      have e8 := k8.blk e6 rfl
      simp only [stp, Nat.reduceAdd, Int.reduceLT, Int.reduceLE, Int.reduceEq, Int.reduceNe, ne_eq, bne_self_eq_false, beq_self_eq_true, hjt']
      rw [ix_72 hjt]
      simp only [stp, Nat.reduceAdd, Int.reduceLT, Int.reduceLE, Int.reduceEq, Int.reduceNe, ne_eq, bne_self_eq_false, beq_self_eq_true, stm, q0, q1, q2]
      have k9 := (K0.refl w8).alloc (.cells #[.int .i64 W[j].1.1, .int .i64 W[j].1.2, .int .i64 W[j].2] 75)
      have e9 : blk (w8.alloc (.cells #[.int .i64 W[j].1.1, .int .i64 W[j].1.2, .int .i64 W[j].2] 75)) (siz w8) = some (.cells #[.int .i64 W[j].1.1, .int .i64 W[j].1.2, .int .i64 W[j].2] 75) := blk_alloc_new
      generalize w8.alloc (.cells #[.int .i64 W[j].1.1, .int .i64 W[j].1.2, .int .i64 W[j].2] 75) = w9 at k9 e9
      have h9 := h8.keep0 k9
      have g9 := g8.keep0 k9
      have f9 := k9.blk e8 id
      have z0 : cel w9 (siz w8) 0 = some (.int .i64 W[j].1.1) := by rw [cel_b e9]; rfl
      have z1 : cel w9 (siz w8) 1 = some (.int .i64 W[j].1.2) := by rw [cel_b e9]; rfl
      have z2 : cel w9 (siz w8) 2 = some (.int .i64 W[j].2) := by rw [cel_b e9]; rfl
      have y2 : cel w9 (siz w3) 2 = some (.int .i64 L[i].2.2) := by rw [cel_b f9]; rfl
      try simp only [stp, Nat.reduceAdd, Int.reduceLT, Int.reduceLE, Int.reduceEq, Int.reduceNe, ne_eq, bne_self_eq_false, beq_self_eq_true, stm, z0, z1, z2, y2]
      refine set_any g9 (by have := canon_len (n := 4096) g9.canon hd8; omega) fun w10 l10 _ g10 hv10 _ k10 => ?_
      have hv10' : ∀ x, valB l10 x = overB (mF L[i].2.2) (valB l6) (valB (W.take (j + 1))) x := fun x => by
        rw [hv10, over_take hWc.apart hjt, hv8]; rfl
      have hd10 : Bd 4096 l10 := bd_of_val g10.canon fun x hx => by rw [hv10']; exact over_bd (fun y hy => val_of_bd hd6 hy) hdW _ hx
      try simp only [stp, Nat.reduceAdd, Int.reduceLT, Int.reduceLE, Int.reduceEq, Int.reduceNe, ne_eq, bne_self_eq_false, beq_self_eq_true]
      exact hJ2 _ ⟨l10, keepC h9 g9 k10, g10, hd10, hv10', k8.trans ((KO.of0 k9).trans (KO.ofB k10 fun b e => e ▸ im_kd g9 hmgB))⟩
    · rintro w8 ⟨l8, h8, g8, hd8, hv8, k8⟩ J2 _j
      have hn : ¬ ((W.length : Int) < (W.length : Int)) := by omega
      simp only [stp, Nat.reduceAdd, Int.reduceLT, Int.reduceLE, Int.reduceEq, Int.reduceNe, ne_eq, bne_self_eq_false, beq_self_eq_true, hn]
      refine hJ _ ⟨l8, h8, g8, hd8, fun x => ?_, kk6.trans k8⟩
      rw [List.take_add_one, List.getElem?_eq_getElem hlt, Option.toList_some, goneF_snoc, hv8, List.take_length]
      unfold gone1
      by_cases hx : hasB (L[i].1, L[i].2.1) x
      · rw [if_pos hx]
        cases hG : valB lg x with
        | none =>
          have e1 : valB W x = none := by rw [hWv, if_pos hx, hG]
          rw [over_none e1, hv6, if_pos hx, ← hv3, hG]
        | some g =>
          have e1 : valB W x = some g := by rw [hWv, if_pos hx, hG]
          rw [over_some e1, ← hv3, hG]
          rfl
      · rw [if_neg hx]
        have e1 : valB W x = none := by rw [hWv, if_neg hx]
        rw [over_none e1, hv6, if_neg hx, hv3]
  · rintro w3 ⟨lg, h3, g3, hd3, hv3, k3⟩ J _j
    have hn : ¬ ((L.length : Int) < (L.length : Int)) := by omega
    rw [List.take_length] at hv3
    simp only [stp, Nat.reduceAdd, Int.reduceLT, Int.reduceLE, Int.reduceEq, Int.reduceNe, ne_eq, bne_self_eq_false, beq_self_eq_true, hn]
    have hlg := canon_len (n := 4096) g3.canon hd3
    refine clocks_c g3 (by omega) fun w4 v4 o4 k4 => ?_
    have h4 := h3.keep0 k4
    have g4 := g3.keep0 k4
    have s34 : B ≤ siz w3 := by have := k3.size; have := k02.size; omega
    obtain ⟨pa, ca, rfl⟩ := o4.form
    simp only [stp, Nat.reduceAdd, Int.reduceLT, Int.reduceLE, Int.reduceEq, Int.reduceNe, ne_eq, bne_self_eq_false, beq_self_eq_true]
    refine lpc1 (asLocks lg).length (by rw [asLocks_len]; omega) (fun i w' => ∃ lo l', CLr w' B c { s with lo := lo } mh mu mo wv ∧ IM w' (siz w1) l' ∧ Bd 4096 l' ∧ (∀ x, valB lo x = overX (oweX (valB s.lh)) (valB s.lo) (valB (lg.take i)) x) ∧ KO B cp w4 w') ⟨s.lo, lg, h4, g4, hd3, fun x => rfl, KO.refl _ _ _⟩ ?_ ?_
    · rintro i w5 hlt ⟨lo, l5, h5, g5, hd5, hv5, k5⟩ J hJ _j
      have hltN : i < lg.length := by rwa [asLocks_len] at hlt
      have hlt' : ((i : Int) < ((asLocks lg).length : Int)) := by omega
      obtain ⟨b, o, rfl, p0, p1, p2⟩ := lkp_at (k5.own o4 fun cs => rfl).rd hltN
      simp only [stp, Nat.reduceAdd, Int.reduceLT, Int.reduceLE, Int.reduceEq, Int.reduceNe, ne_eq, bne_self_eq_false, beq_self_eq_true, hlt']
      rw [ix_27 hlt]
      simp only [stp, Nat.reduceAdd, Int.reduceLT, Int.reduceLE, Int.reduceEq, Int.reduceNe, ne_eq, bne_self_eq_false, beq_self_eq_true, stm, p0, p1, p2]
      have k6 := (K0.refl w5).alloc (.cells #[.int .i64 lg[i].1.1, .int .i64 lg[i].1.2, .int .i64 lg[i].2] 25)
      have sB : B ≤ siz w5 := by have := k5.size; have := k4.size; omega
      refine cowe_c (h5.keep0 k6) (by rw [siz_alloc]; omega) (g5.keep0 k6) hmgB (by omega) (by omega) (by omega) hd5 fun w7 lo7 l7 hv7 hw7 hd7 g7 h7 k7 => ?_
      try simp only [stp, Nat.reduceAdd, Int.reduceLT, Int.reduceLE, Int.reduceEq, Int.reduceNe, ne_eq, bne_self_eq_false, beq_self_eq_true]
      refine hJ _ ⟨lo7, l7, h7, g7, hd7, fun x => ?_, k5.trans ((KO.of0 k6).trans k7)⟩
      have hv7' : valB lo7 x = overB (oF lg[i].2) (valB lo) (fun x => if hasB lg[i].1 x then valB s.lh x else none) x := hv7 x
      rw [hv7', overX_take g3.canon.apart hltN, ← hv5]
      by_cases hx : hasB lg[i].1 x
      · rw [if_pos hx]
        unfold oweX overB
        simp only [if_pos hx]
        cases valB s.lh x <;> rfl
      · rw [if_neg hx, over_none (by simp only [if_neg hx])]
    · rintro w5 ⟨lo, l5, h5, g5, hd5, hv5, k5⟩ J _j
      have hn : ¬ (((asLocks lg).length : Int) < ((asLocks lg).length : Int)) := by omega
      rw [asLocks_len, List.take_length] at hv5
      simp only [stp, Nat.reduceAdd, Int.reduceLT, Int.reduceLE, Int.reduceEq, Int.reduceNe, ne_eq, bne_self_eq_false, beq_self_eq_true, hn]
      have ko5 : KO B cp w w5 := ((KO.of0 k02).trans k3).trans ((KO.of0 k4).trans k5)
      have hlo5 : ∀ x, valB lo x = overX (oweX (valB s.lh)) (valB s.lo) (goneF L) x := fun x => by rw [hv5, show valB lg = goneF L from funext hv3]
      have hl5 := canon_len (n := 4096) g5.canon hd5
      refine clocks_c g5 (by omega) fun w6 v6 o6 k6 => ?_
      have h6 := h5.keep0 k6
      obtain ⟨pb, cb, rfl⟩ := o6.form
      by_cases hl0 : (asLocks l5).length = 0
      · have e : ((asLocks l5).length : Int) = 0 := by omega
        simp only [stp, Nat.reduceAdd, Int.reduceLT, Int.reduceLE, Int.reduceEq, Int.reduceNe, ne_eq, bne_self_eq_false, beq_self_eq_true, e]
        exact hq _ _ lo hlo5 ⟨mh, mu, mo, wv, h6⟩ (ko5.trans (KO.of0 k6))
      have e : ¬ ((asLocks l5).length : Int) = 0 := by omega
      have c10 : cel w6 c 10 = some (.int .i64 (s.grants : Int)) := by rw [h6.cel]; rfl
      obtain ⟨g, cg, eg, _, _, hncg, _, _, _⟩ := o6.at (by omega)
      injection eg with e1 _ e2
      subst e1 e2
      simp only [stp, Nat.reduceAdd, Int.reduceLT, Int.reduceLE, Int.reduceEq, Int.reduceNe, ne_eq, bne_self_eq_false, beq_self_eq_true, stm, e, c10]
      rw [show (200 : Int) = ((200 : Nat) : Int) from rfl, min_nat, slt_27 (by omega)]
      simp only [stp, Nat.reduceAdd, Int.reduceLT, Int.reduceLE, Int.reduceEq, Int.reduceNe, ne_eq, bne_self_eq_false, beq_self_eq_true, stm]
      have kd6 : K0 w6 w6.drew := (K0.refl w6).drew
      refine message_c ⟨mh, mu, mo, _, h6.keep0 kd6⟩ one_slice fun w7 k7 => ?_
      unfold msgC
      simp only [stp, Nat.reduceAdd, Int.reduceLT, Int.reduceLE, Int.reduceEq, Int.reduceNe, ne_eq, bne_self_eq_false, beq_self_eq_true, stm]
      have k67 := (k6.trans (kd6.trans k7)).alloc (.cells #[.int .i64 9, .int .i64 0, .int .i64 0, .int .i64 s.gen, .int .i64 (s.grants : Int), .int .u64 s.epoch, .int .i64 0, .slice (some ⟨g, 0, none⟩) (min (asLocks l5).length 200) cb] 39)
      exact hq _ _ lo hlo5 ⟨mh, mu, mo, wv, h5.keep0 k67⟩ (ko5.trans (KO.of0 k67))
theorem crevoke_c {kind mi node gen stamp epoch err : Int} {lv : Value} {L : List I3} (h : CL w B c s) (hB : B ≤ siz w) (hl1 : Go.Sh.one lv = true) (hL : Rd 3 w lv L.length (flat enc3 L)) (hlo : ∀ g, lv.ownBlock = some g → g < B ∨ ∃ cs, blk w g = some (.cells cs 25)) (hlen : L.length ≤ 5000) (hd : ∀ k ∈ L, k.2.1 ≤ 4096)
    (hq : ∀ w' v lo, (∀ x, valB lo x = overX (oweX (valB s.lh)) (valB s.lo) (goneF L) x) → CL w' B c { s with lo := lo } → KO B cp w w' → Q v w') :
    callS Try.prog 37 #[.pointer (some ⟨c, 0, none⟩), .agg (msgC kind mi node gen stamp epoch err lv)] Q w :=
  crevoke_w h hB hl1 hL (fun g hg _ => hlo g hg) hlen hd hq
end
end Go.Proofs.Ytknklmemadediaa
