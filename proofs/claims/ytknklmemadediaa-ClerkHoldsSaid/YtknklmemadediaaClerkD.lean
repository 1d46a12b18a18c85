/- A node's side of the locks: what the server's grants, denials and questions leave. Conditions: as each says. -/
import Derived.Test.YtknklmemadediaaClerkC
set_option linter.unusedSimpArgs false
set_option linter.unusedVariables false
namespace Go.Proofs.Ytknklmemadediaa
open Go.Sh Go.Proofs.Ytknklmemadediaa.Mi
set_option maxRecDepth 100000
section
variable {w w' : World} {Q : Value → World → Prop} {B c : Nat} {s : CS} {mh mu mo : Nat} {wv : Value}
theorem msg_cells {w : World} {b : Nat} {x0 x1 x2 x3 x4 x5 x6 x7 : Value} (h : blk w b = some (.cells #[x0, x1, x2, x3, x4, x5, x6, x7] 39)) :
    cel w b 0 = some x0 ∧ cel w b 1 = some x1 ∧ cel w b 2 = some x2 ∧ cel w b 3 = some x3 ∧ cel w b 4 = some x4 ∧ cel w b 5 = some x5 ∧ cel w b 6 = some x6 ∧ cel w b 7 = some x7 := by
  refine ⟨?_, ?_, ?_, ?_, ?_, ?_, ?_, ?_⟩ <;> (rw [cel_b h]; rfl)
theorem _root_.Go.Sh.Rd.keep1 {F : Nat → Prop} {z n : Nat} {v : Value} {xs : List Value} (h : Rd z w v n xs) (k : Keep F w w') (hF : 0 < n → ∀ g, v.ownBlock = some g → g < siz w → ¬ F g) : Rd z w' v n xs := by
  rcases Nat.eq_zero_or_pos n with h0 | h0
  · refine ⟨h.1, .inl ⟨h0, ?_⟩⟩
    rcases h.2 with h1 | ⟨b, o, c, e, _⟩
    · exact h1.2
    · exact ⟨_, _, by rw [e, h0]⟩
  · exact h.keep k (hF h0)
theorem cgrant_w {kind mi node gen stamp epoch err : Int} {lv : Value} {L : List I3} (h : CL w B c s) (hB : B ≤ siz w) (hid : s.id ≤ 1000000) (hgr : s.grants ≤ 1000000) (hl1 : Go.Sh.one lv = true) (hL : Rd 3 w lv L.length (flat enc3 L)) (hlo : ∀ g, lv.ownBlock = some g → 0 < L.length → ¬ g = c) (hlen : L.length ≤ 5000) (hd : ∀ k ∈ L, k.2.1 ≤ 4096)
    (hq0 : (s.out = false ∨ mi ≠ s.id) → ∀ w' lh lo, (∀ x, valB lh x = raiseB (valB s.lh) (askF L) x) → (∀ x, valB lo x = overB zF (valB s.lo) (askF L) x) → CL w' B c { s with grants := s.grants + 1, lh := lh, lo := lo } → KO B cp w w' → Q (.slice none 0 0) w')
    (hq1 : s.out = true → mi = s.id → ∀ w' lh, (∀ x, valB lh x = raiseB (valB s.lh) (askF L) x) → (∀ x, needF (valB s.lw x) (valB lh x) = none) → CL w' B c { s with grants := s.grants + 1, lh := lh, out := false } → KO B cp w w' → Q (.slice none 0 0) w')
    (hq2 : s.out = true → mi = s.id → ∀ w' lh v lv' l', (∀ x, valB lh x = raiseB (valB s.lh) (askF L) x) → Canon l' → (∀ x, valB l' x = needF (valB s.lw x) (valB lh x)) → okM l' → (hl : 0 < l'.length) → OneMsg w' v 5 ((s.id + 1 : Nat) : Int) 0 s.gen 0 s.epoch 0 lv' → TRd w' B 25 3 lv' 1 (enc3 (l'[0].1.1, l'[0].1.2, l'[0].2)) →
      CL w' B c { s with grants := s.grants + 1, lh := lh, id := s.id + 1, out := true, quit := false } → KO B cp w w' → Q v w') :
    callS Try.prog 35 #[.pointer (some ⟨c, 0, none⟩), .agg (msgC kind mi node gen stamp epoch err lv)] Q w := by
  refine ref35 ?_
  unfold S35
  obtain ⟨mh, mu, mo, wv, h⟩ := h
  unfold msgC
  simp only [act_box, agg_cells]
  generalize hw1 : w.alloc (.cells #[.int .i64 kind, .int .i64 mi, .int .i64 node, .int .i64 gen, .int .i64 stamp, .int .u64 epoch, .int .i64 err, lv] 39) = w1
  have b1 : blk w1 (siz w) = some (.cells #[.int .i64 kind, .int .i64 mi, .int .i64 node, .int .i64 gen, .int .i64 stamp, .int .u64 epoch, .int .i64 err, lv] 39) := by rw [← hw1]; exact blk_alloc_new
  have k1 : K0 w w1 := by rw [← hw1]; exact (K0.refl w).alloc _
  have s1 := k1.size
  have h1 := h.keep0 k1
  have c10 : cel w1 c 10 = some (.int .i64 (s.grants : Int)) := by rw [h1.cel]; rfl
  have i10 : (cel w1 c 10).isSome = true := by rw [c10]; rfl
  simp only [stp, Nat.reduceAdd, Int.reduceLT, Int.reduceLE, Int.reduceEq, Int.reduceNe, ne_eq, bne_self_eq_false, beq_self_eq_true, stm, c10, wrap_succ (i := s.grants) (by omega)]
  rw [st_3 one_int i10 (fre_b h1.b)]
  have h2 : CLr (sto w1 c 10 (.int .i64 ((s.grants + 1 : Nat) : Int))) B c { s with grants := s.grants + 1 } mh mu mo wv := h1.put (o := 10) (v := .int .i64 ((s.grants + 1 : Nat) : Int)) rfl
  have k2 : Keep (fun b => b = c) w1 (sto w1 c 10 (.int .i64 ((s.grants + 1 : Nat) : Int))) := (Keep.refl (fun b => b = c) w1).sto (.inl rfl) _ _
  have ko2 : KO B cp w (sto w1 c 10 (.int .i64 ((s.grants + 1 : Nat) : Int))) := (KO.of0 k1).trans (h1.koC k2)
  have s2 := k2.size
  generalize sto w1 c 10 (.int .i64 ((s.grants + 1 : Nat) : Int)) = w2 at h2 k2 ko2 s2
  have b2 := k2.blk b1 (ne_of_ty b1 h1.b (by decide))
  obtain ⟨x0, x1, x2, x3, x4, x5, x6, x7⟩ := msg_cells b2
  simp only [stp, Nat.reduceAdd, Int.reduceLT, Int.reduceLE, Int.reduceEq, Int.reduceNe, ne_eq, bne_self_eq_false, beq_self_eq_true, stm, x7]
  have hL2 : Rd 3 w2 lv L.length (flat enc3 L) := (hL.keep0 k1).keep1 k2 fun h0 g hg _ => hlo g hg h0
  refine mnorm_c hL2 (by omega) fun w3 v3 N hcN hvN hlN o3 k3 => ?_
  have k3 := k3.old'
  have h3 := h2.keep0 k3
  have s3 := k3.size
  have b3 := k3.blk b2 id
  have hmN := okM_of hcN hvN
  have hdN : Bd 4096 N := bd_of_val hcN fun x hx => by rw [hvN]; exact askF_bd hd hx
  have hvN' : valB N = askF L := funext hvN
  obtain ⟨pa, ca, rfl⟩ := o3.form
  have hNl : (asLocks N).length ≤ 1000000000000 := by rw [asLocks_len]; have := canon_len (n := 4096) hcN hdN; omega
  simp only [stp, Nat.reduceAdd, Int.reduceLT, Int.reduceLE, Int.reduceEq, Int.reduceNe, ne_eq, bne_self_eq_false, beq_self_eq_true]
  refine lpc1 (asLocks N).length hNl (fun i w' => ∃ lh, CLr w' B c { s with grants := s.grants + 1, lh := lh } mh mu mo wv ∧ (∀ x, valB lh x = overB rF (valB s.lh) (valB (N.take i)) x) ∧ KO B cp w3 w') ⟨s.lh, h3, fun x => rfl, KO.refl _ _ _⟩ ?_ ?_
  · rintro i w4 hlt ⟨lh, h4, hv4, k4⟩ J hJ _j
    have hltN : i < N.length := by rwa [asLocks_len] at hlt
    obtain ⟨b, o, rfl, p0, p1, p2⟩ := lkp_at (k4.own o3 fun cs => rfl).rd hltN
    have hlt' : ((i : Int) < ((asLocks N).length : Int)) := by omega
    simp only [stp, Nat.reduceAdd, Int.reduceLT, Int.reduceLE, Int.reduceEq, Int.reduceNe, ne_eq, bne_self_eq_false, beq_self_eq_true, hlt']
    rw [ix_27 hlt]
    simp only [stp, Nat.reduceAdd, Int.reduceLT, Int.reduceLE, Int.reduceEq, Int.reduceNe, ne_eq, bne_self_eq_false, beq_self_eq_true, stm, p0, p1, p2]
    have k5 := (K0.refl w4).alloc (.cells #[.int .i64 N[i].1.1, .int .i64 N[i].1.2, .int .i64 N[i].2] 25)
    have y0 : cel (w4.alloc (.cells #[.int .i64 N[i].1.1, .int .i64 N[i].1.2, .int .i64 N[i].2] 25)) (siz w4) 0 = some (.int .i64 N[i].1.1) := cel_alloc_new
    have y1 : cel (w4.alloc (.cells #[.int .i64 N[i].1.1, .int .i64 N[i].1.2, .int .i64 N[i].2] 25)) (siz w4) 1 = some (.int .i64 N[i].1.2) := cel_alloc_new
    have y2 : cel (w4.alloc (.cells #[.int .i64 N[i].1.1, .int .i64 N[i].1.2, .int .i64 N[i].2] 25)) (siz w4) 2 = some (.int .i64 N[i].2) := cel_alloc_new
    generalize w4.alloc (.cells #[.int .i64 N[i].1.1, .int .i64 N[i].1.2, .int .i64 N[i].2] 25) = w5 at k5 y0 y1 y2
    have h5 := h4.keep0 k5.drew
    have c4 : cel w5 c 3 = some (.pointer (some ⟨mh, 0, none⟩)) := by rw [(h4.keep0 k5).cel]; rfl
    simp only [stp, Nat.reduceAdd, Int.reduceLT, Int.reduceLE, Int.reduceEq, Int.reduceNe, ne_eq, bne_self_eq_false, beq_self_eq_true, stm, c4, y0, y1, y2]
    refine raise_c h5.h (by have := h5.lenH; omega) fun w6 l6 m6 hv6 k6 => ?_
    have hv6' : ∀ x, valB l6 x = overB rF (valB s.lh) (valB (N.take (i + 1))) x := fun x => by
      rw [hv6, updM_rF, over_take hcN.apart hltN, hv4]
    have hd6 : Bd 4096 l6 := bd_of_val m6.canon fun x hx => by rw [hv6']; exact over_bd (fun y hy => val_of_bd h.dh hy) hdN _ hx
    try simp only [stp, Nat.reduceAdd, Int.reduceLT, Int.reduceLE, Int.reduceEq, Int.reduceNe, ne_eq, bne_self_eq_false, beq_self_eq_true]
    exact hJ _ ⟨l6, h5.turnH k6 m6 hd6, hv6', k4.trans ((KO.of0 k5.drew).trans (h5.koH k6))⟩
  · rintro w4 ⟨lh, h4, hv4, k4⟩ J _j
    have hn : ¬ (((asLocks N).length : Int) < ((asLocks N).length : Int)) := by omega
    have hvh : ∀ x, valB lh x = raiseB (valB s.lh) (askF L) x := fun x => by
      rw [hv4, raiseB_over, asLocks_len, List.take_length, hvN']
    have b4 := k4.blk b3 rfl
    obtain ⟨x0, x1, x2, x3, x4, x5, x6, x7⟩ := msg_cells b4
    have ko4 := (ko2.trans (KO.of0 k3)).trans k4
    have o4 := k4.own o3 (fun cs => rfl)
    have c8 : cel w4 c 8 = some (.bool s.out) := by rw [h4.cel]; rfl
    have c7 : cel w4 c 7 = some (.int .i64 (s.id : Int)) := by rw [h4.cel]; rfl
    have hd4 := h4.keep0 ((K0.refl w4).drew)
    have kd : K0 w4 w4.drew := (K0.refl w4).drew
    rcases (show s.out = false ∨ (s.out = true ∧ mi ≠ s.id) ∨ (s.out = true ∧ mi = s.id) from by
      cases ho : s.out with
      | false => exact .inl rfl
      | true => by_cases hi : mi = s.id
                · exact .inr (.inr ⟨rfl, hi⟩)
                · exact .inr (.inl ⟨rfl, hi⟩)) with ho | ⟨ho, hi⟩ | ⟨ho, hi⟩
    case inr.inr =>
      rw [ho] at c8
      have i8 : (cel w4.drew c 8).isSome = true := by rw [cel_drew, c8]; rfl
      simp only [stp, Nat.reduceAdd, Int.reduceLT, Int.reduceLE, Int.reduceEq, Int.reduceNe, ne_eq, bne_self_eq_false, beq_self_eq_true, stm, hn, c8, x1, c7, hi]
      rw [st_4 one_bool i8 (fre_b hd4.b)]
      have h5 : CLr (sto w4.drew c 8 (.bool false)) B c { s with grants := s.grants + 1, lh := lh, out := false } mh mu mo wv := hd4.put (o := 8) (v := .bool false) rfl
      have k5 : Keep (fun b => b = c) w4.drew (sto w4.drew c 8 (.bool false)) := (Keep.refl (fun b => b = c) w4.drew).sto (.inl rfl) _ _
      have ko5 : KO B cp w (sto w4.drew c 8 (.bool false)) := (ko4.trans (KO.of0 kd)).trans (hd4.koC k5)
      have s5 := ko5.size
      generalize sto w4.drew c 8 (.bool false) = w5 at h5 k5 ko5 s5
      try simp only [stp, Nat.reduceAdd, Int.reduceLT, Int.reduceLE, Int.reduceEq, Int.reduceNe, ne_eq, bne_self_eq_false, beq_self_eq_true]
      refine cask_c ⟨mh, mu, mo, wv, h5⟩ (by omega) hid (fun hor w6 h6 k6 => ?_) (fun hout w6 v6 lv6 l6 hc6 hv6 hm6 hl6 m6 t6 h6 k6 => ?_)
      · rcases hor with h' | h'
        · cases h'
        · exact hq1 ho hi _ lh hvh h' h6 (ko5.trans k6)
      · exact hq2 ho hi _ lh v6 lv6 l6 hvh hc6 hv6 hm6 hl6 m6 t6 h6 (ko5.trans k6)
    case' inl =>
      have hor : s.out = false ∨ mi ≠ s.id := .inl ho
      rw [ho] at c8
      simp only [stp, Nat.reduceAdd, Int.reduceLT, Int.reduceLE, Int.reduceEq, Int.reduceNe, ne_eq, bne_self_eq_false, beq_self_eq_true, stm, hn, c8]
    case' inr.inl =>
      have hor : s.out = false ∨ mi ≠ s.id := .inr hi
      rw [ho] at c8
      simp only [stp, Nat.reduceAdd, Int.reduceLT, Int.reduceLE, Int.reduceEq, Int.reduceNe, ne_eq, bne_self_eq_false, beq_self_eq_true, stm, hn, c8, x1, c7, hi]
    all_goals
      refine lpc1 (asLocks N).length hNl (fun i w' => ∃ lo, CLr w' B c { s with grants := s.grants + 1, lh := lh, lo := lo } mh mu mo wv ∧ (∀ x, valB lo x = overB zF (valB s.lo) (valB (N.take i)) x) ∧ KO B cp w4.drew w') ⟨s.lo, hd4, fun x => rfl, KO.refl _ _ _⟩ ?_ ?_
      · rintro i w6 hlt ⟨lo, h6, hv6, k6⟩ J hJ _j
        have hltN : i < N.length := by rwa [asLocks_len] at hlt
        obtain ⟨b, o, rfl, p0, p1, p2⟩ := lkp_at (k6.own (o4.keep kd fun _ _ => id) fun cs => rfl).rd hltN
        have hlt' : ((i : Int) < ((asLocks N).length : Int)) := by omega
        simp only [stp, Nat.reduceAdd, Int.reduceLT, Int.reduceLE, Int.reduceEq, Int.reduceNe, ne_eq, bne_self_eq_false, beq_self_eq_true, hlt']
        rw [ix_27 hlt]
        simp only [stp, Nat.reduceAdd, Int.reduceLT, Int.reduceLE, Int.reduceEq, Int.reduceNe, ne_eq, bne_self_eq_false, beq_self_eq_true, stm, p0, p1, p2]
        have k5 := (K0.refl w6).alloc (.cells #[.int .i64 N[i].1.1, .int .i64 N[i].1.2, .int .i64 N[i].2] 25)
        have y0 : cel (w6.alloc (.cells #[.int .i64 N[i].1.1, .int .i64 N[i].1.2, .int .i64 N[i].2] 25)) (siz w6) 0 = some (.int .i64 N[i].1.1) := cel_alloc_new
        have y1 : cel (w6.alloc (.cells #[.int .i64 N[i].1.1, .int .i64 N[i].1.2, .int .i64 N[i].2] 25)) (siz w6) 1 = some (.int .i64 N[i].1.2) := cel_alloc_new
        generalize w6.alloc (.cells #[.int .i64 N[i].1.1, .int .i64 N[i].1.2, .int .i64 N[i].2] 25) = w5 at k5 y0 y1
        have h5 := h6.keep0 k5.drew
        have c4 : cel w5 c 5 = some (.pointer (some ⟨mo, 0, none⟩)) := by rw [(h6.keep0 k5).cel]; rfl
        simp only [stp, Nat.reduceAdd, Int.reduceLT, Int.reduceLE, Int.reduceEq, Int.reduceNe, ne_eq, bne_self_eq_false, beq_self_eq_true, stm, c4, y0, y1]
        refine set_any h5.o (by have := h5.lenO; omega) fun w7 l7 _ m7 hv7 _ k7 => ?_
        have hv7' : ∀ x, valB l7 x = overB zF (valB s.lo) (valB (N.take (i + 1))) x := fun x => by
          rw [hv7, over_take hcN.apart hltN, hv6]; rfl
        have hd7 : Bd 4096 l7 := bd_of_val m7.canon fun x hx => by rw [hv7']; exact over_bd (fun y hy => val_of_bd h.do_ hy) hdN _ hx
        try simp only [stp, Nat.reduceAdd, Int.reduceLT, Int.reduceLE, Int.reduceEq, Int.reduceNe, ne_eq, bne_self_eq_false, beq_self_eq_true]
        exact hJ _ ⟨l7, h5.turnO k7 m7 hd7, hv7', k6.trans ((KO.of0 k5.drew).trans (h5.koO k7))⟩
      · rintro w6 ⟨lo, h6, hv6, k6⟩ J _j
        simp only [stp, Nat.reduceAdd, Int.reduceLT, Int.reduceLE, Int.reduceEq, Int.reduceNe, ne_eq, bne_self_eq_false, beq_self_eq_true, hn]
        refine hq0 hor _ lh lo hvh (fun x => ?_) ⟨mh, mu, mo, wv, h6⟩ ((ko4.trans (KO.of0 kd)).trans k6)
        rw [hv6, asLocks_len, List.take_length, hvN']
theorem cgrant_c {kind mi node gen stamp epoch err : Int} {lv : Value} {L : List I3} (h : CL w B c s) (hB : B ≤ siz w) (hid : s.id ≤ 1000000) (hgr : s.grants ≤ 1000000) (hl1 : Go.Sh.one lv = true) (hL : Rd 3 w lv L.length (flat enc3 L)) (hlo : ∀ g, lv.ownBlock = some g → ¬ g = c) (hlen : L.length ≤ 5000) (hd : ∀ k ∈ L, k.2.1 ≤ 4096)
    (hq0 : (s.out = false ∨ mi ≠ s.id) → ∀ w' lh lo, (∀ x, valB lh x = raiseB (valB s.lh) (askF L) x) → (∀ x, valB lo x = overB zF (valB s.lo) (askF L) x) → CL w' B c { s with grants := s.grants + 1, lh := lh, lo := lo } → KO B cp w w' → Q (.slice none 0 0) w')
    (hq1 : s.out = true → mi = s.id → ∀ w' lh, (∀ x, valB lh x = raiseB (valB s.lh) (askF L) x) → (∀ x, needF (valB s.lw x) (valB lh x) = none) → CL w' B c { s with grants := s.grants + 1, lh := lh, out := false } → KO B cp w w' → Q (.slice none 0 0) w')
    (hq2 : s.out = true → mi = s.id → ∀ w' lh v lv' l', (∀ x, valB lh x = raiseB (valB s.lh) (askF L) x) → Canon l' → (∀ x, valB l' x = needF (valB s.lw x) (valB lh x)) → okM l' → (hl : 0 < l'.length) → OneMsg w' v 5 ((s.id + 1 : Nat) : Int) 0 s.gen 0 s.epoch 0 lv' → TRd w' B 25 3 lv' 1 (enc3 (l'[0].1.1, l'[0].1.2, l'[0].2)) →
      CL w' B c { s with grants := s.grants + 1, lh := lh, id := s.id + 1, out := true, quit := false } → KO B cp w w' → Q v w') :
    callS Try.prog 35 #[.pointer (some ⟨c, 0, none⟩), .agg (msgC kind mi node gen stamp epoch err lv)] Q w :=
  cgrant_w h hB hid hgr hl1 hL (fun g hg _ => hlo g hg) hlen hd hq0 hq1 hq2
end
end Go.Proofs.Ytknklmemadediaa
