/- A node's side of the locks: giving them back. Conditions: as each says. -/
import Derived.Test.YtknklmemadediaaClerkJ
set_option linter.unusedSimpArgs false
set_option linter.unusedVariables false
namespace Go.Proofs.Ytknklmemadediaa
open Go.Sh Go.Proofs.Ytknklmemadediaa.Mi
set_option maxRecDepth 100000
theorem asLocks_take (l : List (Pt Int)) (n : Nat) : asLocks (l.take n) = (asLocks l).take n := by unfold asLocks; rw [List.map_take]
theorem canon_take {l : List (Pt Int)} (h : Canon l) (n : Nat) : Canon (l.take n) := ⟨fun p hp => h.1 p (List.mem_of_mem_take hp), h.2.sublist (List.take_sublist _ _)⟩
def outF (_ : Option Int) (_ : Int) : Option Int := none
def keepF (_ : Option Int) (md : Int) : Option Int := if md = 0 then none else some md
section
variable {w w' : World} {Q : Value → World → Prop} {B c : Nat} {s : CS} {mh mu mo : Nat} {wv : Value}
/-- The first n locks of a list. -/
theorem own_take {pa : Option Addr} {ca n : Nat} {l : List (Pt Int)} {A : Nat} (h : Own w A 25 3 (.slice pa (asLocks l).length ca) (asLocks l).length (flat enc3 (asLocks l))) (hn : n ≤ l.length) :
    ∃ pa' ca', Own w A 25 3 (.slice pa' n ca') n (flat enc3 (asLocks (l.take n))) ∧ ∀ {k : Value → Prop}, pur Try.prog (Instr.sliceAt 27 (.slice pa (asLocks l).length ca) none (some (.int .i64 (n : Int))) none) k = k (.slice pa' n ca') := by
  have hl := asLocks_len l
  rcases h.2 with ⟨e, h0⟩ | ⟨g, cap, cur, e, _, _, hcap, _⟩
  · injection e with e1 e2 e3
    subst e1 e3
    have : n = 0 := by omega
    subst this
    refine ⟨none, 0, by rw [List.take_zero]; exact Own.nil _ _ _ _, fun {k} => ?_⟩
    rw [e2]
    exact slt0_27
  · injection e with e1 e2 e3
    subst e1 e3
    refine ⟨some ⟨g, 0, none⟩, ca, ?_, fun {k} => slt_27 (by omega)⟩
    have := h.cutZ (m := n) (by omega)
    rw [asLocks_take, ← flat_take (fun x => enc3_len x)]
    exact this
theorem cgive_c {v : Value} {L : List I3} (h : CL w B c s) (hB : B ≤ siz w) (hL : Rd 3 w v L.length (flat enc3 L)) (hlen : L.length ≤ 100000) (hd : ∀ k ∈ L, k.2.1 ≤ 4096)
    (hq0 : ∀ w' e, (∀ x, (chgF (raiseB (valB s.lu) (cutB e (valB s.lw))) (valB s.lh) L).2 x = none) → CL w' B c s → KO B cp w w' → Q (.tuple #[.agg (msgC 0 0 0 0 0 0 0 (.slice none 0 0)), .bool false]) w')
    (hq1 : ∀ w' e l' lv lh lo, Canon l' → Bd 4096 l' → (∀ x, valB l' x = (chgF (raiseB (valB s.lu) (cutB e (valB s.lw))) (valB s.lh) L).2 x) → 0 < (l'.take 200).length →
      (∀ x, valB lh x = overB keepF (valB s.lh) (valB (l'.take 200)) x) → (∀ x, valB lo x = overB outF (valB s.lo) (valB (l'.take 200)) x) → TRd w' B 25 3 lv (l'.take 200).length (flat enc3 (asLocks (l'.take 200))) → CL w' B c { s with lh := lh, lo := lo } → KO B cp w w' →
      Q (.tuple #[.agg (msgC 9 0 0 s.gen s.grants s.epoch 0 lv), .bool true]) w') :
    callS Try.prog 22 #[.pointer (some ⟨c, 0, none⟩), v] Q w := by
  refine ref22 ?_
  unfold S22
  simp only [stp, Nat.reduceAdd, Int.reduceLT, Int.reduceLE, Int.reduceEq, Int.reduceNe, ne_eq, bne_self_eq_false, beq_self_eq_true]
  generalize hw1 : w.alloc (.cells #[.int .i64 0, .int .i64 0, .int .i64 0, .int .i64 0, .int .i64 0, .int .u64 0, .int .i64 0, .slice none 0 0] 39) = w1
  have b1 : blk w1 (siz w) = some (.cells #[.int .i64 0, .int .i64 0, .int .i64 0, .int .i64 0, .int .i64 0, .int .u64 0, .int .i64 0, .slice none 0 0] 39) := by rw [← hw1]; exact blk_alloc_new
  have k1 : K0 w w1 := by rw [← hw1]; exact (K0.refl w).alloc _
  have s1 := k1.size
  refine cnone_c (h.keep0 k1) ?_
  simp only [stp, Nat.reduceAdd, Int.reduceLT, Int.reduceLE, Int.reduceEq, Int.reduceNe, ne_eq, bne_self_eq_false, beq_self_eq_true]
  refine changes_c (h.keep0 k1) (hL.keep0 k1) hlen hd fun w2 v2 e l' hc' hd' hv' o2 k2 => ?_
  have k02 := k1.trans k2
  have b2 := k2.blk b1 id
  obtain ⟨mh, mu, mo, wv, h⟩ := h
  have h2 := h.keep0 k02
  have hl' := canon_len (n := 4096) hc' hd'
  obtain ⟨pa, ca, rfl⟩ := o2.form
  obtain ⟨pt, ct, oT, hsl⟩ := own_take o2 (n := min l'.length 200) (Nat.min_le_left _ _)
  have hTl : (l'.take 200).length = min l'.length 200 := by rw [List.length_take, Nat.min_comm]
  have eT : l'.take (min l'.length 200) = l'.take 200 := by rw [← List.take_take, List.take_of_length_le (by rw [List.length_take]; omega)]
  rw [eT] at oT
  have hmn : min (((asLocks l').length : Nat) : Int) 200 = ((min l'.length 200 : Nat) : Int) := by rw [asLocks_len]; exact min_nat _ 200
  have hT200 : min l'.length 200 ≤ 200 := Nat.min_le_right _ _
  simp only [stp, Nat.reduceAdd, Int.reduceLT, Int.reduceLE, Int.reduceEq, Int.reduceNe, ne_eq, bne_self_eq_false, beq_self_eq_true, hmn]
  rw [hsl]
  generalize hT : l'.take 200 = T at *
  rw [← hTl] at oT hT200 ⊢
  simp only [stp, Nat.reduceAdd, Int.reduceLT, Int.reduceLE, Int.reduceEq, Int.reduceNe, ne_eq, bne_self_eq_false, beq_self_eq_true]
  by_cases hT0 : T.length = 0
  · have e0 : (T.length : Int) = 0 := by omega
    have y : ∀ o, o < 8 → (cel w2 (siz w) o).isSome = true := fun o ho => by rw [cel_b b2, Array.getElem?_eq_getElem ho]; rfl
    simp only [stp, Nat.reduceAdd, Int.reduceLT, Int.reduceLE, Int.reduceEq, Int.reduceNe, ne_eq, bne_self_eq_false, beq_self_eq_true, stm, e0]
    rw [st_39 one_int one_int one_int one_int one_int one_int one_int one_slice (y 0 (by omega)) (by rw [Nat.zero_add]; exact y 1 (by omega)) (by rw [Nat.zero_add]; exact y 2 (by omega)) (by rw [Nat.zero_add]; exact y 3 (by omega)) (by rw [Nat.zero_add]; exact y 4 (by omega)) (by rw [Nat.zero_add]; exact y 5 (by omega)) (by rw [Nat.zero_add]; exact y 6 (by omega)) (by rw [Nat.zero_add]; exact y 7 (by omega)) (fre_b b2)]
    have be := blk_stoL_all (xs := [.int .i64 0, .int .i64 0, .int .i64 0, .int .i64 0, .int .i64 0, .int .u64 0, .int .i64 0, .slice none 0 0]) (zs := [.int .i64 0, .int .i64 0, .int .i64 0, .int .i64 0, .int .i64 0, .int .u64 0, .int .i64 0, .slice none 0 0]) rfl b2
    have ke : K0 w (stoL w2 (siz w) 0 [.int .i64 0, .int .i64 0, .int .i64 0, .int .i64 0, .int .i64 0, .int .u64 0, .int .i64 0, .slice none 0 0]) := Keep.stoL _ 0 k02 (.inr (Nat.le_refl _))
    generalize stoL w2 (siz w) 0 [.int .i64 0, .int .i64 0, .int .i64 0, .int .i64 0, .int .i64 0, .int .u64 0, .int .i64 0, .slice none 0 0] = w9 at be ke
    obtain ⟨z0, z1, z2, z3, z4, z5, z6, z7⟩ := msg_cells be
    simp only [stp, Nat.reduceAdd, Int.reduceLT, Int.reduceLE, Int.reduceEq, Int.reduceNe, ne_eq, bne_self_eq_false, beq_self_eq_true, stm, z0, z1, z2, z3, z4, z5, z6, z7]
    have hl0 : l' = [] := by
      rw [← hT, List.length_take] at hT0
      exact List.length_eq_zero_iff.1 (by omega)
    exact hq0 _ e (fun x => by rw [← hv', hl0]; rfl) ⟨mh, mu, mo, wv, h.keep0 ke⟩ (KO.of0 ke)
  have e0 : ¬ (T.length : Int) = 0 := by omega
  have hcT : Canon T := by rw [← hT]; exact canon_take hc' _
  have hdT : Bd 4096 T := fun p hp => hd' p (by rw [← hT] at hp; exact List.mem_of_mem_take hp)
  have oT' : Own w2 (siz w1) 25 3 (.slice pt T.length ct) (asLocks T).length (flat enc3 (asLocks T)) := by rw [asLocks_len]; exact oT
  simp only [stp, Nat.reduceAdd, Int.reduceLT, Int.reduceLE, Int.reduceEq, Int.reduceNe, ne_eq, bne_self_eq_false, beq_self_eq_true, e0]
  refine lpc1 T.length (by omega) (fun i w' => ∃ lh lo, CLr w' B c { s with lh := lh, lo := lo } mh mu mo wv ∧ (∀ x, valB lh x = overB keepF (valB s.lh) (valB (T.take i)) x) ∧ (∀ x, valB lo x = overB outF (valB s.lo) (valB (T.take i)) x) ∧ KO B cp w2 w') ⟨s.lh, s.lo, h2, fun x => rfl, fun x => rfl, KO.refl _ _ _⟩ ?_ ?_
  · rintro i w3 hlt ⟨lh, lo, h3, hh3, ho3, k3⟩ J hJ _j
    have hlt' : ((i : Int) < (T.length : Int)) := by omega
    have oT3 := (k3.own oT' fun cs => rfl).rd
    have hsl' : (Value.slice pt T.length ct) = .slice pt (asLocks T).length ct := by rw [asLocks_len]
    rw [hsl'] at oT3
    obtain ⟨b, o, rfl, p0, p1, p2⟩ := lkp_at oT3 hlt
    have hTh := fun x => over_take (F := keepF) (H := valB s.lh) hcT.apart hlt x
    have hTo := fun x => over_take (F := outF) (H := valB s.lo) hcT.apart hlt x
    have hbd : ∀ {x : Int}, (4096 : Int) ≤ x → ¬ hasB (T[i].1.1, T[i].1.2) x := fun {x} hx hh => by
      have := hdT _ (List.getElem_mem hlt)
      have := hh.2.2
      simp only at this
      omega
    simp only [stp, Nat.reduceAdd, Int.reduceLT, Int.reduceLE, Int.reduceEq, Int.reduceNe, ne_eq, bne_self_eq_false, beq_self_eq_true, hlt']
    refine jn0 (fun w' => ∃ lh lo, CLr w' B c { s with lh := lh, lo := lo } mh mu mo wv ∧ (∀ x, valB lh x = overB keepF (valB s.lh) (valB (T.take (i + 1))) x) ∧ (∀ x, valB lo x = overB outF (valB s.lo) (valB (T.take (i + 1))) x) ∧ KO B cp w2 w') (fun J1 hJ1 => ?_) ?_
    · rw [ix_27 hlt]
      simp only [stp, Nat.reduceAdd, Int.reduceLT, Int.reduceLE, Int.reduceEq, Int.reduceNe, ne_eq, bne_self_eq_false, beq_self_eq_true, stm, p0, p1, p2]
      have k4 := (K0.refl w3).alloc (.cells #[.int .i64 T[i].1.1, .int .i64 T[i].1.2, .int .i64 T[i].2] 25)
      have e4 : blk (w3.alloc (.cells #[.int .i64 T[i].1.1, .int .i64 T[i].1.2, .int .i64 T[i].2] 25)) (siz w3) = some (.cells #[.int .i64 T[i].1.1, .int .i64 T[i].1.2, .int .i64 T[i].2] 25) := blk_alloc_new
      generalize w3.alloc (.cells #[.int .i64 T[i].1.1, .int .i64 T[i].1.2, .int .i64 T[i].2] 25) = w4 at k4 e4
      have h4 := h3.keep0 k4
      have k4d := k4.drew
      have h4d := h3.keep0 k4d
      have c5 : cel w4 c 5 = some (.pointer (some ⟨mo, 0, none⟩)) := by rw [h4.cel]; rfl
      have z0 : cel w4 (siz w3) 0 = some (.int .i64 T[i].1.1) := by rw [cel_b e4]; rfl
      have z1 : cel w4 (siz w3) 1 = some (.int .i64 T[i].1.2) := by rw [cel_b e4]; rfl
      simp only [stp, Nat.reduceAdd, Int.reduceLT, Int.reduceLE, Int.reduceEq, Int.reduceNe, ne_eq, bne_self_eq_false, beq_self_eq_true, stm, c5, z0, z1]
      refine clear_any h4d.o (by have := h4d.lenO; omega) fun w5 l5 _ m5 hv5 _ k5 => ?_
      have hd5 : Bd 4096 l5 := bd_of_val m5.canon fun x hx => by
        rw [hv5]; split
        · rfl
        · exact val_of_bd h4d.do_ hx
      have h5 := h4d.turnO k5 m5 hd5
      have ko5 := h4d.koO k5
      have e5 := ko5.blk (blk_drew' e4) rfl
      have ho5 : ∀ x, valB l5 x = overB outF (valB s.lo) (valB (T.take (i + 1))) x := fun x => by
        rw [hv5, hTo]
        have hx' : hasB (T[i].1.1, T[i].1.2) x ↔ hasB T[i].1 x := Iff.rfl
        by_cases hx : hasB T[i].1 x
        · rw [if_pos (hx'.2 hx), if_pos hx]; rfl
        · rw [if_neg (fun h' => hx (hx'.1 h')), if_neg hx, ← ho3]
      have z0 : cel w5 (siz w3) 0 = some (.int .i64 T[i].1.1) := by rw [cel_b e5]; rfl
      have z1 : cel w5 (siz w3) 1 = some (.int .i64 T[i].1.2) := by rw [cel_b e5]; rfl
      have z2 : cel w5 (siz w3) 2 = some (.int .i64 T[i].2) := by rw [cel_b e5]; rfl
      have c3 : cel w5 c 3 = some (.pointer (some ⟨mh, 0, none⟩)) := by rw [h5.cel]; rfl
      have k5d : K0 w5 w5.drew := (K0.refl w5).drew
      have h5d := h5.keep0 k5d
      by_cases hz : T[i].2 = 0
      · simp only [stp, Nat.reduceAdd, Int.reduceLT, Int.reduceLE, Int.reduceEq, Int.reduceNe, ne_eq, bne_self_eq_false, beq_self_eq_true, stm, z0, z1, z2, c3, hz]
        refine clear_any h5d.h (by have := h5d.lenH; omega) fun w6 l6 _ m6 hv6 _ k6 => ?_
        have hd6 : Bd 4096 l6 := bd_of_val m6.canon fun x hx => by
          rw [hv6]; split
          · rfl
          · exact val_of_bd h5d.dh hx
        try simp only [stp, Nat.reduceAdd, Int.reduceLT, Int.reduceLE, Int.reduceEq, Int.reduceNe, ne_eq, bne_self_eq_false, beq_self_eq_true]
        refine hJ1 _ ⟨l6, l5, h5d.turnH k6 m6 hd6, fun x => ?_, ho5, k3.trans ((KO.of0 k4d).trans (ko5.trans ((KO.of0 k5d).trans (h5d.koH k6))))⟩
        rw [hv6, hTh]
        have hx' : hasB (T[i].1.1, T[i].1.2) x ↔ hasB T[i].1 x := Iff.rfl
        by_cases hx : hasB T[i].1 x
        · rw [if_pos (hx'.2 hx), if_pos hx]; unfold keepF; rw [if_pos hz]
        · rw [if_neg (fun h' => hx (hx'.1 h')), if_neg hx, ← hh3]
      · simp only [stp, Nat.reduceAdd, Int.reduceLT, Int.reduceLE, Int.reduceEq, Int.reduceNe, ne_eq, bne_self_eq_false, beq_self_eq_true, stm, z0, z1, z2, c3, hz]
        refine set_any h5d.h (by have := h5d.lenH; omega) fun w6 l6 _ m6 hv6 _ k6 => ?_
        have hd6 : Bd 4096 l6 := bd_of_val m6.canon fun x hx => by
          rw [hv6, if_neg (hbd hx)]; exact val_of_bd h5d.dh hx
        try simp only [stp, Nat.reduceAdd, Int.reduceLT, Int.reduceLE, Int.reduceEq, Int.reduceNe, ne_eq, bne_self_eq_false, beq_self_eq_true]
        refine hJ1 _ ⟨l6, l5, h5d.turnH k6 m6 hd6, fun x => ?_, ho5, k3.trans ((KO.of0 k4d).trans (ko5.trans ((KO.of0 k5d).trans (h5d.koH k6))))⟩
        rw [hv6, hTh]
        have hx' : hasB (T[i].1.1, T[i].1.2) x ↔ hasB T[i].1 x := Iff.rfl
        by_cases hx : hasB T[i].1 x
        · rw [if_pos (hx'.2 hx), if_pos hx]; unfold keepF; rw [if_neg hz]
        · rw [if_neg (fun h' => hx (hx'.1 h')), if_neg hx, ← hh3]
    · rintro w4 hI _
      try simp only [stp, Nat.reduceAdd, Int.reduceLT, Int.reduceLE, Int.reduceEq, Int.reduceNe, ne_eq, bne_self_eq_false, beq_self_eq_true]
      exact hJ _ hI
  · rintro w3 ⟨lh, lo, h3, hh3, ho3, k3⟩ J _j
    have hn : ¬ ((T.length : Int) < (T.length : Int)) := by omega
    rw [List.take_length] at hh3 ho3
    have c10 : cel w3 c 10 = some (.int .i64 (s.grants : Int)) := by rw [h3.cel]; rfl
    simp only [stp, Nat.reduceAdd, Int.reduceLT, Int.reduceLE, Int.reduceEq, Int.reduceNe, ne_eq, bne_self_eq_false, beq_self_eq_true, stm, hn, c10]
    refine message_c ⟨mh, mu, mo, wv, h3⟩ one_slice fun w4 k34 => ?_
    have h4 := h3.keep0 k34
    have b4 := k34.blk (k3.blk b2 rfl) id
    have hsz : siz w ≤ siz w4 := by have := k02.size; have := k3.size; have := k34.size; omega
    have oT4 := (k3.own oT' fun cs => rfl).keep k34 fun _ _ => id
    have y : ∀ o, o < 8 → (cel w4 (siz w) o).isSome = true := fun o ho => by rw [cel_b b4, Array.getElem?_eq_getElem ho]; rfl
    unfold msgC
    try simp only [stp, Nat.reduceAdd, Int.reduceLT, Int.reduceLE, Int.reduceEq, Int.reduceNe, ne_eq, bne_self_eq_false, beq_self_eq_true]
    rw [st_39 one_int one_int one_int one_int one_int one_int one_int one_slice (y 0 (by omega)) (by rw [Nat.zero_add]; exact y 1 (by omega)) (by rw [Nat.zero_add]; exact y 2 (by omega)) (by rw [Nat.zero_add]; exact y 3 (by omega)) (by rw [Nat.zero_add]; exact y 4 (by omega)) (by rw [Nat.zero_add]; exact y 5 (by omega)) (by rw [Nat.zero_add]; exact y 6 (by omega)) (by rw [Nat.zero_add]; exact y 7 (by omega)) (fre_b b4)]
    have be := blk_stoL_all (xs := [.int .i64 9, .int .i64 0, .int .i64 0, .int .i64 s.gen, .int .i64 (s.grants : Int), .int .u64 s.epoch, .int .i64 0, .slice pt T.length ct]) (zs := [.int .i64 0, .int .i64 0, .int .i64 0, .int .i64 0, .int .i64 0, .int .u64 0, .int .i64 0, .slice none 0 0]) rfl b4
    have ke' : Keep (fun b => b = siz w) w4 (stoL w4 (siz w) 0 [.int .i64 9, .int .i64 0, .int .i64 0, .int .i64 s.gen, .int .i64 (s.grants : Int), .int .u64 s.epoch, .int .i64 0, .slice pt T.length ct]) := Keep.stoL _ 0 (Keep.refl _ _) (.inl rfl)
    generalize stoL w4 (siz w) 0 [.int .i64 9, .int .i64 0, .int .i64 0, .int .i64 s.gen, .int .i64 (s.grants : Int), .int .u64 s.epoch, .int .i64 0, .slice pt T.length ct] = w9 at be ke'
    obtain ⟨z0, z1, z2, z3, z4, z5, z6, z7⟩ := msg_cells be
    simp only [stp, Nat.reduceAdd, Int.reduceLT, Int.reduceLE, Int.reduceEq, Int.reduceNe, ne_eq, bne_self_eq_false, beq_self_eq_true, stm, z0, z1, z2, z3, z4, z5, z6, z7]
    have h9 : CLr w9 B c { s with lh := lh, lo := lo } mh mu mo wv :=
      { h4 with b := ke'.blk h4.b (ne_of_ty h4.b b4 (by decide)), h := im_keepT h4.h b4 (by decide) (by decide) ke', u := im_keepT h4.u b4 (by decide) (by decide) ke', o := im_keepT h4.o b4 (by decide) (by decide) ke', wr := h4.wr.keep ke' fun g cs' hg e => ne_of_ty hg b4 (by decide) e }
    have oT9 : TRd w9 B 25 3 (.slice pt T.length ct) (asLocks T).length (flat enc3 (asLocks T)) := (oT4.trd (by omega)).keep ke' fun g cs' hg e => ne_of_ty hg b4 (by decide) e
    rw [asLocks_len] at oT9
    have hq1' := hq1 w9 e l' (.slice pt T.length ct) lh lo hc' hd' hv'
    rw [hT] at hq1'
    have ko4 : KO B cp w w4 := (KO.of0 k02).trans (k3.trans (KO.of0 k34))
    exact hq1' (by omega) hh3 ho3 oT9 ⟨mh, mu, mo, wv, h9⟩ (ko4.trans' ke' fun b hb e => by omega)
end
end Go.Proofs.Ytknklmemadediaa
