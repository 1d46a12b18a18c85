/- A node's side of the locks: denials, questions, revocations. Conditions: as each says. -/
import Derived.Test.YtknklmemadediaaClerkD
set_option linter.unusedSimpArgs false
set_option linter.unusedVariables false
namespace Go.Proofs.Ytknklmemadediaa
open Go.Sh Go.Proofs.Ytknklmemadediaa.Mi
set_option maxRecDepth 100000
section
variable {w w' : World} {Q : Value → World → Prop} {B c : Nat} {s : CS} {mh mu mo : Nat} {wv : Value}
theorem cdeny_c {kind mi node gen stamp epoch err : Int} {lv : Value} (h : CL w B c s) (hB : B ≤ siz w) (hid : s.id ≤ 1000000) (hl1 : Go.Sh.one lv = true)
    (hq0 : s.quit = true → (∀ x, s.need x = none) → ∀ w', CL w' B c { s with out := false } → KO B cp w w' → Q (.slice none 0 0) w')
    (hq1 : s.quit = true → ∀ w' v lv' l', Canon l' → (∀ x, valB l' x = s.need x) → okM l' → (hl : 0 < l'.length) → OneMsg w' v 5 ((s.id + 1 : Nat) : Int) 0 s.gen 0 s.epoch 0 lv' → TRd w' B 25 3 lv' 1 (enc3 (l'[0].1.1, l'[0].1.2, l'[0].2)) →
      CL w' B c { s with id := s.id + 1, out := true, quit := false } → KO B cp w w' → Q v w')
    (hq2 : s.quit = false → ∀ w', CL w' B c { s with out := false, lw := [], denied := err } → KO B cp w w' → Q (.slice none 0 0) w') :
    callS Try.prog 36 #[.pointer (some ⟨c, 0, none⟩), .agg (msgC kind mi node gen stamp epoch err lv)] Q w := by
  refine ref36 ?_
  unfold S36
  obtain ⟨mh, mu, mo, wv, h⟩ := h
  unfold msgC
  simp only [act_box, agg_cells]
  generalize hw1 : w.alloc (.cells #[.int .i64 kind, .int .i64 mi, .int .i64 node, .int .i64 gen, .int .i64 stamp, .int .u64 epoch, .int .i64 err, lv] 39) = w1
  have b1 : blk w1 (siz w) = some (.cells #[.int .i64 kind, .int .i64 mi, .int .i64 node, .int .i64 gen, .int .i64 stamp, .int .u64 epoch, .int .i64 err, lv] 39) := by rw [← hw1]; exact blk_alloc_new
  have k1 : K0 w w1 := by rw [← hw1]; exact (K0.refl w).alloc _
  have s1 := k1.size
  have h1 := h.keep0 k1
  have i8 : (cel w1 c 8).isSome = true := by rw [h1.cel]; rfl
  simp only [stp, Nat.reduceAdd, Int.reduceLT, Int.reduceLE, Int.reduceEq, Int.reduceNe, ne_eq, bne_self_eq_false, beq_self_eq_true]
  rw [st_4 one_bool i8 (fre_b h1.b)]
  have h2 : CLr (sto w1 c 8 (.bool false)) B c { s with out := false } mh mu mo wv := h1.put (o := 8) (v := .bool false) rfl
  have k2 : Keep (fun b => b = c) w1 (sto w1 c 8 (.bool false)) := (Keep.refl (fun b => b = c) w1).sto (.inl rfl) _ _
  have ko2 : KO B cp w (sto w1 c 8 (.bool false)) := (KO.of0 k1).trans (h1.koC k2)
  have s2 := k2.size
  generalize sto w1 c 8 (.bool false) = w2 at h2 k2 ko2 s2
  have b2 := k2.blk b1 (ne_of_ty b1 h1.b (by decide))
  have c9 : cel w2 c 9 = some (.bool s.quit) := by rw [h2.cel]; rfl
  cases hqt : s.quit with
  | true =>
    rw [hqt] at c9
    simp only [stp, Nat.reduceAdd, Int.reduceLT, Int.reduceLE, Int.reduceEq, Int.reduceNe, ne_eq, bne_self_eq_false, beq_self_eq_true, stm, c9]
    refine cask_c ⟨mh, mu, mo, wv, h2⟩ (by omega) hid (fun hor w6 h6 k6 => ?_) (fun hout w6 v6 lv6 l6 hc6 hv6 hm6 hl6 m6 t6 h6 k6 => ?_)
    · rcases hor with h' | h'
      · cases h'
      · exact hq0 hqt h' _ h6 (ko2.trans k6)
    · exact hq1 hqt _ v6 lv6 l6 hc6 hv6 hm6 hl6 m6 t6 h6 (ko2.trans k6)
  | false =>
    rw [hqt] at c9
    simp only [stp, Nat.reduceAdd, Int.reduceLT, Int.reduceLE, Int.reduceEq, Int.reduceNe, ne_eq, bne_self_eq_false, beq_self_eq_true, stm, c9]
    have b2d := blk_drew' b2
    obtain ⟨x0, x1, x2, x3, x4, x5, x6, x7⟩ := msg_cells b2
    have h2d := h2.keep0 ((K0.refl w2).drew)
    have kd2 : K0 w2 w2.drew := (K0.refl w2).drew
    have h3 := h2d.wants (v := .slice none 0 0) (N := []) (TRd.nil _ _ _ _) (fun u hu e => by cases e) one_slice Canon.nil (fun p hp => by cases hp) (Bd.nil _)
    have k3 : Keep (fun b => b = c) w2.drew (sto w2.drew c 6 (.slice none 0 0)) := (Keep.refl (fun b => b = c) w2.drew).sto (.inl rfl) _ _
    have i6 : (cel w2.drew c 6).isSome = true := by rw [h2d.cel]; rfl
    have f2 := fre_b h2d.b
    have ko3 := (ko2.trans (KO.of0 kd2)).trans (h2d.koC k3)
    have b3 := k3.blk b2d (ne_of_ty b2d h2d.b (by decide))
    refine jn0 (fun w' => CLr w' B c { s with out := false, lw := [], denied := err } mh mu mo (.slice none 0 0) ∧ KO B cp w w') (fun J hJ => ?_) ?_
    · try simp only [stp, Nat.reduceAdd, Int.reduceLT, Int.reduceLE, Int.reduceEq, Int.reduceNe, ne_eq, bne_self_eq_false, beq_self_eq_true, stm, x6]
      refine ⟨?_, ?_⟩
      all_goals
        rw [st_27 one_slice i6 f2]
        generalize sto w2.drew c 6 (.slice none 0 0) = w3 at h3 k3 ko3 b3
        obtain ⟨x0, x1, x2, x3, x4, x5, x6, x7⟩ := msg_cells b3
        have i11 : (cel w3 c 11).isSome = true := by rw [h3.cel]; rfl
        try simp only [stp, Nat.reduceAdd, Int.reduceLT, Int.reduceLE, Int.reduceEq, Int.reduceNe, ne_eq, bne_self_eq_false, beq_self_eq_true, stm, x6]
        rw [st_37 one_int i11 (fre_b h3.b)]
        have h4 : CLr (sto w3 c 11 (.int .i64 err)) B c { s with out := false, lw := [], denied := err } mh mu mo (.slice none 0 0) := h3.put (o := 11) (v := .int .i64 err) rfl
        have k4 : Keep (fun b => b = c) w3 (sto w3 c 11 (.int .i64 err)) := (Keep.refl (fun b => b = c) w3).sto (.inl rfl) _ _
        exact hJ _ ⟨h4, ko3.trans (h3.koC k4)⟩
    · rintro w4 ⟨h4, k4⟩ _
      exact hq2 hqt _ ⟨mh, mu, mo, _, h4⟩ k4
/-- What is owed of a lock that is revoked, where more is held. -/
def oF (md : Int) (o : Option Int) (h : Int) : Option Int := if md < h then some (match o with | some v => min v md | none => md) else o
def gF (md : Int) (g : Option Int) (h : Int) : Option Int := if md < h then none else g
def mF (md : Int) (_ : Option Int) (v : Int) : Option Int := some (min v md)
theorem part_at {pa : Option Addr} {ca : Nat} {e : TypeId} {l : List (Pt Int)} (h : Own w B e 3 (.slice pa l.length ca) l.length (flat enc l)) {i : Nat} (hi : i < l.length) :
    ∃ g, pa = some ⟨g, 0, none⟩ ∧ cel w g (i * 3) = some (.int .i64 l[i].1.1) ∧ cel w g (i * 3 + 1) = some (.int .i64 l[i].1.2) ∧ cel w g (i * 3 + 2) = some (.int .i64 l[i].2) := by
  obtain ⟨g, cg, e, _, _, _, _, _, hcel⟩ := h.at (by omega)
  injection e with e1 _ e2
  subst e1 e2
  obtain ⟨p0, p1, p2⟩ := parts_at (ev := ev) (b := g) (o := 0) (l := l) (fun j hj => by rw [Nat.zero_add]; exact hcel j hj) (List.getElem?_eq_getElem hi)
  rw [Nat.zero_add] at p0 p1 p2
  exact ⟨g, rfl, p0, p1, p2⟩
theorem cowe_c {a b md : Int} {mg : Nat} {lg : List (Pt Int)} (h : CLr w B c s mh mu mo wv) (hB : B ≤ siz w) (hg : IM w mg lg) (hBg : B ≤ mg) (n1 : mg ≠ mh) (n2 : mg ≠ mu) (n3 : mg ≠ mo) (hdg : Bd 4096 lg)
    (hq : ∀ w' lo lg', (∀ x, valB lo x = overB (oF md) (valB s.lo) (fun x => if hasB (a, b) x then valB s.lh x else none) x) → (∀ x, valB lg' x = overB (gF md) (valB lg) (fun x => if hasB (a, b) x then valB s.lh x else none) x) → Bd 4096 lg' → IM w' mg lg' → CLr w' B c { s with lo := lo } mh mu mo wv → KO B cp w w' → Q (.tuple #[]) w') :
    callS Try.prog 54 #[.pointer (some ⟨c, 0, none⟩), .agg #[.int .i64 a, .int .i64 b, .int .i64 md], .pointer (some ⟨mg, 0, none⟩)] Q w := by
  refine ref54 ?_
  unfold S54
  simp only [act_box, agg_cells]
  generalize hw1 : w.alloc (.cells #[.int .i64 a, .int .i64 b, .int .i64 md] 25) = w1
  have b1 : blk w1 (siz w) = some (.cells #[.int .i64 a, .int .i64 b, .int .i64 md] 25) := by rw [← hw1]; exact blk_alloc_new
  have k1 : K0 w w1 := by rw [← hw1]; exact (K0.refl w).alloc _
  have kd1 : K0 w w1.drew := k1.drew
  have h1 := h.keep0 k1
  have b1d := blk_drew' b1
  have h1d := h.keep0 kd1
  have c3 : cel w1 c 3 = some (.pointer (some ⟨mh, 0, none⟩)) := by rw [h1.cel]; rfl
  have y0 : cel w1 (siz w) 0 = some (.int .i64 a) := by rw [cel_b b1]; rfl
  have y1 : cel w1 (siz w) 1 = some (.int .i64 b) := by rw [cel_b b1]; rfl
  simp only [stp, Nat.reduceAdd, Int.reduceLT, Int.reduceLE, Int.reduceEq, Int.reduceNe, ne_eq, bne_self_eq_false, beq_self_eq_true, stm, c3, y0, y1]
  refine parts_c h1d.h (by have := h1d.lenH; omega) fun w2 v2 o2 k2 => ?_
  have hPl := partsL_len (a, b) s.lh
  have hPc := partsL_canon (s := (a, b)) h1d.h.canon
  have hPv := partsL_val (a, b) s.lh h1d.h.canon.1
  have hlH := h1d.lenH
  change Own w2 (siz w1.drew) 75 3 v2 (partsL (a, b) s.lh).length (flat enc (partsL (a, b) s.lh)) at o2
  generalize partsL (a, b) s.lh = P at o2 hPl hPc hPv
  have hPv' : valB P = fun x => if hasB (a, b) x then valB s.lh x else none := funext hPv
  rw [← hPv'] at hq
  have hdP : Bd 4096 P := bd_of_val hPc fun x hx => by
    rw [hPv]; split
    · exact val_of_bd h.dh hx
    · rfl
  have k02 := kd1.trans k2
  have h2 := h.keep0 k02
  have g2 := hg.keep0 k02
  have b2 := k2.blk b1d id
  obtain ⟨pa, ca, rfl⟩ := o2.form
  simp only [stp, Nat.reduceAdd, Int.reduceLT, Int.reduceLE, Int.reduceEq, Int.reduceNe, ne_eq, bne_self_eq_false, beq_self_eq_true]
  refine lpc1 P.length (by omega) (fun i w' => ∃ lo lg', CLr w' B c { s with lo := lo } mh mu mo wv ∧ IM w' mg lg' ∧ Bd 4096 lg' ∧ (∀ x, valB lo x = overB (oF md) (valB s.lo) (valB (P.take i)) x) ∧ (∀ x, valB lg' x = overB (gF md) (valB lg) (valB (P.take i)) x) ∧ KO B cp w2 w') ⟨s.lo, lg, h2, g2, hdg, fun x => rfl, fun x => rfl, KO.refl _ _ _⟩ ?_ ?_
  · rintro i w3 hlt ⟨lo, lg3, h3, g3, hd3, hv3, hw3, k3⟩ J hJ _j
    have hlt' : ((i : Int) < (P.length : Int)) := by omega
    obtain ⟨g, rfl, p0, p1, p2⟩ := part_at (k3.own o2 fun cs => rfl) hlt
    have b3 := k3.blk b2 rfl
    have hokP := hPc.1 _ (List.getElem_mem hlt)
    simp only [stp, Nat.reduceAdd, Int.reduceLT, Int.reduceLE, Int.reduceEq, Int.reduceNe, ne_eq, bne_self_eq_false, beq_self_eq_true, hlt']
    refine jn0 (fun w' => ∃ lo lg', CLr w' B c { s with lo := lo } mh mu mo wv ∧ IM w' mg lg' ∧ Bd 4096 lg' ∧ (∀ x, valB lo x = overB (oF md) (valB s.lo) (valB (P.take (i + 1))) x) ∧ (∀ x, valB lg' x = overB (gF md) (valB lg) (valB (P.take (i + 1))) x) ∧ KO B cp w2 w') (fun J1 hJ1 => ?_) ?_
    · rw [ix_72 hlt]
      simp only [stp, Nat.reduceAdd, Int.reduceLT, Int.reduceLE, Int.reduceEq, Int.reduceNe, ne_eq, bne_self_eq_false, beq_self_eq_true, stm, p0, p1, p2]
      have k4 := (K0.refl w3).alloc (.cells #[.int .i64 P[i].1.1, .int .i64 P[i].1.2, .int .i64 P[i].2] 75)
      have e4 : blk (w3.alloc (.cells #[.int .i64 P[i].1.1, .int .i64 P[i].1.2, .int .i64 P[i].2] 75)) (siz w3) = some (.cells #[.int .i64 P[i].1.1, .int .i64 P[i].1.2, .int .i64 P[i].2] 75) := blk_alloc_new
      generalize w3.alloc (.cells #[.int .i64 P[i].1.1, .int .i64 P[i].1.2, .int .i64 P[i].2] 75) = w4 at k4 e4
      have h4 := h3.keep0 k4
      have g4 := g3.keep0 k4
      have b4 := k4.blk b3 id
      have z2 : cel w4 (siz w3) 2 = some (.int .i64 P[i].2) := by rw [cel_b e4]; rfl
      have z0 : cel w4 (siz w3) 0 = some (.int .i64 P[i].1.1) := by rw [cel_b e4]; rfl
      have z1 : cel w4 (siz w3) 1 = some (.int .i64 P[i].1.2) := by rw [cel_b e4]; rfl
      have y2 : cel w4 (siz w) 2 = some (.int .i64 md) := by rw [cel_b b4]; rfl
      have kk4 := k3.trans (KO.of0 k4)
      have hT := fun F H x => over_take (F := F) (H := H) hPc.apart hlt x
      by_cases hle : P[i].2 ≤ md
      · have hnl : ¬ md < P[i].2 := by omega
        simp only [stp, Nat.reduceAdd, Int.reduceLT, Int.reduceLE, Int.reduceEq, Int.reduceNe, ne_eq, bne_self_eq_false, beq_self_eq_true, stm, z2, y2, hle]
        refine hJ1 _ ⟨lo, lg3, h4, g4, hd3, fun x => ?_, fun x => ?_, kk4⟩
        · rw [hT, hv3]
          split
          · unfold oF; rw [if_neg hnl]
          · rfl
        · rw [hT, hw3]
          split
          · unfold gF; rw [if_neg hnl]
          · rfl
      have hlt4 : md < P[i].2 := by omega
      simp only [stp, Nat.reduceAdd, Int.reduceLT, Int.reduceLE, Int.reduceEq, Int.reduceNe, ne_eq, bne_self_eq_false, beq_self_eq_true, stm, z2, y2, hle, z0, z1]
      refine clear_any g4 (by have := canon_len (n := 4096) g4.canon hd3; omega) fun w5 lg5 _ g5 hv5 _ k5 => ?_
      have kg4 := im_kd g4 hBg
      have hko5 : KO B cp w4 w5 := KO.ofB k5 fun b e => e ▸ kg4
      obtain ⟨_, eg4⟩ := im_blk g4
      have h5 : CLr w5 B c { s with lo := lo } mh mu mo wv := { h4 with b := k5.blk h4.b (ne_of_ty h4.b eg4 (by decide)), h := h4.h.keepM g4 (Ne.symm n1) k5, u := h4.u.keepM g4 (Ne.symm n2) k5, o := h4.o.keepM g4 (Ne.symm n3) k5, wr := h4.wr.ko hko5 fun cs => rfl }
      have hd5 : Bd 4096 lg5 := bd_of_val g5.canon fun x hx => by
        rw [hv5]; split
        · rfl
        · exact val_of_bd hd3 hx
      have b5 := hko5.blk b4 rfl
      have e5 : blk w5 (siz w3) = some (.cells #[.int .i64 P[i].1.1, .int .i64 P[i].1.2, .int .i64 P[i].2] 75) := k5.blk e4 (ne_of_ty e4 eg4 (by decide))
      have c5 : cel w5 c 5 = some (.pointer (some ⟨mo, 0, none⟩)) := by rw [h5.cel]; rfl
      have z0 : cel w5 (siz w3) 0 = some (.int .i64 P[i].1.1) := by rw [cel_b e5]; rfl
      have z1 : cel w5 (siz w3) 1 = some (.int .i64 P[i].1.2) := by rw [cel_b e5]; rfl
      simp only [stp, Nat.reduceAdd, Int.reduceLT, Int.reduceLE, Int.reduceEq, Int.reduceNe, ne_eq, bne_self_eq_false, beq_self_eq_true, stm, c5, z0, z1]
      have kd5 : K0 w5 w5.drew := (K0.refl w5).drew
      have h5d := h5.keep0 kd5
      refine parts_c h5d.o (by have := h5d.lenO; omega) fun w6 v6 o6 k6 => ?_
      have hWl := partsL_len P[i].1 lo
      have hWc := partsL_canon (s := P[i].1) h5d.o.canon
      have hWv := partsL_val P[i].1 lo h5d.o.canon.1
      have hlO : lo.length ≤ 4096 := h5d.lenO
      change Own w6 (siz w5.drew) 75 3 v6 (partsL P[i].1 lo).length (flat enc (partsL P[i].1 lo)) at o6
      generalize partsL P[i].1 lo = W at o6 hWl hWc hWv
      have hdW : Bd 4096 W := bd_of_val hWc fun x hx => by
        rw [hWv]; split
        · exact val_of_bd h5d.do_ hx
        · rfl
      have k56 := kd5.trans k6
      have h6 := h5.keep0 k56
      have g6 := g5.keep0 k56
      have b6 := k56.blk b5 id
      have e6 := k56.blk e5 id
      have c6 : cel w6 c 5 = some (.pointer (some ⟨mo, 0, none⟩)) := by rw [h6.cel]; rfl
      have z0 : cel w6 (siz w3) 0 = some (.int .i64 P[i].1.1) := by rw [cel_b e6]; rfl
      have z1 : cel w6 (siz w3) 1 = some (.int .i64 P[i].1.2) := by rw [cel_b e6]; rfl
      have y2 : cel w6 (siz w) 2 = some (.int .i64 md) := by rw [cel_b b6]; rfl
      obtain ⟨pb, cb, rfl⟩ := o6.form
      simp only [stp, Nat.reduceAdd, Int.reduceLT, Int.reduceLE, Int.reduceEq, Int.reduceNe, ne_eq, bne_self_eq_false, beq_self_eq_true, stm, c6, z0, z1, y2]
      have kd6 : K0 w6 w6.drew := (K0.refl w6).drew
      have h6d := h6.keep0 kd6
      refine set_any h6d.o (by have := h6d.lenO; omega) fun w7 l7 _ m7 hv7 _ k7 => ?_
      have hv7' : ∀ x, valB l7 x = if hasB P[i].1 x then some md else valB lo x := hv7
      have hd7 : Bd 4096 l7 := bd_of_val m7.canon fun x hx => by
        rw [hv7', if_neg (fun hh => by have := hdP _ (List.getElem_mem hlt); have := hh.2.2; omega)]; exact val_of_bd h5.do_ hx
      have h7 := h6d.turnO k7 m7 hd7
      have ko7 := (KO.of0 (B := B) (p := cp) kd6).trans (h6d.koO k7)
      have g7 := (g6.keep0 kd6).keepM h6d.o n3 k7
      have o7 := ko7.own o6 fun cs => rfl
      have b7 := ko7.blk b6 rfl
      have e7 := ko7.blk e6 rfl
      have kk7 : KO B cp w2 w7 := (kk4.trans hko5).trans ((KO.of0 k56).trans ko7)
      try simp only [stp, Nat.reduceAdd, Int.reduceLT, Int.reduceLE, Int.reduceEq, Int.reduceNe, ne_eq, bne_self_eq_false, beq_self_eq_true]
      refine lpc1 W.length (by omega) (fun j w' => ∃ lo8, CLr w' B c { s with lo := lo8 } mh mu mo wv ∧ IM w' mg lg5 ∧ (∀ x, valB lo8 x = overB (mF md) (valB l7) (valB (W.take j)) x) ∧ KO B cp w7 w') ⟨l7, h7, g7, fun x => rfl, KO.refl _ _ _⟩ ?_ ?_
      · rintro j w8 hjt ⟨lo8, h8, g8, hv8, k8⟩ J2 hJ2 _j
        have hjt' : ((j : Int) < (W.length : Int)) := by omega
        obtain ⟨g', rfl, q0, q1, q2⟩ := part_at (k8.own o7 fun cs => rfl) hjt
        have b8 := k8.blk b7 rfl
        simp only [stp, Nat.reduceAdd, Int.reduceLT, Int.reduceLE, Int.reduceEq, Int.reduceNe, ne_eq, bne_self_eq_false, beq_self_eq_true, hjt']
        rw [ix_72 hjt]
        simp only [stp, Nat.reduceAdd, Int.reduceLT, Int.reduceLE, Int.reduceEq, Int.reduceNe, ne_eq, bne_self_eq_false, beq_self_eq_true, stm, q0, q1, q2]
        have k9 := (K0.refl w8).alloc (.cells #[.int .i64 W[j].1.1, .int .i64 W[j].1.2, .int .i64 W[j].2] 75)
        have e9 : blk (w8.alloc (.cells #[.int .i64 W[j].1.1, .int .i64 W[j].1.2, .int .i64 W[j].2] 75)) (siz w8) = some (.cells #[.int .i64 W[j].1.1, .int .i64 W[j].1.2, .int .i64 W[j].2] 75) := blk_alloc_new
        generalize w8.alloc (.cells #[.int .i64 W[j].1.1, .int .i64 W[j].1.2, .int .i64 W[j].2] 75) = w9 at k9 e9
        have h9 := h8.keep0 k9
        have g9 := g8.keep0 k9
        have b9 := k9.blk b8 id
        have c9 : cel w9 c 5 = some (.pointer (some ⟨mo, 0, none⟩)) := by rw [h9.cel]; rfl
        have z0 : cel w9 (siz w8) 0 = some (.int .i64 W[j].1.1) := by rw [cel_b e9]; rfl
        have z1 : cel w9 (siz w8) 1 = some (.int .i64 W[j].1.2) := by rw [cel_b e9]; rfl
        have z2 : cel w9 (siz w8) 2 = some (.int .i64 W[j].2) := by rw [cel_b e9]; rfl
        have y2 : cel w9 (siz w) 2 = some (.int .i64 md) := by rw [cel_b b9]; rfl
        simp only [stp, Nat.reduceAdd, Int.reduceLT, Int.reduceLE, Int.reduceEq, Int.reduceNe, ne_eq, bne_self_eq_false, beq_self_eq_true, stm, c9, z0, z1, z2, y2]
        have kd9 : K0 w9 w9.drew := (K0.refl w9).drew
        have h9d := h9.keep0 kd9
        refine set_any h9d.o (by have := h9d.lenO; omega) fun w10 l10 _ m10 hv10 _ k10 => ?_
        have hv10' : ∀ x, valB l10 x = overB (mF md) (valB l7) (valB (W.take (j + 1))) x := fun x => by
          rw [hv10, over_take hWc.apart hjt, hv8]; rfl
        have hd10 : Bd 4096 l10 := bd_of_val m10.canon fun x hx => by rw [hv10']; exact over_bd (fun y hy => val_of_bd hd7 hy) hdW _ hx
        try simp only [stp, Nat.reduceAdd, Int.reduceLT, Int.reduceLE, Int.reduceEq, Int.reduceNe, ne_eq, bne_self_eq_false, beq_self_eq_true]
        exact hJ2 _ ⟨l10, h9d.turnO k10 m10 hd10, (g9.keep0 kd9).keepM h9d.o n3 k10, hv10', k8.trans ((KO.of0 (k9.trans kd9)).trans (h9d.koO k10))⟩
      · rintro w8 ⟨lo8, h8, g8, hv8, k8⟩ J2 _j
        have hn : ¬ ((W.length : Int) < (W.length : Int)) := by omega
        simp only [stp, Nat.reduceAdd, Int.reduceLT, Int.reduceLE, Int.reduceEq, Int.reduceNe, ne_eq, bne_self_eq_false, beq_self_eq_true, hn]
        refine hJ1 _ ⟨lo8, lg5, h8, g8, hd5, fun x => ?_, fun x => ?_, kk7.trans k8⟩
        · rw [hv8, hT, List.take_length]
          by_cases hx : hasB P[i].1 x
          · rw [if_pos hx]
            cases hO : valB lo x with
            | none =>
              have e1 : valB W x = none := by rw [hWv, if_pos hx, hO]
              rw [over_none e1, hv7', if_pos hx]
              rw [← hv3, hO]
              unfold oF; rw [if_pos hlt4]
            | some o =>
              have e1 : valB W x = some o := by rw [hWv, if_pos hx, hO]
              rw [over_some e1, ← hv3, hO]
              unfold oF mF; rw [if_pos hlt4]
          · rw [if_neg hx]
            have e1 : valB W x = none := by rw [hWv, if_neg hx]
            rw [over_none e1, hv7', if_neg hx, hv3]
        · rw [hT, hv5]
          by_cases hx : hasB P[i].1 x
          · have hx' : hasB (P[i].1.1, P[i].1.2) x := hx
            rw [if_pos hx', if_pos hx]
            unfold gF; rw [if_pos hlt4]
          · have hx' : ¬ hasB (P[i].1.1, P[i].1.2) x := hx
            rw [if_neg hx', if_neg hx, hw3]
    · rintro w4 ⟨lo4, lg4, h4, g4, hd4, hv4, hw4, k4⟩ _
      try simp only [stp, Nat.reduceAdd, Int.reduceLT, Int.reduceLE, Int.reduceEq, Int.reduceNe, ne_eq, bne_self_eq_false, beq_self_eq_true]
      exact hJ _ ⟨lo4, lg4, h4, g4, hd4, hv4, hw4, k4⟩
  · rintro w3 ⟨lo, lg3, h3, g3, hd3, hv3, hw3, k3⟩ J _j
    have hn : ¬ ((P.length : Int) < (P.length : Int)) := by omega
    rw [List.take_length] at hv3 hw3
    simp only [stp, Nat.reduceAdd, Int.reduceLT, Int.reduceLE, Int.reduceEq, Int.reduceNe, ne_eq, bne_self_eq_false, beq_self_eq_true, hn]
    exact hq _ lo lg3 hv3 hw3 hd3 g3 h3 ((KO.of0 k02).trans k3)
end
end Go.Proofs.Ytknklmemadediaa
