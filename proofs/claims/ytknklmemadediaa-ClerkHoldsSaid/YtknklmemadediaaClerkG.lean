/- A node's side of the locks: taking a message. Conditions: as each says. -/
import Derived.Test.YtknklmemadediaaClerkF
set_option linter.unusedSimpArgs false
set_option linter.unusedVariables false
namespace Go.Proofs.Ytknklmemadediaa
open Go.Sh Go.Proofs.Ytknklmemadediaa.Mi
set_option maxRecDepth 100000
section
variable {w w' : World} {Q : Value → World → Prop} {B c : Nat} {s : CS} {mh mu mo : Nat} {wv : Value}
theorem creport_c {kind mi node gen stamp epoch err : Int} {lv : Value} (h : CL w B c s) (hB : B ≤ siz w) (hid : s.id ≤ 1000000) (hl1 : Go.Sh.one lv = true)
    (hq : ∀ w' v s', s'.epoch = s.epoch → s'.gen = gen → s'.lh = s.lh → s'.lu = s.lu → s'.id ≤ s.id + 1 → s'.grants = 0 → s'.av = s.av → s'.lo = [] → CL w' B c s' → KO B cp w w' → Q v w') :
    callS Try.prog 38 #[.pointer (some ⟨c, 0, none⟩), .agg (msgC kind mi node gen stamp epoch err lv)] Q w := by
  refine ref38 ?_
  unfold S38
  obtain ⟨mh, mu, mo, wv, h⟩ := h
  unfold msgC
  simp only [act_box, agg_cells]
  generalize hw1 : w.alloc (.cells #[.int .i64 kind, .int .i64 mi, .int .i64 node, .int .i64 gen, .int .i64 stamp, .int .u64 epoch, .int .i64 err, lv] 39) = w1
  have b1 : blk w1 (siz w) = some (.cells #[.int .i64 kind, .int .i64 mi, .int .i64 node, .int .i64 gen, .int .i64 stamp, .int .u64 epoch, .int .i64 err, lv] 39) := by rw [← hw1]; exact blk_alloc_new
  have k1 : K0 w w1 := by rw [← hw1]; exact (K0.refl w).alloc _
  have s1 := k1.size
  have k1d : K0 w w1.drew := k1.drew
  have b1d := blk_drew' b1
  refine jn0 (fun w' => ∃ mo', CLr w' B c { s with gen := gen, grants := 0, out := false, lo := [] } mh mu mo' wv ∧ KO B cp w w') (fun J hJ => ?_) ?_
  · have hfin : ∀ {wa : World} {mo' : Nat}, B ≤ mo' → IM wa mo' [] → mh ≠ mo' → mu ≠ mo' → K0 w wa → ∃ mo'', CLr (sto (sto (sto (sto wa c 2 (.int .i64 gen)) c 10 (.int .i64 0)) c 8 (.bool false)) c 5 (.pointer (some ⟨mo', 0, none⟩))) B c { s with gen := gen, grants := 0, out := false, lo := [] } mh mu mo'' wv ∧ KO B cp w (sto (sto (sto (sto wa c 2 (.int .i64 gen)) c 10 (.int .i64 0)) c 8 (.bool false)) c 5 (.pointer (some ⟨mo', 0, none⟩))) := fun {wa mo'} hBo ha na nb k => by
      have hh := h.keep0 k
      have hb := blk_sto (o := 5) (v := .pointer (some ⟨mo', 0, none⟩)) (blk_sto (o := 8) (v := .bool false) (blk_sto (o := 10) (v := .int .i64 0) (blk_sto (o := 2) (v := .int .i64 gen) hh.b)))
      have kk : Keep (fun b => b = c) wa (sto (sto (sto (sto wa c 2 (.int .i64 gen)) c 10 (.int .i64 0)) c 8 (.bool false)) c 5 (.pointer (some ⟨mo', 0, none⟩))) := ((((Keep.refl (fun b => b = c) wa).sto (.inl rfl) _ _).sto (.inl rfl) _ _).sto (.inl rfl) _ _).sto (.inl rfl) _ _
      refine ⟨mo', ?_, (KO.of0 k).trans (hh.koC kk)⟩
      exact { b := hb, h := im_keepT hh.h hh.b (by decide) (by decide) kk, u := im_keepT hh.u hh.b (by decide) (by decide) kk, o := im_keepT ha hh.b (by decide) (by decide) kk, nhu := h.nhu, nho := na, nuo := nb, Bc := h.Bc, Bh := h.Bh, Bu := h.Bu, Bo := hBo, wr := hh.wrC kk, w1 := h.w1, cw := h.cw, mw := h.mw, dh := h.dh, du := h.du, do_ := Bd.nil _, dw := h.dw }
    have hstep : ∀ {wa : World} {mo' : Nat} {k : World → Prop}, K0 w wa → k (sto (sto (sto (sto wa c 2 (.int .i64 gen)) c 10 (.int .i64 0)) c 8 (.bool false)) c 5 (.pointer (some ⟨mo', 0, none⟩))) →
        act Try.prog (thenU (Instr.storeAt 3 (.pointer (some ⟨c, 2, none⟩)) (.int .i64 gen))) (fun _ w_3 => act Try.prog (thenU (Instr.storeAt 3 (.pointer (some ⟨c, 10, none⟩)) (.int .i64 0))) (fun _ w_4 => act Try.prog (thenU (Instr.storeAt 4 (.pointer (some ⟨c, 8, none⟩)) (.bool false))) (fun _ w_5 => act Try.prog (thenU (Instr.storeAt 63 (.pointer (some ⟨c, 5, none⟩)) (.pointer (some ⟨mo', 0, none⟩)))) (fun _ w_6 => k w_6) w_5) w_4) w_3) wa := fun {wa mo' k} k0 hk => by
      have hh := h.keep0 k0
      have i2 : (cel wa c 2).isSome = true := by rw [hh.cel]; rfl
      have b1 := blk_sto (o := 2) (v := .int .i64 gen) hh.b
      have b2 := blk_sto (o := 10) (v := .int .i64 0) b1
      have b3 := blk_sto (o := 8) (v := .bool false) b2
      rw [st_3 one_int i2 (fre_b hh.b), st_3 one_int (by rw [cel_b b1]; rfl) (fre_b b1), st_4 one_bool (by rw [cel_b b2]; rfl) (fre_b b2), st_63 one_ptr (by rw [cel_b b3]; rfl) (fre_b b3)]
      exact hk
    have lh := h.h.lt
    have lu := h.u.lt
    obtain ⟨x0, x1, x2, x3, x4, x5, x6, x7⟩ := msg_cells b1
    have sd : siz w1.drew = siz w1 := rfl
    simp only [stp, Nat.reduceAdd, Int.reduceLT, Int.reduceLE, Int.reduceEq, Int.reduceNe, ne_eq, bne_self_eq_false, beq_self_eq_true, stm, x3]
    refine ⟨?_, ?_⟩
    · refine new_c fun w2 m2 k2 => ?_
      refine hstep (k1d.trans k2) (hJ _ (hfin (by omega) m2 (by omega) (by omega) (k1d.trans k2)))
    · refine new_c fun w2 m2 k2 => ?_
      obtain ⟨x0, x1, x2, x3, x4, x5, x6, x7⟩ := msg_cells (k2.blk b1d id)
      simp only [stp, Nat.reduceAdd, Int.reduceLT, Int.reduceLE, Int.reduceEq, Int.reduceNe, ne_eq, bne_self_eq_false, beq_self_eq_true, stm, x3]
      refine hstep (k1d.trans k2) (hJ _ (hfin (by omega) m2 (by omega) (by omega) (k1d.trans k2)))
  · rintro w3 ⟨mo', h3, k3⟩ _
    refine cheld_c ⟨mh, mu, mo', wv, h3⟩ fun w4 v4 o4 k4 => ?_
    have h4 := h3.keep0 k4
    obtain ⟨pa, ca, rfl⟩ := o4.form
    simp only [stp, Nat.reduceAdd, Int.reduceLT, Int.reduceLE, Int.reduceEq, Int.reduceNe, ne_eq, bne_self_eq_false, beq_self_eq_true, stm]
    refine message_c ⟨mh, mu, mo', wv, h4⟩ one_slice fun w5 k5 => ?_
    have h5 := h4.keep0 k5
    have s5 := k5.size
    have s4 := k4.size
    have s3 := k3.size
    unfold msgC
    simp only [stp, Nat.reduceAdd, Int.reduceLT, Int.reduceLE, Int.reduceEq, Int.reduceNe, ne_eq, bne_self_eq_false, beq_self_eq_true, stm]
    have o6 : Own (w5.alloc (.cells #[.int .i64 11, .int .i64 0, .int .i64 0, .int .i64 gen, .int .i64 0, .int .u64 s.epoch, .int .i64 0, .slice pa (asLocks s.lh).length ca] 39)) B 39 8 (.slice (some ⟨siz w5, 0, none⟩) 1 1) 1 [.int .i64 11, .int .i64 0, .int .i64 0, .int .i64 gen, .int .i64 0, .int .u64 s.epoch, .int .i64 0, .slice pa (asLocks s.lh).length ca] :=
      ⟨rfl, .inr ⟨siz w5, 1, #[.int .i64 11, .int .i64 0, .int .i64 0, .int .i64 gen, .int .i64 0, .int .u64 s.epoch, .int .i64 0, .slice pa (asLocks s.lh).length ca], rfl, by omega, blk_alloc_new, Nat.le_refl _, by decide, rfl, rfl⟩⟩
    have k6 := (K0.refl w5).alloc (.cells #[.int .i64 11, .int .i64 0, .int .i64 0, .int .i64 gen, .int .i64 0, .int .u64 s.epoch, .int .i64 0, .slice pa (asLocks s.lh).length ca] 39)
    have s6 : siz (w5.alloc (.cells #[.int .i64 11, .int .i64 0, .int .i64 0, .int .i64 gen, .int .i64 0, .int .u64 s.epoch, .int .i64 0, .slice pa (asLocks s.lh).length ca] 39)) = siz w5 + 1 := siz_alloc
    have hg5 : siz w ≤ siz w5 := by omega
    generalize siz w5 = g5 at o6 s6 hg5 ⊢
    have h6 := h5.keep0 k6
    have ko6 : KO B cp w (w5.alloc (.cells #[.int .i64 11, .int .i64 0, .int .i64 0, .int .i64 gen, .int .i64 0, .int .u64 s.epoch, .int .i64 0, .slice pa (asLocks s.lh).length ca] 39)) := k3.trans (KO.of0 ((k4.trans k5).trans k6))
    generalize w5.alloc (.cells #[.int .i64 11, .int .i64 0, .int .i64 0, .int .i64 gen, .int .i64 0, .int .u64 s.epoch, .int .i64 0, .slice pa (asLocks s.lh).length ca] 39) = w6 at o6 h6 ko6 s6
    refine cask_c ⟨mh, mu, mo', wv, h6⟩ (by have := ko6.size; omega) hid (fun hor w7 h7 k7 => ?_) (fun hout w7 v7 lv7 l7 hc7 hv7 hm7 hl7 m7 t7 h7 k7 => ?_)
    · have o7 := k7.own o6 fun cs => rfl
      rw [act_append0 (fun w => Try.runUnderlying33 w) (fun w => Try.sizeOf39 w) o7]
      exact hq _ _ { s with gen := gen, grants := 0, out := false, lo := [] } rfl rfl rfl rfl (Nat.le_succ _) rfl rfl rfl h7 (ko6.trans k7)
    · have o7 := k7.own o6 fun cs => rfl
      obtain ⟨g, rfl, hbg⟩ := m7
      refine act_append (t := 33) (ty := 33) (e := 39) (size := 8) (bytes := 80) (base := B) (m := 1) (by rfl) (by rfl) rfl rfl rfl rfl (by decide) o7 (news := [.int .i64 5, .int .i64 ((s.id + 1 : Nat) : Int), .int .i64 0, .int .i64 gen, .int .i64 0, .int .u64 s.epoch, .int .i64 0, lv7]) rfl (fun j hj => ?_) ?_ (by decide) (by decide) (by have := ko6.size; have := k7.size; omega) fun v' w' ho hgr hr => ?_
      · rw [Nat.zero_add, cel_b hbg]
        unfold msgC
        rw [List.getElem?_toArray]
      · intro u hu
        obtain ⟨_, _, rfl⟩ := t7.1.form
        simp only [List.mem_cons, List.not_mem_nil, or_false] at hu
        rcases hu with rfl | rfl | rfl | rfl | rfl | rfl | rfl | rfl <;> first | exact one_int | exact one_slice
      · have kg := grown_keep hgr
        obtain ⟨mh7, mu7, mo7, wv7, h7⟩ := h7
        have hcell : ∃ cs, blk w7 g5 = some (.cells cs 39) := by
          rcases o7.2 with ⟨e, _⟩ | ⟨g', cap, cur, e, _, hh, _⟩
          · cases e
          · injection e with e _ _
            injection e with e
            injection e with e _ _
            subst e
            exact ⟨cur, hh⟩
        obtain ⟨cs, hcell⟩ := hcell
        have kg' : Keep (fun b => b = g5) w7 w' := kg.mono fun b _ e => by injection e with e; exact e.symm
        have h8 : CLr w' B c { s with gen := gen, grants := 0, id := s.id + 1, out := true, quit := false, lo := [] } mh7 mu7 mo7 wv7 :=
          { h7 with b := kg'.blk h7.b (ne_of_ty h7.b hcell (by decide)), h := im_keepT h7.h hcell (by decide) (by decide) kg', u := im_keepT h7.u hcell (by decide) (by decide) kg', o := im_keepT h7.o hcell (by decide) (by decide) kg', wr := h7.wr.keep kg' fun g cs' hg e => ne_of_ty hg hcell (by decide) e }
        refine hq _ _ { s with gen := gen, grants := 0, id := s.id + 1, out := true, quit := false, lo := [] } rfl rfl rfl rfl (Nat.le_refl _) rfl rfl rfl ⟨mh7, mu7, mo7, wv7, h8⟩ ?_
        refine (ko6.trans k7).trans' kg' fun b hb e => by omega
/-- The message of a server is heard: what its own function computes. -/
theorem ctake_c {kind mi node gen stamp err : Int} {lv : Value} {g : FuncId} (h : CL w B c s) (hB : B ≤ siz w) (he : s.epoch ≠ 0) (hg : s.gen ≤ gen) (hl1 : Go.Sh.one lv = true)
    (hk : (kind = 6 ∧ g = 35) ∨ (kind = 7 ∧ g = 36 ∧ s.out = true ∧ mi = s.id) ∨ (kind = 8 ∧ g = 37) ∨ (kind = 10 ∧ g = 38))
    (hc : ∀ w1, K0 w w1 → callS Try.prog g #[.pointer (some ⟨c, 0, none⟩), .agg (msgC kind mi node gen stamp s.epoch err lv)] (fun v w' => Q (.tuple #[v, .bool true]) w') w1) :
    callS Try.prog 15 #[.pointer (some ⟨c, 0, none⟩), .agg (msgC kind mi node gen stamp s.epoch err lv)] Q w := by
  refine ref15 ?_
  unfold S15
  have hcu : ∀ w1, K0 w w1 → callS Try.prog g #[.pointer (some ⟨c, 0, none⟩), .agg #[.int .i64 kind, .int .i64 mi, .int .i64 node, .int .i64 gen, .int .i64 stamp, .int .u64 s.epoch, .int .i64 err, lv]] (fun v w' => Q (.tuple #[v, .bool true]) w') w1 := hc
  unfold msgC
  simp only [act_box, agg_cells]
  generalize hw1 : w.alloc (.cells #[.int .i64 kind, .int .i64 mi, .int .i64 node, .int .i64 gen, .int .i64 stamp, .int .u64 s.epoch, .int .i64 err, lv] 39) = w1
  have b1 : blk w1 (siz w) = some (.cells #[.int .i64 kind, .int .i64 mi, .int .i64 node, .int .i64 gen, .int .i64 stamp, .int .u64 s.epoch, .int .i64 err, lv] 39) := by rw [← hw1]; exact blk_alloc_new
  have k1 : K0 w w1 := by rw [← hw1]; exact (K0.refl w).alloc _
  have k1d : K0 w w1.drew := k1.drew
  have h1d := h.keep0 k1d
  refine cnone_c h1d ?_
  obtain ⟨x0, x1, x2, x3, x4, x5, x6, x7⟩ := msg_cells b1
  obtain ⟨mh, mu, mo, wv, hr⟩ := h.keep0 k1
  have c1 : cel w1 c 1 = some (.int .u64 s.epoch) := by rw [hr.cel]; rfl
  have c2 : cel w1 c 2 = some (.int .i64 s.gen) := by rw [hr.cel]; rfl
  have c7 : cel w1 c 7 = some (.int .i64 (s.id : Int)) := by rw [hr.cel]; rfl
  have c8 : cel w1 c 8 = some (.bool s.out) := by rw [hr.cel]; rfl
  have hng : ¬ gen < s.gen := by omega
  rcases hk with ⟨rfl, rfl⟩ | ⟨rfl, rfl, ho, hi⟩ | ⟨rfl, rfl⟩ | ⟨rfl, rfl⟩
  · simp only [stp, Nat.reduceAdd, Int.reduceLT, Int.reduceLE, Int.reduceEq, Int.reduceNe, ne_eq, bne_self_eq_false, beq_self_eq_true, stm, c1, c2, he, x0, x1, x2, x3, x4, x5, x6, x7, hng]
    exact hcu _ k1d
  · rw [ho] at c8
    simp only [stp, Nat.reduceAdd, Int.reduceLT, Int.reduceLE, Int.reduceEq, Int.reduceNe, ne_eq, bne_self_eq_false, beq_self_eq_true, stm, c1, c2, he, x0, x1, x2, x3, x4, x5, x6, x7, hng, c7, c8, hi]
    rw [← hi]
    exact hcu _ k1d.drew
  · simp only [stp, Nat.reduceAdd, Int.reduceLT, Int.reduceLE, Int.reduceEq, Int.reduceNe, ne_eq, bne_self_eq_false, beq_self_eq_true, stm, c1, c2, he, x0, x1, x2, x3, x4, x5, x6, x7, hng]
    exact hcu _ k1d
  · simp only [stp, Nat.reduceAdd, Int.reduceLT, Int.reduceLE, Int.reduceEq, Int.reduceNe, ne_eq, bne_self_eq_false, beq_self_eq_true, stm, c1, c2, he, x0, x1, x2, x3, x4, x5, x6, x7, hng]
    exact hcu _ k1d
theorem ctake_e {kind mi node gen stamp epoch err : Int} {lv : Value} {g : FuncId} (h : CL w B c s) (hep : epoch = s.epoch) (hB : B ≤ siz w) (he : s.epoch ≠ 0) (hg : s.gen ≤ gen) (hl1 : Go.Sh.one lv = true)
    (hk : (kind = 6 ∧ g = 35) ∨ (kind = 7 ∧ g = 36 ∧ s.out = true ∧ mi = s.id) ∨ (kind = 8 ∧ g = 37) ∨ (kind = 10 ∧ g = 38))
    (hc : ∀ w1, K0 w w1 → callS Try.prog g #[.pointer (some ⟨c, 0, none⟩), .agg (msgC kind mi node gen stamp epoch err lv)] (fun v w' => Q (.tuple #[v, .bool true]) w') w1) :
    callS Try.prog 15 #[.pointer (some ⟨c, 0, none⟩), .agg #[.int .i64 kind, .int .i64 mi, .int .i64 node, .int .i64 gen, .int .i64 stamp, .int .u64 epoch, .int .i64 err, lv]] Q w := by
  subst hep
  exact ctake_c h hB he hg hl1 hk hc
/-- A message that is not heard. -/
theorem ctake_no {kind mi node gen stamp err : Int} {lv : Value} (h : CL w B c s) (he : s.epoch ≠ 0) (hg : s.gen ≤ gen) (hl1 : Go.Sh.one lv = true)
    (hk : kind ≠ 6 ∧ kind ≠ 8 ∧ kind ≠ 10 ∧ (kind = 7 → s.out = false ∨ mi ≠ s.id)) (hq : ∀ w', K0 w w' → Q (.tuple #[.slice none 0 0, .bool false]) w') :
    callS Try.prog 15 #[.pointer (some ⟨c, 0, none⟩), .agg (msgC kind mi node gen stamp s.epoch err lv)] Q w := by
  refine ref15 ?_
  unfold S15
  unfold msgC
  simp only [act_box, agg_cells]
  generalize hw1 : w.alloc (.cells #[.int .i64 kind, .int .i64 mi, .int .i64 node, .int .i64 gen, .int .i64 stamp, .int .u64 s.epoch, .int .i64 err, lv] 39) = w1
  have b1 : blk w1 (siz w) = some (.cells #[.int .i64 kind, .int .i64 mi, .int .i64 node, .int .i64 gen, .int .i64 stamp, .int .u64 s.epoch, .int .i64 err, lv] 39) := by rw [← hw1]; exact blk_alloc_new
  have k1 : K0 w w1 := by rw [← hw1]; exact (K0.refl w).alloc _
  have k1d : K0 w w1.drew := k1.drew
  have h1d := h.keep0 k1d
  refine cnone_c h1d ?_
  obtain ⟨x0, x1, x2, x3, x4, x5, x6, x7⟩ := msg_cells b1
  obtain ⟨mh, mu, mo, wv, hr⟩ := h.keep0 k1
  have c1 : cel w1 c 1 = some (.int .u64 s.epoch) := by rw [hr.cel]; rfl
  have c2 : cel w1 c 2 = some (.int .i64 s.gen) := by rw [hr.cel]; rfl
  have c7 : cel w1 c 7 = some (.int .i64 (s.id : Int)) := by rw [hr.cel]; rfl
  have c8 : cel w1 c 8 = some (.bool s.out) := by rw [hr.cel]; rfl
  have hng : ¬ gen < s.gen := by omega
  obtain ⟨n6, n8, n10, h7⟩ := hk
  by_cases h7' : kind = 7
  · subst h7'
    cases ho : s.out with
    | false =>
      rw [ho] at c8
      simp only [stp, Nat.reduceAdd, Int.reduceLT, Int.reduceLE, Int.reduceEq, Int.reduceNe, ne_eq, bne_self_eq_false, beq_self_eq_true, stm, c1, c2, he, x0, x1, x2, x3, x4, x5, x6, x7, hng, c7, c8]
      exact hq _ k1d.drew
    | true =>
      rw [ho] at c8
      have hi : ¬ mi = (s.id : Int) := (h7 rfl).resolve_left (by rw [ho]; simp)
      simp only [stp, Nat.reduceAdd, Int.reduceLT, Int.reduceLE, Int.reduceEq, Int.reduceNe, ne_eq, bne_self_eq_false, beq_self_eq_true, stm, c1, c2, he, x0, x1, x2, x3, x4, x5, x6, x7, hng, c7, c8, hi]
      exact hq _ k1d.drew
  · simp only [stp, Nat.reduceAdd, Int.reduceLT, Int.reduceLE, Int.reduceEq, Int.reduceNe, ne_eq, bne_self_eq_false, beq_self_eq_true, stm, c1, c2, he, x0, x1, x2, x3, x4, x5, x6, x7, hng, n6, n8, n10, h7']
    exact hq _ k1d
theorem ctake_nil {kind mi node gen stamp err epoch : Int} {lv : Value} (hq : ∀ w', K0 w w' → Q (.tuple #[.slice none 0 0, .bool false]) w') :
    callS Try.prog 15 #[.pointer none, .agg (msgC kind mi node gen stamp epoch err lv)] Q w := by
  refine ref15 ?_
  unfold S15
  unfold msgC
  simp only [act_box, agg_cells]
  refine cnone_nil ?_
  simp only [stp, Nat.reduceAdd, Int.reduceLT, Int.reduceLE, Int.reduceEq, Int.reduceNe, ne_eq, bne_self_eq_false, beq_self_eq_true, stm]
  exact hq _ ((K0.refl w).alloc _).drew
end
end Go.Proofs.Ytknklmemadediaa
