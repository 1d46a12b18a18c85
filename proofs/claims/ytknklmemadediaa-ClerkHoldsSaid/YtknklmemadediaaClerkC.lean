/- A node's side of the locks: wanting, holding, using, granting. Conditions: as each says. -/
import Derived.Test.YtknklmemadediaaClerkB
set_option linter.unusedSimpArgs false
set_option linter.unusedVariables false
namespace Go.Proofs.Ytknklmemadediaa
open Go.Sh Go.Proofs.Ytknklmemadediaa.Mi
set_option maxRecDepth 100000
section
variable {w w' : World} {Q : Value → World → Prop} {B c : Nat} {s : CS} {mh mu mo : Nat} {wv : Value}
/-- The list of wants is another one. -/
theorem CLr.wants {v : Value} {N : List (Pt Int)} (h : CLr w B c s mh mu mo wv) (hr : TRd w B 25 3 v (asLocks N).length (flat enc3 (asLocks N))) (hn : ∀ u, s.av = some u → v.ownBlock ≠ some u) (h1 : Go.Sh.one v = true) (hc : Canon N) (hm : okM N) (hd : Bd 4096 N) : CLr (sto w c 6 v) B c { s with lw := N } mh mu mo v := by
  have k : Keep (fun b => b = c) w (sto w c 6 v) := (Keep.refl (fun b => b = c) w).sto (.inl rfl) _ _
  exact h.set k (by rw [blk_sto h.b]; rfl) rfl rfl rfl ⟨hr.keep k fun g cs hg e => ne_of_ty hg h.b (by decide) e, fun u hu => ⟨Nat.lt_of_lt_of_le (h.wr.2 u hu).1 k.size, hn u hu⟩⟩ h1 hc hm hd
theorem cwant_c {v : Value} {L : List I3} (h : CL w B c s) (hB : B ≤ siz w) (hid : s.id ≤ 1000000) (he : s.epoch ≠ 0) (hL : Rd 3 w v L.length (flat enc3 L)) (hlen : L.length ≤ 5000) (hd : ∀ k ∈ L, k.2.1 ≤ 4096)
    (hq0 : ∀ w' N, Canon N → okM N → (∀ x, valB N x = askF L x) → (∀ x, needF (askF L x) (valB s.lh x) = none) → CL w' B c { s with lw := N } → KO B cp w w' → Q (.tuple #[.slice none 0 0, .bool true]) w')
    (hq1 : ∀ w' N, Canon N → okM N → (∀ x, valB N x = askF L x) → (¬ ∀ x, needF (askF L x) (valB s.lh x) = none) → s.out = true → CL w' B c { s with lw := N } → KO B cp w w' → Q (.tuple #[.slice none 0 0, .bool false]) w')
    (hq2 : ∀ w' N v lv l', Canon N → okM N → (∀ x, valB N x = askF L x) → s.out = false → Canon l' → (∀ x, valB l' x = needF (askF L x) (valB s.lh x)) → okM l' → (hl : 0 < l'.length) → OneMsg w' v 5 ((s.id + 1 : Nat) : Int) 0 s.gen 0 s.epoch 0 lv → TRd w' B 25 3 lv 1 (enc3 (l'[0].1.1, l'[0].1.2, l'[0].2)) → CL w' B c { s with lw := N, id := s.id + 1, out := true, quit := false } → KO B cp w w' → Q (.tuple #[v, .bool false]) w') :
    callS Try.prog 13 #[.pointer (some ⟨c, 0, none⟩), v] Q w := by
  refine ref13 ?_
  unfold S13
  refine cnone_c h ?_
  obtain ⟨mh, mu, mo, wv, h⟩ := h
  have c1 : cel w c 1 = some (.int .u64 s.epoch) := by rw [h.cel]; rfl
  simp only [stp, Nat.reduceAdd, Int.reduceLT, Int.reduceLE, Int.reduceEq, Int.reduceNe, ne_eq, bne_self_eq_false, beq_self_eq_true, stm, c1, he]
  refine mnorm_c hL (by omega) fun w1 v1 N hcN hvN hlN o1 k1 => ?_
  have k1 := k1.old'
  have h1 := h.keep0 k1
  have s1 := k1.size
  have hmN := okM_of hcN hvN
  have hdN : Bd 4096 N := bd_of_val hcN fun x hx => by rw [hvN]; exact askF_bd hd hx
  obtain ⟨pa, ca, rfl⟩ := o1.form
  have i6 : (cel w1 c 6).isSome = true := by rw [h1.cel]; rfl
  try simp only [stp, Nat.reduceAdd, Int.reduceLT, Int.reduceLE, Int.reduceEq, Int.reduceNe, ne_eq, bne_self_eq_false, beq_self_eq_true]
  rw [st_27 one_slice i6 (fre_b h1.b)]
  have h2 := h1.wants (o1.trd hB) (fun u hu e => by have := (o1.lt e).1; have := (h.wr.2 u hu).1; omega) one_slice hcN hmN hdN
  have k2 : Keep (fun b => b = c) w1 (sto w1 c 6 (.slice pa (asLocks N).length ca)) := (Keep.refl (fun b => b = c) w1).sto (.inl rfl) _ _
  have ko2 : KO B cp w (sto w1 c 6 (.slice pa (asLocks N).length ca)) := (KO.of0 k1).trans (h1.koC k2)
  have s2 := k2.size
  generalize sto w1 c 6 (.slice pa (asLocks N).length ca) = w2 at h2 k2 ko2 s2
  have hne : ∀ x, ({ s with lw := N } : CS).need x = needF (askF L x) (valB s.lh x) := fun x => by unfold CS.need; rw [hvN]
  refine cneeds_c ⟨mh, mu, mo, _, h2⟩ fun w3 v3 l3 hc3 hv3 hl3 hm3 o3 k3 => ?_
  have h3 := h2.keep0 k3
  have s3 := k3.size
  obtain ⟨pb, cb, rfl⟩ := o3.form
  by_cases hl0 : l3 = []
  · have e : ((asLocks l3).length : Int) = 0 := by rw [hl0]; rfl
    simp only [stp, Nat.reduceAdd, Int.reduceLT, Int.reduceLE, Int.reduceEq, Int.reduceNe, ne_eq, bne_self_eq_false, beq_self_eq_true, stm, e]
    exact hq0 _ N hcN hmN hvN (fun x => by rw [← hne, ← hv3, hl0]; rfl) ⟨mh, mu, mo, _, h3⟩ (ko2.trans (KO.of0 k3))
  have hlp : 0 < l3.length := List.length_pos_iff.2 hl0
  have e : ¬ ((asLocks l3).length : Int) = 0 := by rw [asLocks_len]; omega
  have hno : ¬ ∀ x, needF (askF L x) (valB s.lh x) = none := fun hall => hl0 (canon_unique _ _ hc3 Canon.nil fun x => by rw [hv3, hne, hall]; rfl)
  simp only [stp, Nat.reduceAdd, Int.reduceLT, Int.reduceLE, Int.reduceEq, Int.reduceNe, ne_eq, bne_self_eq_false, beq_self_eq_true, stm, e]
  refine cask_c ⟨mh, mu, mo, _, h3⟩ (by omega) hid (fun hor w4 h4 k4 => ?_) (fun hout w4 v4 lv l4 hc4 hv4 hm4 hl4 m4 t4 h4 k4 => ?_)
  · try simp only [stp, Nat.reduceAdd, Int.reduceLT, Int.reduceLE, Int.reduceEq, Int.reduceNe, ne_eq, bne_self_eq_false, beq_self_eq_true]
    rcases hor with ho | ho
    · exact hq1 _ N hcN hmN hvN hno ho h4 ((ko2.trans (KO.of0 k3)).trans k4)
    · exact absurd (fun x => by rw [← hne]; exact ho x) hno
  · try simp only [stp, Nat.reduceAdd, Int.reduceLT, Int.reduceLE, Int.reduceEq, Int.reduceNe, ne_eq, bne_self_eq_false, beq_self_eq_true]
    exact hq2 _ N v4 lv l4 hcN hmN hvN hout hc4 (fun x => by rw [hv4, hne]) hm4 hl4 m4 t4 h4 ((ko2.trans (KO.of0 k3)).trans k4)
theorem cheld_c (h : CL w B c s) (hq : ∀ w' v', Own w' (siz w) 25 3 v' (asLocks s.lh).length (flat enc3 (asLocks s.lh)) → K0 w w' → Q v' w') :
    callS Try.prog 20 #[.pointer (some ⟨c, 0, none⟩)] Q w := by
  refine ref20 ?_
  unfold S20
  refine cnone_c h ?_
  obtain ⟨mh, mu, mo, wv, h⟩ := h
  have c3 : cel w c 3 = some (.pointer (some ⟨mh, 0, none⟩)) := by rw [h.cel]; rfl
  simp only [stp, Nat.reduceAdd, Int.reduceLT, Int.reduceLE, Int.reduceEq, Int.reduceNe, ne_eq, bne_self_eq_false, beq_self_eq_true, stm, c3]
  exact clocks_c h.h (by have := h.lenH; omega) hq
theorem chas_c {v : Value} {L : List I3} (h : CL w B c s) (hL : Rd 3 w v L.length (flat enc3 L)) (hlen : L.length ≤ 5000)
    (hq : ∀ w' r, (r = true ↔ ∀ x, needF (askF L x) (valB s.lh x) = none) → K0 w w' → Q (.bool r) w') :
    callS Try.prog 16 #[.pointer (some ⟨c, 0, none⟩), v] Q w := by
  refine ref16 ?_
  unfold S16
  refine cnone_c h ?_
  obtain ⟨mh, mu, mo, wv, h⟩ := h
  have c3 : cel w c 3 = some (.pointer (some ⟨mh, 0, none⟩)) := by rw [h.cel]; rfl
  simp only [stp, Nat.reduceAdd, Int.reduceLT, Int.reduceLE, Int.reduceEq, Int.reduceNe, ne_eq, bne_self_eq_false, beq_self_eq_true, stm, c3]
  refine mhas_c (.inr ⟨mh, rfl, h.h⟩) (by have := h.lenH; omega) hL hlen fun w1 r hr k1 => ?_
  try simp only [stp, Nat.reduceAdd, Int.reduceLT, Int.reduceLE, Int.reduceEq, Int.reduceNe, ne_eq, bne_self_eq_false, beq_self_eq_true]
  exact hq _ _ hr k1.old'
theorem cquit_c (h : CL w B c s)
    (hq0 : s.out = false ∨ s.quit = true → ∀ w', CL w' B c { s with lw := [] } → KO B cp w w' → Q (.slice none 0 0) w')
    (hq1 : s.out = true → s.quit = false → ∀ w' v, OneMsg w' v 15 (s.id : Int) 0 s.gen 0 s.epoch 0 (.slice none 0 0) → CL w' B c { s with lw := [], quit := true } → KO B cp w w' → Q v w') :
    callS Try.prog 14 #[.pointer (some ⟨c, 0, none⟩)] Q w := by
  refine ref14 ?_
  unfold S14
  refine cnone_c h ?_
  obtain ⟨mh, mu, mo, wv, h⟩ := h
  have i6 : (cel w c 6).isSome = true := by rw [h.cel]; rfl
  try simp only [stp, Nat.reduceAdd, Int.reduceLT, Int.reduceLE, Int.reduceEq, Int.reduceNe, ne_eq, bne_self_eq_false, beq_self_eq_true]
  rw [st_27 one_slice i6 (fre_b h.b)]
  have h2 := h.wants (v := .slice none 0 0) (N := []) (TRd.nil _ _ _ _) (fun u hu e => by cases e) one_slice Canon.nil (fun p hp => by cases hp) (Bd.nil _)
  have k2 : Keep (fun b => b = c) w (sto w c 6 (.slice none 0 0)) := (Keep.refl (fun b => b = c) w).sto (.inl rfl) _ _
  generalize sto w c 6 (.slice none 0 0) = w2 at h2 k2
  have c8 : cel w2 c 8 = some (.bool s.out) := by rw [h2.cel]; rfl
  have c9 : cel w2 c 9 = some (.bool s.quit) := by rw [h2.cel]; rfl
  have c7 : cel w2 c 7 = some (.int .i64 (s.id : Int)) := by rw [h2.cel]; rfl
  cases ho : s.out with
  | false =>
    rw [ho] at c8
    simp only [stp, Nat.reduceAdd, Int.reduceLT, Int.reduceLE, Int.reduceEq, Int.reduceNe, ne_eq, bne_self_eq_false, beq_self_eq_true, stm, c8]
    exact hq0 (.inl ho) _ ⟨mh, mu, mo, _, h2⟩ (h.koC k2)
  | true =>
    rw [ho] at c8
    cases hqt : s.quit with
    | true =>
      rw [hqt] at c9
      simp only [stp, Nat.reduceAdd, Int.reduceLT, Int.reduceLE, Int.reduceEq, Int.reduceNe, ne_eq, bne_self_eq_false, beq_self_eq_true, stm, c8, c9]
      exact hq0 (.inr hqt) _ ⟨mh, mu, mo, _, h2⟩ (h.koC k2)
    | false =>
      rw [hqt] at c9
      have i9 : (cel w2 c 9).isSome = true := by rw [c9]; rfl
      simp only [stp, Nat.reduceAdd, Int.reduceLT, Int.reduceLE, Int.reduceEq, Int.reduceNe, ne_eq, bne_self_eq_false, beq_self_eq_true, stm, c8, c9]
      rw [st_4 one_bool i9 (fre_b h2.b)]
      have h3 : CLr (sto w2 c 9 (.bool true)) B c { s with lw := [], quit := true } mh mu mo (.slice none 0 0) := h2.put (o := 9) (v := .bool true) rfl
      have k3 : Keep (fun b => b = c) w (sto w2 c 9 (.bool true)) := k2.sto (.inl rfl) _ _
      generalize sto w2 c 9 (.bool true) = w3 at h3 k3
      have c7' : cel w3 c 7 = some (.int .i64 (s.id : Int)) := by rw [h3.cel]; rfl
      simp only [stp, Nat.reduceAdd, Int.reduceLT, Int.reduceLE, Int.reduceEq, Int.reduceNe, ne_eq, bne_self_eq_false, beq_self_eq_true, stm, c7']
      refine message_c ⟨mh, mu, mo, _, h3⟩ one_slice fun w5 k5 => ?_
      unfold msgC
      simp only [stp, Nat.reduceAdd, Int.reduceLT, Int.reduceLE, Int.reduceEq, Int.reduceNe, ne_eq, bne_self_eq_false, beq_self_eq_true, stm]
      have k6 := (K0.refl w5).alloc (.cells #[.int .i64 15, .int .i64 (s.id : Int), .int .i64 0, .int .i64 s.gen, .int .i64 0, .int .u64 s.epoch, .int .i64 0, .slice none 0 0] 39)
      exact hq1 ho hqt _ _ ⟨siz w5, rfl, blk_alloc_new⟩ ⟨mh, mu, mo, _, (h3.keep0 k5).keep0 k6⟩ ((h.koC k3).trans (KO.of0 (k5.trans k6)))
theorem cdenied_c (h : CL w B c s) (hq : ∀ w', CL w' B c { s with denied := 0 } → KO B cp w w' → Q (.int .i64 s.denied) w') :
    callS Try.prog 17 #[.pointer (some ⟨c, 0, none⟩)] Q w := by
  refine ref17 ?_
  unfold S17
  obtain ⟨mh, mu, mo, wv, h⟩ := h
  have c11 : cel w c 11 = some (.int .i64 s.denied) := by rw [h.cel]; rfl
  have i11 : (cel w c 11).isSome = true := by rw [c11]; rfl
  simp only [stp, Nat.reduceAdd, Int.reduceLT, Int.reduceLE, Int.reduceEq, Int.reduceNe, ne_eq, bne_self_eq_false, beq_self_eq_true, stm, c11]
  rw [st_37 one_int i11 (fre_b h.b)]
  have k2 : Keep (fun b => b = c) w (sto w c 11 (.int .i64 0)) := (Keep.refl (fun b => b = c) w).sto (.inl rfl) _ _
  exact hq _ ⟨mh, mu, mo, wv, h.put (o := 11) (v := .int .i64 0) rfl⟩ (h.koC k2)
theorem cdenied_nil (hq : Q (.int .i64 0) w) : callS Try.prog 17 #[.pointer none] Q w := by
  refine ref17 ?_
  unfold S17
  simp only [stp, Nat.reduceAdd, Int.reduceLT, Int.reduceLE, Int.reduceEq, Int.reduceNe, ne_eq, bne_self_eq_false, beq_self_eq_true, stm]
  exact hq
theorem cepoch_c (h : CL w B c s) (hq : Q (.int .u64 s.epoch) w) : callS Try.prog 27 #[.pointer (some ⟨c, 0, none⟩)] Q w := by
  refine ref27 ?_
  unfold S27
  obtain ⟨mh, mu, mo, wv, h⟩ := h
  have c1 : cel w c 1 = some (.int .u64 s.epoch) := by rw [h.cel]; rfl
  simp only [stp, Nat.reduceAdd, Int.reduceLT, Int.reduceLE, Int.reduceEq, Int.reduceNe, ne_eq, bne_self_eq_false, beq_self_eq_true, stm, c1]
  exact hq
theorem cepoch_nil (hq : Q (.int .u64 0) w) : callS Try.prog 27 #[.pointer none] Q w := by
  refine ref27 ?_
  unfold S27
  simp only [stp, Nat.reduceAdd, Int.reduceLT, Int.reduceLE, Int.reduceEq, Int.reduceNe, ne_eq, bne_self_eq_false, beq_self_eq_true, stm]
  exact hq
theorem cgen_c (h : CL w B c s) (hq : Q (.int .i64 s.gen) w) : callS Try.prog 26 #[.pointer (some ⟨c, 0, none⟩)] Q w := by
  refine ref26 ?_
  unfold S26
  obtain ⟨mh, mu, mo, wv, h⟩ := h
  have c1 : cel w c 2 = some (.int .i64 s.gen) := by rw [h.cel]; rfl
  simp only [stp, Nat.reduceAdd, Int.reduceLT, Int.reduceLE, Int.reduceEq, Int.reduceNe, ne_eq, bne_self_eq_false, beq_self_eq_true, stm, c1]
  exact hq
theorem cgen_nil (hq : Q (.int .i64 0) w) : callS Try.prog 26 #[.pointer none] Q w := by
  refine ref26 ?_
  unfold S26
  simp only [stp, Nat.reduceAdd, Int.reduceLT, Int.reduceLE, Int.reduceEq, Int.reduceNe, ne_eq, bne_self_eq_false, beq_self_eq_true, stm]
  exact hq
theorem cunuse_c (h : CL w B c s) (hB : B ≤ siz w) (hq : ∀ w', CL w' B c { s with lu := [], lw := [] } → KO B cp w w' → Q (.tuple #[]) w') :
    callS Try.prog 21 #[.pointer (some ⟨c, 0, none⟩)] Q w := by
  refine ref21 ?_
  unfold S21
  refine cnone_c h ?_
  obtain ⟨mh, mu, mo, wv, h⟩ := h
  try simp only [stp, Nat.reduceAdd, Int.reduceLT, Int.reduceLE, Int.reduceEq, Int.reduceNe, ne_eq, bne_self_eq_false, beq_self_eq_true]
  refine new_c fun w1 m1 k1 => ?_
  have h1 := h.keep0 k1
  have i4 : (cel w1 c 4).isSome = true := by rw [h1.cel]; rfl
  try simp only [stp, Nat.reduceAdd, Int.reduceLT, Int.reduceLE, Int.reduceEq, Int.reduceNe, ne_eq, bne_self_eq_false, beq_self_eq_true]
  rw [st_63 one_ptr i4 (fre_b h1.b)]
  have b2 := blk_sto (o := 4) (v := .pointer (some ⟨siz w, 0, none⟩)) h1.b
  have i6 : (cel (sto w1 c 4 (.pointer (some ⟨siz w, 0, none⟩))) c 6).isSome = true := by rw [cel_b b2]; rfl
  try simp only [stp, Nat.reduceAdd, Int.reduceLT, Int.reduceLE, Int.reduceEq, Int.reduceNe, ne_eq, bne_self_eq_false, beq_self_eq_true]
  rw [st_27 one_slice i6 (fre_b b2)]
  have b3 := blk_sto (o := 6) (v := .slice none 0 0) b2
  have k3 : Keep (fun b => b = c) w1 (sto (sto w1 c 4 (.pointer (some ⟨siz w, 0, none⟩))) c 6 (.slice none 0 0)) := ((Keep.refl (fun b => b = c) w1).sto (.inl rfl) _ _).sto (.inl rfl) _ _
  generalize sto (sto w1 c 4 (.pointer (some ⟨siz w, 0, none⟩))) c 6 (.slice none 0 0) = w3 at b3 k3
  have lh := h.h.lt
  have lo := h.o.lt
  refine hq _ ⟨mh, siz w, mo, .slice none 0 0, ?_⟩ ((KO.of0 k1).trans (h1.koC k3))
  exact { b := b3, h := im_keepT h1.h h1.b (by decide) (by decide) k3, u := im_keepT m1 h1.b (by decide) (by decide) k3, o := im_keepT h1.o h1.b (by decide) (by decide) k3, nhu := (show mh ≠ siz w by omega), nho := h.nho, nuo := (show siz w ≠ mo by omega), Bc := h.Bc, Bh := h.Bh, Bu := hB, Bo := h.Bo, wr := WR.nil fun u hu => Nat.lt_of_lt_of_le (h1.wr.2 u hu).1 k3.size, w1 := one_slice, cw := Canon.nil, mw := (fun p hp => by cases hp), dh := h.dh, du := Bd.nil _, do_ := h.do_, dw := Bd.nil _ }
theorem cunuse_nil (hq : Q (.tuple #[]) w) : callS Try.prog 21 #[.pointer none] Q w := by
  refine ref21 ?_
  unfold S21
  refine cnone_nil ?_
  try simp only [stp, Nat.reduceAdd, Int.reduceLT, Int.reduceLE, Int.reduceEq, Int.reduceNe, ne_eq, bne_self_eq_false, beq_self_eq_true]
  exact hq
theorem cuse_c {v : Value} {L : List I3} (h : CL w B c s) (hL : Rd 3 w v L.length (flat enc3 L)) (hlen : L.length ≤ 5000) (hd : ∀ k ∈ L, k.2.1 ≤ 4096)
    (hq0 : (¬ ∀ x, needF (askF L x) (valB s.lh x) = none) → ∀ w', CL w' B c s → KO B cp w w' → Q (.bool false) w')
    (hq1 : (∀ x, needF (askF L x) (valB s.lh x) = none) → ∀ w' lu, (∀ x, valB lu x = raiseB (valB s.lu) (askF L) x) → CL w' B c { s with lu := lu } → KO B cp w w' → Q (.bool true) w') :
    callS Try.prog 25 #[.pointer (some ⟨c, 0, none⟩), v] Q w := by
  refine ref25 ?_
  unfold S25
  refine cnone_c h ?_
  obtain ⟨mh, mu, mo, wv, h⟩ := h
  have c3 : cel w c 3 = some (.pointer (some ⟨mh, 0, none⟩)) := by rw [h.cel]; rfl
  simp only [stp, Nat.reduceAdd, Int.reduceLT, Int.reduceLE, Int.reduceEq, Int.reduceNe, ne_eq, bne_self_eq_false, beq_self_eq_true, stm, c3]
  refine mhas_c (.inr ⟨mh, rfl, h.h⟩) (by have := h.lenH; omega) hL hlen fun w1 r hr k1 => ?_
  have k1 := k1.old'
  have h1 := h.keep0 k1
  cases r with
  | false =>
    try simp only [stp, Nat.reduceAdd, Int.reduceLT, Int.reduceLE, Int.reduceEq, Int.reduceNe, ne_eq, bne_self_eq_false, beq_self_eq_true]
    exact hq0 (fun hall => absurd (hr.2 hall) (by simp)) _ ⟨mh, mu, mo, wv, h1⟩ (KO.of0 k1)
  | true =>
  have hall := hr.1 rfl
  try simp only [stp, Nat.reduceAdd, Int.reduceLT, Int.reduceLE, Int.reduceEq, Int.reduceNe, ne_eq, bne_self_eq_false, beq_self_eq_true]
  refine mnorm_c (hL.keep0 k1) (by omega) fun w2 v2 N hcN hvN hlN o2 k2 => ?_
  have k2 := k2.old'
  have h2 := h1.keep0 k2
  have hdN : Bd 4096 N := bd_of_val hcN fun x hx => by rw [hvN]; exact askF_bd hd hx
  obtain ⟨pa, ca, rfl⟩ := o2.form
  try simp only [stp, Nat.reduceAdd, Int.reduceLT, Int.reduceLE, Int.reduceEq, Int.reduceNe, ne_eq, bne_self_eq_false, beq_self_eq_true]
  refine lpc1 (asLocks N).length (by rw [asLocks_len]; have := canon_len (n := 4096) hcN hdN; omega) (fun i w' => ∃ lu, CLr w' B c { s with lu := lu } mh mu mo wv ∧ (∀ x, valB lu x = overB rF (valB s.lu) (valB (N.take i)) x) ∧ KO B cp w2 w') ⟨s.lu, h2, fun x => rfl, KO.refl _ _ _⟩ ?_ ?_
  · rintro i w4 hlt ⟨lu, h4, hv4, k4⟩ J hJ _j
    have hltN : i < N.length := by rwa [asLocks_len] at hlt
    obtain ⟨b, o, rfl, p0, p1, p2⟩ := lkp_at (k4.own o2 fun cs => rfl).rd hltN
    have hlt' : ((i : Int) < ((asLocks N).length : Int)) := by omega
    simp only [stp, Nat.reduceAdd, Int.reduceLT, Int.reduceLE, Int.reduceEq, Int.reduceNe, ne_eq, bne_self_eq_false, beq_self_eq_true, hlt']
    rw [ix_27 hlt]
    simp only [stp, Nat.reduceAdd, Int.reduceLT, Int.reduceLE, Int.reduceEq, Int.reduceNe, ne_eq, bne_self_eq_false, beq_self_eq_true, stm, p0, p1, p2]
    have k5 := (K0.refl w4).alloc (.cells #[.int .i64 N[i].1.1, .int .i64 N[i].1.2, .int .i64 N[i].2] 25)
    have y0 : cel (w4.alloc (.cells #[.int .i64 N[i].1.1, .int .i64 N[i].1.2, .int .i64 N[i].2] 25)) (siz w4) 0 = some (.int .i64 N[i].1.1) := cel_alloc_new
    have y1 : cel (w4.alloc (.cells #[.int .i64 N[i].1.1, .int .i64 N[i].1.2, .int .i64 N[i].2] 25)) (siz w4) 1 = some (.int .i64 N[i].1.2) := cel_alloc_new
    have y2 : cel (w4.alloc (.cells #[.int .i64 N[i].1.1, .int .i64 N[i].1.2, .int .i64 N[i].2] 25)) (siz w4) 2 = some (.int .i64 N[i].2) := cel_alloc_new
    generalize w4.alloc (.cells #[.int .i64 N[i].1.1, .int .i64 N[i].1.2, .int .i64 N[i].2] 25) = w5 at k5 y0 y1 y2
    have h5 := h4.keep0 k5.drew
    have c4 : cel w5 c 4 = some (.pointer (some ⟨mu, 0, none⟩)) := by rw [(h4.keep0 k5).cel]; rfl
    simp only [stp, Nat.reduceAdd, Int.reduceLT, Int.reduceLE, Int.reduceEq, Int.reduceNe, ne_eq, bne_self_eq_false, beq_self_eq_true, stm, c4, y0, y1, y2]
    refine raise_c h5.u (by have := h5.lenU; omega) fun w6 l6 m6 hv6 k6 => ?_
    have hv6' : ∀ x, valB l6 x = overB rF (valB s.lu) (valB (N.take (i + 1))) x := fun x => by
      rw [hv6, updM_rF, over_take hcN.apart hltN, hv4]
    have hd6 : Bd 4096 l6 := bd_of_val m6.canon fun x hx => by rw [hv6']; exact over_bd (fun y hy => val_of_bd h.du hy) hdN _ hx
    try simp only [stp, Nat.reduceAdd, Int.reduceLT, Int.reduceLE, Int.reduceEq, Int.reduceNe, ne_eq, bne_self_eq_false, beq_self_eq_true]
    exact hJ _ ⟨l6, h5.turnU k6 m6 hd6, hv6', k4.trans ((KO.of0 k5.drew).trans (h5.koU k6))⟩
  · rintro w4 ⟨lu, h4, hv4, k4⟩ J _j
    have hn : ¬ (((asLocks N).length : Int) < ((asLocks N).length : Int)) := by omega
    simp only [stp, Nat.reduceAdd, Int.reduceLT, Int.reduceLE, Int.reduceEq, Int.reduceNe, ne_eq, bne_self_eq_false, beq_self_eq_true, hn]
    refine hq1 hall _ lu (fun x => ?_) ⟨mh, mu, mo, wv, h4⟩ (((KO.of0 k1).trans (KO.of0 k2)).trans k4)
    rw [hv4, raiseB_over, asLocks_len, List.take_length]
    unfold overB
    rw [hvN]
end
end Go.Proofs.Ytknklmemadediaa
