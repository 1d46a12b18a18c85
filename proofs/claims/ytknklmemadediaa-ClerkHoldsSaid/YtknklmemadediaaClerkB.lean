/- A node's side of the locks: asking, using, granting. Conditions: as each says. -/
import Derived.Test.YtknklmemadediaaClerkA
set_option linter.unusedSimpArgs false
set_option linter.unusedVariables false
namespace Go.Proofs.Ytknklmemadediaa
open Go.Sh Go.Proofs.Ytknklmemadediaa.Mi
set_option maxRecDepth 100000
section
variable {w w' : World} {Q : Value → World → Prop} {m : Nat} {l : List (Pt Int)}
theorem clocks_c (hm : IM w m l) (hl : l.length ≤ 1000000) (hq : ∀ w' v', Own w' (siz w) 25 3 v' (asLocks l).length (flat enc3 (asLocks l)) → Keep (fun _ => False) w w' → Q v' w') :
    callS Try.prog 46 #[.pointer (some ⟨m, 0, none⟩)] Q w := by
  refine ref46 ?_
  unfold S46
  refine all_c hm hl fun w1 v1 o1 k1 => ?_
  have s1 := k1.size
  obtain ⟨pa, ca, rfl⟩ := o1.form
  simp only [stp, Nat.reduceAdd, Int.reduceLT, Int.reduceLE, Int.reduceEq, Int.reduceNe, ne_eq, bne_self_eq_false, beq_self_eq_true]
  refine lp2 (fun mm x y w' => Keep (fun _ => False) w1 w' ∧ ∃ i : Nat, y = .int .i64 (i : Int) ∧ i ≤ l.length ∧ mm = l.length - i ∧ Own w' (siz w1) 25 3 x i (flat enc3 (asLocks (l.take i)))) l.length
    ⟨Keep.refl _ _, 0, rfl, Nat.zero_le _, by omega, Own.nil _ _ _ _⟩ ?_
  rintro mm x y w2 ⟨k2, i, rfl, hi, rfl, o2⟩ J hJ _
  have hwi := wrap_succ (i := i) (by omega)
  have s12 := k2.size
  by_cases hlt : i < l.length
  · have hlt' : ((i : Int) < (l.length : Int)) := by omega
    have hsi : l[i]? = some l[i] := List.getElem?_eq_getElem hlt
    obtain ⟨g, cg, e, _, _, _, _, _, hcel⟩ := (o1.keep k2 fun _ _ => id).at (by omega)
    injection e with e1 _ e2
    subst e1 e2
    obtain ⟨p0, p1, p2⟩ := parts_at (ev := ev) (b := g) (o := 0) (l := l) (fun j hj => by rw [Nat.zero_add]; exact hcel j hj) hsi
    rw [Nat.zero_add] at p0 p1 p2
    simp only [stp, Nat.reduceAdd, Int.reduceLT, Int.reduceLE, Int.reduceEq, Int.reduceNe, ne_eq, bne_self_eq_false, beq_self_eq_true, hlt']
    rw [ix_72 hlt]
    simp only [stp, Nat.reduceAdd, Int.reduceLT, Int.reduceLE, Int.reduceEq, Int.reduceNe, ne_eq, bne_self_eq_false, beq_self_eq_true, stm, p0, p1, p2]
    have k3 := (Keep.refl (fun _ => False) w2).alloc (.cells #[.int .i64 l[i].1.1, .int .i64 l[i].1.2, ev l[i].2] 75)
    have o3 := o2.keep k3 fun _ _ => id
    have s23 := k3.size
    refine pu_27 o3 (by intro u hu; simp only [List.mem_cons, List.not_mem_nil, or_false] at hu; rcases hu with rfl | rfl | rfl <;> exact one_int) (by omega) (by omega) fun v' w' ho hk hr => ?_
    simp only [hwi]
    refine hJ (l.length - (i + 1)) _ _ _ (by omega) ⟨(k2.trans k3).trans' hk fun b hb e => by have := (o3.lt e).1; omega, i + 1, rfl, by omega, rfl, ?_⟩
    have e9 : asLocks (l.take (i + 1)) = asLocks (l.take i) ++ [(l[i].1.1, l[i].1.2, l[i].2)] := by
      rw [List.take_add_one, hsi, Option.toList_some]; unfold asLocks; rw [List.map_append]; rfl
    rw [e9, flat_append]
    exact ho
  · have hlt' : ¬ ((i : Int) < (l.length : Int)) := by omega
    have hil : i = l.length := by omega
    simp only [stp, Nat.reduceAdd, Int.reduceLT, Int.reduceLE, Int.reduceEq, Int.reduceNe, ne_eq, bne_self_eq_false, beq_self_eq_true, hlt']
    rw [hil, List.take_length] at o2
    exact hq _ _ (by rw [asLocks_len]; exact o2.le s1) (k1.trans k2)

end
section
variable {w w' : World} {Q : Value → World → Prop} {B c : Nat} {s : CS} {mh mu mo : Nat} {wv : Value}
/-- The cells of a lock in a list. -/
theorem lkr_at {pa : Option Addr} {ca : Nat} {L : List I3} (h : Rd 3 w (.slice pa L.length ca) L.length (flat enc3 L)) {i : Nat} (hi : i < L.length) :
    ∃ b o, pa = some ⟨b, o, none⟩ ∧ cel w b (o + i * 3) = some (.int .i64 L[i].1) ∧ cel w b (o + i * 3 + 1) = some (.int .i64 L[i].2.1) ∧ cel w b (o + i * 3 + 2) = some (.int .i64 L[i].2.2) := by
  obtain ⟨b, o, c', e, _, hcel⟩ := h.at (by omega)
  injection e with e1 _ e2
  subst e1 e2
  obtain ⟨c0, c1, c2⟩ := locks_at hcel (List.getElem?_eq_getElem hi)
  exact ⟨b, o, rfl, c0, c1, c2⟩
theorem lkp_at {pa : Option Addr} {ca : Nat} {N : List (Pt Int)} (h : Rd 3 w (.slice pa (asLocks N).length ca) (asLocks N).length (flat enc3 (asLocks N))) {i : Nat} (hi : i < N.length) :
    ∃ b o, pa = some ⟨b, o, none⟩ ∧ cel w b (o + i * 3) = some (.int .i64 N[i].1.1) ∧ cel w b (o + i * 3 + 1) = some (.int .i64 N[i].1.2) ∧ cel w b (o + i * 3 + 2) = some (.int .i64 N[i].2) := by
  obtain ⟨b, o, c', e, _, hcel⟩ := h.at (by rw [asLocks_len]; omega)
  injection e with e1 _ e2
  subst e1 e2
  obtain ⟨c0, c1, c2⟩ := locks_at (L := asLocks N) (p := (N[i].1.1, N[i].1.2, N[i].2)) hcel (by unfold asLocks; rw [List.getElem?_map, List.getElem?_eq_getElem hi]; rfl)
  exact ⟨b, o, rfl, c0, c1, c2⟩
/-- One message, or none. -/
def OneMsg (w : World) (v : Value) (kind id node gen stamp epoch err : Int) (lv : Value) : Prop := ∃ g, v = .slice (some ⟨g, 0, none⟩) 1 1 ∧ blk w g = some (.cells (msgC kind id node gen stamp epoch err lv) 39)
theorem OneMsg.ko {A : Nat} {v lv : Value} {kind id node gen stamp epoch err : Int} (h : OneMsg w v kind id node gen stamp epoch err lv) (k : KO A cp w w') : OneMsg w' v kind id node gen stamp epoch err lv := by
  obtain ⟨g, e, hb⟩ := h
  exact ⟨g, e, k.blk hb rfl⟩
/-- Asked for: the first of the locks that are needed. -/
theorem cask_c (h : CL w B c s) (hB : B ≤ siz w) (hid : s.id ≤ 1000000)
    (hq0 : s.out = true ∨ (∀ x, s.need x = none) → ∀ w', CL w' B c s → KO B cp w w' → Q (.slice none 0 0) w')
    (hq1 : s.out = false → ∀ w' v lv l', Canon l' → (∀ x, valB l' x = s.need x) → okM l' → (hl : 0 < l'.length) → OneMsg w' v 5 ((s.id + 1 : Nat) : Int) 0 s.gen 0 s.epoch 0 lv → TRd w' B 25 3 lv 1 (enc3 (l'[0].1.1, l'[0].1.2, l'[0].2)) → CL w' B c { s with id := s.id + 1, out := true, quit := false } → KO B cp w w' → Q v w') :
    callS Try.prog 33 #[.pointer (some ⟨c, 0, none⟩)] Q w := by
  refine ref33 ?_
  unfold S33
  refine cneeds_c h fun w1 v1 l1 hc1 hv1 hl1 hm1 o1 k1 => ?_
  have h1 := h.keep0 k1
  have s1 := k1.size
  obtain ⟨mh, mu, mo, wv, h1⟩ := h1
  obtain ⟨pa, ca, rfl⟩ := o1.form
  have c8 : cel w1 c 8 = some (.bool s.out) := by rw [h1.cel]; rfl
  by_cases hout : s.out = true
  · rw [hout] at c8
    simp only [stp, Nat.reduceAdd, Int.reduceLT, Int.reduceLE, Int.reduceEq, Int.reduceNe, ne_eq, bne_self_eq_false, beq_self_eq_true, stm, c8]
    exact hq0 (.inl hout) _ ⟨mh, mu, mo, wv, h1⟩ (KO.of0 k1)
  have hout : s.out = false := by simpa using hout
  rw [hout] at c8
  by_cases hl0 : l1 = []
  · have e : ((asLocks l1).length : Int) = 0 := by rw [hl0]; rfl
    simp only [stp, Nat.reduceAdd, Int.reduceLT, Int.reduceLE, Int.reduceEq, Int.reduceNe, ne_eq, bne_self_eq_false, beq_self_eq_true, stm, c8, e]
    refine hq0 (.inr fun x => ?_) _ ⟨mh, mu, mo, wv, h1⟩ (KO.of0 k1)
    rw [← hv1, hl0]; rfl
  have hlp : 0 < l1.length := List.length_pos_iff.2 hl0
  have e : ¬ ((asLocks l1).length : Int) = 0 := by rw [asLocks_len]; omega
  have c7 : cel w1 c 7 = some (.int .i64 (s.id : Int)) := by rw [h1.cel]; rfl
  obtain ⟨b0, o0, rfl, p0, p1, p2⟩ := lkp_at o1.rd hlp
  obtain ⟨g, cg, eg, hBg, hgl, hncg, _, _, _⟩ := o1.at (by rw [asLocks_len]; omega)
  injection eg with e1 _ e2
  injection e1 with e1
  injection e1 with e1 e3 _
  subst e1 e2 e3
  have hcap : 1 ≤ ca := by rw [asLocks_len] at hncg; omega
  simp only [stp, Nat.reduceAdd, Int.reduceLT, Int.reduceLE, Int.reduceEq, Int.reduceNe, ne_eq, bne_self_eq_false, beq_self_eq_true, stm, c8, e, c7, wrap_succ (i := s.id) (by omega)]
  have hf1 := fre_b h1.b
  have i7 : (cel w1 c 7).isSome = true := by rw [c7]; rfl
  rw [st_3 one_int i7 hf1]
  have h2 : CLr (sto w1 c 7 (.int .i64 ((s.id + 1 : Nat) : Int))) B c { s with id := s.id + 1 } mh mu mo wv := h1.put (o := 7) (v := .int .i64 ((s.id + 1 : Nat) : Int)) rfl
  have k2 : Keep (fun b => b = c) w1 (sto w1 c 7 (.int .i64 ((s.id + 1 : Nat) : Int))) := (Keep.refl (fun b => b = c) w1).sto (.inl rfl) _ _
  generalize sto w1 c 7 (.int .i64 ((s.id + 1 : Nat) : Int)) = w2 at h2 k2
  try simp only [stp, Nat.reduceAdd, Int.reduceLT, Int.reduceLE, Int.reduceEq, Int.reduceNe, ne_eq, bne_self_eq_false, beq_self_eq_true]
  have i8 : (cel w2 c 8).isSome = true := by rw [h2.cel]; rfl
  rw [st_4 one_bool i8 (fre_b h2.b)]
  have h3 : CLr (sto w2 c 8 (.bool true)) B c { s with id := s.id + 1, out := true } mh mu mo wv := h2.put (o := 8) (v := .bool true) rfl
  have k3 : Keep (fun b => b = c) w1 (sto w2 c 8 (.bool true)) := k2.sto (.inl rfl) _ _
  generalize sto w2 c 8 (.bool true) = w3 at h3 k3
  try simp only [stp, Nat.reduceAdd, Int.reduceLT, Int.reduceLE, Int.reduceEq, Int.reduceNe, ne_eq, bne_self_eq_false, beq_self_eq_true]
  have i9 : (cel w3 c 9).isSome = true := by rw [h3.cel]; rfl
  rw [st_4 one_bool i9 (fre_b h3.b)]
  have h4 : CLr (sto w3 c 9 (.bool false)) B c { s with id := s.id + 1, out := true, quit := false } mh mu mo wv := h3.put (o := 9) (v := .bool false) rfl
  have k4 : Keep (fun b => b = c) w1 (sto w3 c 9 (.bool false)) := k3.sto (.inl rfl) _ _
  generalize sto w3 c 9 (.bool false) = w4 at h4 k4
  have c7' : cel w4 c 7 = some (.int .i64 ((s.id + 1 : Nat) : Int)) := by rw [h4.cel]; rfl
  simp only [stp, Nat.reduceAdd, Int.reduceLT, Int.reduceLE, Int.reduceEq, Int.reduceNe, ne_eq, bne_self_eq_false, beq_self_eq_true, stm, c7', slm_1 hcap]
  have kd : K0 w4 w4.drew := (K0.refl w4).drew
  refine message_c ⟨mh, mu, mo, wv, h4.keep0 kd⟩ one_slice fun w5 k5 => ?_
  have k45 := kd.trans k5
  have h5 := h4.keep0 k45
  unfold msgC
  simp only [stp, Nat.reduceAdd, Int.reduceLT, Int.reduceLE, Int.reduceEq, Int.reduceNe, ne_eq, bne_self_eq_false, beq_self_eq_true, stm]
  have k6 := (K0.refl w5).alloc (.cells #[.int .i64 5, .int .i64 ((s.id + 1 : Nat) : Int), .int .i64 0, .int .i64 s.gen, .int .i64 0, .int .u64 s.epoch, .int .i64 0, .slice (some ⟨b0, 0, none⟩) 1 1] 39)
  have ko : KO B cp w (w5.alloc (.cells #[.int .i64 5, .int .i64 ((s.id + 1 : Nat) : Int), .int .i64 0, .int .i64 s.gen, .int .i64 0, .int .u64 s.epoch, .int .i64 0, .slice (some ⟨b0, 0, none⟩) 1 1] 39)) :=
    (KO.of0 k1).trans ((h1.koC k4).trans (KO.of0 (k45.trans k6)))
  have ko14 := (h1.koC k4).trans (KO.of0 (B := B) (p := cp) (k45.trans k6))
  have t1 := o1.trd (Nat.le_trans hB (Nat.le_refl _))
  have t9 := t1.ko ko14 (fun cs => rfl)
  refine hq1 hout _ _ _ l1 hc1 hv1 hm1 hlp ⟨siz w5, rfl, blk_alloc_new⟩ ⟨⟨rfl, .inr ⟨b0, 0, 1, rfl, Nat.le_refl _, fun j hj => ?_⟩⟩, fun g hg => t9.2 g hg⟩ ⟨mh, mu, mo, wv, h5.keep0 k6⟩ ko
  obtain ⟨b9, o9, e9, q0, q1, q2⟩ := lkp_at t9.1 hlp
  injection e9 with e9
  injection e9 with e8 e9 _
  subst e8 e9
  have : j = 0 ∨ j = 1 ∨ j = 2 := by omega
  rcases this with rfl | rfl | rfl
  · exact q0
  · exact q1
  · exact q2
end
end Go.Proofs.Ytknklmemadediaa
