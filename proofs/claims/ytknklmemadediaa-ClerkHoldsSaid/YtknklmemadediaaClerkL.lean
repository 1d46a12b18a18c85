/- A node's side of the locks: the first call whose answer the document fixes; may locks be asked for. Conditions: as each says. -/
import Derived.Test.YtknklmemadediaaClerkK
set_option linter.unusedSimpArgs false
set_option linter.unusedVariables false
namespace Go.Proofs.Ytknklmemadediaa
open Go.Sh Go.Proofs.Ytknklmemadediaa.Mi
set_option maxRecDepth 100000
section
variable {w w' : World} {Q : Value → World → Prop} {B c : Nat} {s : CS} {mh mu mo : Nat} {wv : Value}
theorem rmode_c {a : Int} (hq : Q (.bool (decide (isMd a))) w) : callS Try.prog 28 #[.int .i64 a] Q w := by
  refine ref28 ?_
  unfold S28
  by_cases h0 : 0 ≤ a
  · simp only [stp, Nat.reduceAdd, Int.reduceLT, Int.reduceLE, Int.reduceEq, Int.reduceNe, ne_eq, bne_self_eq_false, beq_self_eq_true, stm, h0]
    simpa only [isMd, h0, true_and] using hq
  · simp only [stp, Nat.reduceAdd, Int.reduceLT, Int.reduceLE, Int.reduceEq, Int.reduceNe, ne_eq, bne_self_eq_false, beq_self_eq_true, stm, h0]
    simpa only [isMd, h0, false_and, decide_false] using hq
def mayL (k : I3) : Prop := ok (k.1, k.2.1) ∧ k.2.1 ≤ 4096 ∧ isMd k.2.2
instance (k : I3) : Decidable (mayL k) := by unfold mayL ok; infer_instance
theorem may_c {v : Value} {L : List I3} (hL : Rd 3 w v L.length (flat enc3 L)) (hlen : L.length ≤ 1000000) (hq : ∀ w', K0 w w' → Q (.bool (decide (∀ k ∈ L, mayL k))) w') :
    callS Try.prog 9 #[v] Q w := by
  refine ref9 ?_
  unfold S9
  obtain ⟨pa, ca, rfl⟩ := hL.form
  refine lpc1 L.length (by omega) (fun i w' => K0 w w' ∧ ∀ k ∈ L.take i, mayL k) ⟨K0.refl _, by simp⟩ ?_ ?_
  · rintro i w1 hlt ⟨k1, hall⟩ J hJ _j
    have hlt' : ((i : Int) < (L.length : Int)) := by omega
    obtain ⟨b, o, rfl, p0, p1, p2⟩ := lkr_at (hL.keep0 k1.drew) hlt
    simp only [stp, Nat.reduceAdd, Int.reduceLT, Int.reduceLE, Int.reduceEq, Int.reduceNe, ne_eq, bne_self_eq_false, beq_self_eq_true, hlt']
    rw [ix_27 hlt]
    simp only [stp, Nat.reduceAdd, Int.reduceLT, Int.reduceLE, Int.reduceEq, Int.reduceNe, ne_eq, bne_self_eq_false, beq_self_eq_true, stm, p0, p1, p2]
    have hno : ¬ mayL L[i] → decide (∀ k ∈ L, mayL k) = false := fun h => decide_eq_false fun hh => h (hh _ (List.getElem_mem hlt))
    by_cases h0 : L[i].1 < 0
    · have hn : ¬ mayL L[i] := fun h => by have := h.1.1; simp only at this; omega
      have := hq _ k1.drew
      rw [hno hn] at this
      simp only [stp, Nat.reduceAdd, Int.reduceLT, Int.reduceLE, Int.reduceEq, Int.reduceNe, ne_eq, bne_self_eq_false, beq_self_eq_true, h0]
      exact this
    simp only [stp, Nat.reduceAdd, Int.reduceLT, Int.reduceLE, Int.reduceEq, Int.reduceNe, ne_eq, bne_self_eq_false, beq_self_eq_true, h0]
    rw [ix_27 hlt]
    simp only [stp, Nat.reduceAdd, Int.reduceLT, Int.reduceLE, Int.reduceEq, Int.reduceNe, ne_eq, bne_self_eq_false, beq_self_eq_true, stm, p0, p1, p2]
    rw [ix_27 hlt]
    simp only [stp, Nat.reduceAdd, Int.reduceLT, Int.reduceLE, Int.reduceEq, Int.reduceNe, ne_eq, bne_self_eq_false, beq_self_eq_true, stm, p0, p1, p2]
    by_cases h1 : L[i].2.1 ≤ L[i].1
    · have hn : ¬ mayL L[i] := fun h => by have := h.1.2; simp only at this; omega
      have := hq _ k1.drew
      rw [hno hn] at this
      simp only [stp, Nat.reduceAdd, Int.reduceLT, Int.reduceLE, Int.reduceEq, Int.reduceNe, ne_eq, bne_self_eq_false, beq_self_eq_true, h1]
      exact this
    simp only [stp, Nat.reduceAdd, Int.reduceLT, Int.reduceLE, Int.reduceEq, Int.reduceNe, ne_eq, bne_self_eq_false, beq_self_eq_true, h1]
    rw [ix_27 hlt]
    simp only [stp, Nat.reduceAdd, Int.reduceLT, Int.reduceLE, Int.reduceEq, Int.reduceNe, ne_eq, bne_self_eq_false, beq_self_eq_true, stm, p0, p1, p2]
    by_cases h2 : 4096 < L[i].2.1
    · have hn : ¬ mayL L[i] := fun h => by have := h.2.1; omega
      have := hq _ k1.drew
      rw [hno hn] at this
      simp only [stp, Nat.reduceAdd, Int.reduceLT, Int.reduceLE, Int.reduceEq, Int.reduceNe, ne_eq, bne_self_eq_false, beq_self_eq_true, h2]
      exact this
    simp only [stp, Nat.reduceAdd, Int.reduceLT, Int.reduceLE, Int.reduceEq, Int.reduceNe, ne_eq, bne_self_eq_false, beq_self_eq_true, h2]
    rw [ix_27 hlt]
    simp only [stp, Nat.reduceAdd, Int.reduceLT, Int.reduceLE, Int.reduceEq, Int.reduceNe, ne_eq, bne_self_eq_false, beq_self_eq_true, stm, p0, p1, p2]
    refine rmode_c ?_
    by_cases h3 : isMd L[i].2.2
    · simp only [stp, Nat.reduceAdd, Int.reduceLT, Int.reduceLE, Int.reduceEq, Int.reduceNe, ne_eq, bne_self_eq_false, beq_self_eq_true, h3]
      refine hJ _ ⟨k1.drew, fun k hk => ?_⟩
      rw [List.take_add_one, List.getElem?_eq_getElem hlt, Option.toList_some] at hk
      rcases List.mem_append.1 hk with hk | hk
      · exact hall k hk
      · simp at hk; subst hk
        exact ⟨⟨by simp only; omega, by simp only; omega⟩, by omega, h3⟩
    · have hn : ¬ mayL L[i] := fun h => h3 h.2.2
      have := hq _ k1.drew
      rw [hno hn] at this
      simp only [stp, Nat.reduceAdd, Int.reduceLT, Int.reduceLE, Int.reduceEq, Int.reduceNe, ne_eq, bne_self_eq_false, beq_self_eq_true, h3]
      exact this
  · rintro w1 ⟨k1, hall⟩ J _j
    rw [List.take_length] at hall
    have hn : ¬ ((L.length : Int) < (L.length : Int)) := by omega
    have := hq _ k1
    rw [decide_eq_true hall] at this
    simp only [stp, Nat.reduceAdd, Int.reduceLT, Int.reduceLE, Int.reduceEq, Int.reduceNe, ne_eq, bne_self_eq_false, beq_self_eq_true, hn]
    exact this
/-- A list of one lock, just made. -/
theorem rd_lock1 {x y z : Int} : Rd 3 (w.alloc (.cells #[.int .i64 x, .int .i64 y, .int .i64 z] 25)) (.slice (some ⟨siz w, 0, none⟩) 1 1) ([(x, y, z)] : List I3).length (flat enc3 ([(x, y, z)] : List I3)) :=
  ⟨rfl, .inr ⟨siz w, 0, 1, rfl, Nat.le_refl _, fun j hj => by rw [Nat.zero_add, cel_alloc_new, List.getElem?_toArray]; rfl⟩⟩
theorem rd_lock1' {g : Nat} {x y z : Int} (h : blk w g = some (.cells #[.int .i64 x, .int .i64 y, .int .i64 z] 25)) : Rd 3 w (.slice (some ⟨g, 0, none⟩) 1 1) ([(x, y, z)] : List I3).length (flat enc3 ([(x, y, z)] : List I3)) :=
  ⟨rfl, .inr ⟨g, 0, 1, rfl, Nat.le_refl _, fun j hj => by rw [Nat.zero_add, cel_b h, List.getElem?_toArray]; rfl⟩⟩
/-- One lock, as a canonical list. -/
theorem canon_one {a b md : Int} (h : ok (a, b)) : Canon [(((a, b), md) : Pt Int)] := ⟨fun p hp => by simp at hp; subst hp; exact h, by simp⟩
theorem ask_one {a b md : Int} (h : md = 1 ∨ md = 2) (x : Int) : askF [(a, b, md)] x = valB [((a, b), md)] x := by
  show ask1 (fun _ => none) (a, b, md) x = _
  by_cases hx : hasB (a, b) x
  · rw [ask1_on (k := (a, b, md)) ⟨h, hx⟩]; simp [valB, hx]
  · rw [ask1_none (k := (a, b, md)) fun hh => hx hh.2]; simp [valB, hx]
theorem needF_same {l : List (Pt Int)} (hm : okM l) (x : Int) : needF (valB l x) (valB l x) = none := by
  cases h : valB l x with
  | none => rfl
  | some v =>
    rw [needF_some]
    obtain ⟨p, hp, _, rfl⟩ := valB_some h
    have := hm p hp
    rw [if_pos ⟨by unfold isMd; omega, by unfold isMd; omega, Int.le_refl _⟩]
theorem okM_one {a b md : Int} (h : md = 1 ∨ md = 2) : okM [(((a, b), md) : Pt Int)] := fun p hp => by simp at hp; subst hp; exact h
/-- A message's cells are kept. -/
theorem cst1 : ((1 : Nat) : Int) = 1 := rfl
theorem cst0 : ((0 : Nat) : Int) = 0 := rfl
theorem ixm {b c : Nat} {k : Value → Prop} : pur Try.prog (Instr.indexAt 33 (.slice (some ⟨b, 0, none⟩) 1 c) (.int .i64 0)) k = k (.pointer (some ⟨b, 0, none⟩)) := by
  have := ix_33 (b := b) (o := 0) (n := 1) (c := c) (i := 0) (kd := .i64) (k := k) (by decide)
  simpa using this
theorem ixl {b c n : Nat} {k : Value → Prop} (h : 0 < n) : pur Try.prog (Instr.indexAt 27 (.slice (some ⟨b, 0, none⟩) n c) (.int .i64 0)) k = k (.pointer (some ⟨b, 0, none⟩)) := by
  have := ix_27 (b := b) (o := 0) (n := n) (c := c) (i := 0) (kd := .i64) (k := k) h
  simpa using this
theorem hld_lock {S : World → Prop} {k : Value → Prop} {g : Nat} {x y z : Value} (h : ∀ w', S w' → blk w' g = some (.cells #[x, y, z] 25)) (hk : k (.agg #[x, y, z])) : hld Try.prog S (Instr.loadAt 25 (.pointer (some ⟨g, 0, none⟩))) k :=
  hld_of _ (fun w' hS => run_of_rd fun _ => by
    have b := h w' hS
    rw [ld_25 (by rw [cel_b b]; rfl) (by rw [cel_b b]; rfl) (by rw [cel_b b]; rfl), cel_b b, cel_b b, cel_b b]; rfl) hk
theorem hld_int {S : World → Prop} {k : Value → Prop} {g o : Nat} {v : Value} {cs : Array Value} {t : TypeId} (h : ∀ w', S w' → blk w' g = some (.cells cs t)) (ho : cs[o]? = some v) (hk : k v) : hld Try.prog S (Instr.loadAt 3 (.pointer (some ⟨g, o, none⟩))) k :=
  hld_of _ (fun w' hS => rl_3 (by rw [cel_b (h w' hS)]; exact ho)) hk
theorem lock_cells {w : World} {b : Nat} {x0 x1 x2 : Value} (h : blk w b = some (.cells #[x0, x1, x2] 25)) : cel w b 0 = some x0 ∧ cel w b 1 = some x1 ∧ cel w b 2 = some x2 := by
  refine ⟨?_, ?_, ?_⟩ <;> (rw [cel_b h]; rfl)
theorem alive_c (hq : ∀ w', Keep (fun b => siz w ≤ b) w w' → Q (.bool true) w') : callS Try.prog 10 #[] Q w := by
  refine ref10 ?_
  unfold S10
  refine cnew_c (B := siz w) (Nat.le_refl _) fun w1 h1 k1 => ?_
  simp only [stp, Nat.reduceAdd, Int.reduceLT, Int.reduceLE, Int.reduceEq, Int.reduceNe, ne_eq, bne_self_eq_false, beq_self_eq_true]
  refine cjoin_c h1 k1.size (by decide) (by decide) fun w2 h2 k2 => ?_
  have kk2 : KO (siz w) cp w w2 := (KO.of0 k1).trans k2
  obtain ⟨s, hs⟩ : ∃ s, (CS.fresh 1).joined 5 1 = s := ⟨_, rfl⟩
  rw [hs] at h2
  have e5 : s.epoch = 5 := by rw [← hs]; rfl
  have e1 : s.gen = 1 := by rw [← hs]; rfl
  have eh : s.lh = [] := by rw [← hs]; rfl
  have eid : s.id = 0 := by rw [← hs]; rfl
  have eout : s.out = false := by rw [← hs]; rfl
  have egr : s.grants = 0 := by rw [← hs]; rfl
  clear hs
  simp only [stp, Nat.reduceAdd, Int.reduceLT, Int.reduceLE, Int.reduceEq, Int.reduceNe, ne_eq, bne_self_eq_false, beq_self_eq_true, stm]
  have k3 : K0 w2 (w2.alloc (.cells #[.int .i64 0, .int .i64 3, .int .i64 1] 25)) := (K0.refl w2).alloc _
  have b3 : blk (w2.alloc (.cells #[.int .i64 0, .int .i64 3, .int .i64 1] 25)) (siz w2) = some (.cells #[.int .i64 0, .int .i64 3, .int .i64 1] 25) := blk_alloc_new
  generalize w2.alloc (.cells #[.int .i64 0, .int .i64 3, .int .i64 1] 25) = w3 at k3 b3
  have k4 : K0 w3 (w3.alloc (.cells #[.int .i64 0, .int .i64 3, .int .i64 1] 25)) := (K0.refl w3).alloc _
  have r4 := rd_lock1 (w := w3) (x := 0) (y := 3) (z := 1)
  generalize w3.alloc (.cells #[.int .i64 0, .int .i64 3, .int .i64 1] 25) = w4 at k4 r4
  have b4 := k4.blk b3 id
  have hok : ok (0, 3) := by unfold ok; decide
  have hcan : Canon [(((0, 3), 1) : Pt Int)] := canon_one hok
  have hmO : okM [(((0, 3), 1) : Pt Int)] := okM_one (.inl rfl)
  have ha := fun x => ask_one (a := 0) (b := 3) (md := 1) (.inl rfl) x
  have h0 : askF [(0, 3, 1)] 0 = some 1 := by rw [ha]; simp [valB, hasB, ok]
  have k24 := k3.trans k4
  have s4 := kk2.size
  have s24 := k24.size
  refine cwant_c (h2.keep0 k24) (by omega) (by omega) (by rw [e5]; decide) r4 (by decide) (by intro k hk; simp at hk; subst hk; decide) (fun w5 N hcN hmN hvN hall h5 k5 => ?_) (fun w5 N hcN hmN hvN hall ho h5 k5 => ?_) (fun w5 N v lv l' hcN hmN hvN ho hc' hv' hm' hl m5 t5 h5 k5 => ?_)
  · have := hall 0
    rw [h0, eh] at this
    cases this
  · rw [eout] at ho; cases ho
  obtain ⟨gm, rfl, bm⟩ := m5
  unfold msgC at bm
  rw [eid, e1, e5, show ((0 + 1 : Nat) : Int) = 1 from rfl] at bm
  obtain ⟨x0, x1, x2, x3, x4, x5, x6, x7⟩ := msg_cells bm
  have b5 := k5.blk b4 rfl
  simp only [stp, Nat.reduceAdd, Int.reduceLT, Int.reduceLE, Int.reduceEq, Int.reduceNe, ne_eq, bne_self_eq_false, beq_self_eq_true, stm, cst1]
  rw [ixm]
  simp only [stp, Nat.reduceAdd, Int.reduceLT, Int.reduceLE, Int.reduceEq, Int.reduceNe, ne_eq, bne_self_eq_false, beq_self_eq_true, stm, cst1, x0]
  have kk5 : KO (siz w) cp w w5 := kk2.trans ((KO.of0 k24).trans k5)
  have s5 := kk5.size
  refine ⟨fun w' => blk w' gm = some (.cells #[.int .i64 5, .int .i64 1, .int .i64 0, .int .i64 1, .int .i64 0, .int .u64 5, .int .i64 0, lv] 39) ∧ blk w' (siz w2) = some (.cells #[.int .i64 0, .int .i64 3, .int .i64 1] 25), ⟨bm, b5⟩, ?_⟩
  rw [ixm]
  simp only [stp, Nat.reduceAdd, Int.reduceLT, Int.reduceLE, Int.reduceEq, Int.reduceNe, ne_eq, bne_self_eq_false, beq_self_eq_true]
  refine hld_int (v := .int .i64 1) (fun w' hS => hS.1) rfl ?_
  refine hld_lock (fun w' hS => hS.2) ?_
  simp only [stp, Nat.reduceAdd, Int.reduceLT, Int.reduceLE, Int.reduceEq, Int.reduceNe, ne_eq, bne_self_eq_false, beq_self_eq_true, stm]
  have k6 : K0 w5 (w5.drew.alloc (.cells #[.int .i64 0, .int .i64 3, .int .i64 1] 25)) := (K0.refl w5).drew.alloc _
  have r6 := rd_lock1 (w := w5.drew) (x := 0) (y := 3) (z := 1)
  have hb6 : blk (w5.drew.alloc (.cells #[.int .i64 0, .int .i64 3, .int .i64 1] 25)) (siz w5.drew) = some (.cells #[.int .i64 0, .int .i64 3, .int .i64 1] 25) := blk_alloc_new
  have sd : siz w5.drew = siz w5 := rfl
  rw [sd] at hb6 r6
  try rw [sd]
  generalize w5.drew.alloc (.cells #[.int .i64 0, .int .i64 3, .int .i64 1] 25) = w6 at k6 r6 hb6
  have bm6 := k6.blk bm id
  have b6 := k6.blk b5 id
  have h6 := h5.keep0 k6
  refine ⟨⟨bm6, b6⟩, ?_⟩
  obtain ⟨mh6, mu6, mo6, wv6, h6r⟩ := id h6
  have s6 := k6.size
  refine ctake_e h6 e5.symm (by omega) (by rw [show ({ s with lw := N, id := s.id + 1, out := true, quit := false } : CS).epoch = 5 from e5]; decide) (by rw [show ({ s with lw := N, id := s.id + 1, out := true, quit := false } : CS).gen = 1 from e1]; decide) one_slice (.inl ⟨rfl, rfl⟩) fun w7 k7 => ?_
  have kk67 := k6.trans k7
  have h7 := h6.keep0 k7
  have r7 := r6.keep0 k7
  have s7 := k7.size
  have hN : N = [(((0, 3), 1) : Pt Int)] := canon_unique _ _ hcN hcan fun x => by rw [hvN, ha]
  refine cgrant_c h7 (by omega) (by show s.id + 1 ≤ 1000000; omega) (by show s.grants ≤ 1000000; omega) one_slice r7 (fun g hg e => ?_) (by decide) (by intro k hk; simp at hk; subst hk; decide) (fun hor w8 lh lo hlh hlo h8 k8 => ?_) (fun hout hi w8 lh hlh hnd h8 k8 => ?_) (fun hout hi w8 lh v8 lv8 l8 hlh hc8 hv8 hm8 hl8 m8 t8 h8 k8 => ?_)
  · injection hg with hg
    have hg : siz w5 = g := hg
    obtain ⟨_, _, _, _, h7r⟩ := h7
    have := k7.blk hb6 id
    rw [hg, e] at this
    exact ne_of_ty this h7r.b (by decide) rfl
  · rcases hor with h' | h'
    · cases h'
    · exact absurd (by show (1 : Int) = ((s.id + 1 : Nat) : Int); rw [eid]; rfl) h'
  · have bm8 := k8.blk (k7.blk bm6 id) rfl
    have b8 := k8.blk (k7.blk b6 id) rfl
    refine ⟨⟨bm8, b8⟩, ?_⟩
    have hlh' : ∀ x, valB lh x = valB [(((0, 3), 1) : Pt Int)] x := fun x => by
      rw [hlh, show ({ s with lw := N, id := s.id + 1, out := true, quit := false } : CS).lh = [] from eh]
      unfold raiseB
      rw [ha]
      show (match valB [(((0, 3), 1) : Pt Int)] x with | none => valB ([] : List (Pt Int)) x | some md => some (match valB ([] : List (Pt Int)) x with | some v => max v md | none => md)) = _
      cases valB [(((0, 3), 1) : Pt Int)] x <;> rfl
    have hlc : Canon lh := by obtain ⟨_, _, _, _, h8r⟩ := h8; exact h8r.h.canon
    have hlh1 : lh = [(((0, 3), 1) : Pt Int)] := canon_unique _ _ hlc hcan hlh'
    subst hlh1
    have kk8 : KO (siz w) cp w w8 := kk5.trans ((KO.of0 kk67).trans k8)
    simp only [stp, Nat.reduceAdd, Int.reduceLT, Int.reduceLE, Int.reduceEq, Int.reduceNe, ne_eq, bne_self_eq_false, beq_self_eq_true]
    refine cheld_c h8 fun w9 v9 o9 k9 => ?_
    have b9 := k9.blk b8 id
    obtain ⟨y0, y1, y2⟩ := lock_cells b9
    have h9 := h8.keep0 k9
    have o9 : Own w9 (siz w8) 25 3 v9 1 [.int .i64 0, .int .i64 3, .int .i64 1] := o9
    obtain ⟨g9, c9, rfl, _, _, _, _, _, hcel⟩ := o9.at (by decide)
    have q0 : cel w9 g9 0 = some (.int .i64 0) := hcel 0 (by decide)
    have q1 : cel w9 g9 1 = some (.int .i64 3) := hcel 1 (by decide)
    have q2 : cel w9 g9 2 = some (.int .i64 1) := hcel 2 (by decide)
    simp only [stp, Nat.reduceAdd, Int.reduceLT, Int.reduceLE, Int.reduceEq, Int.reduceNe, ne_eq, bne_self_eq_false, beq_self_eq_true, stm, y0, y1, y2]
    have k10 : K0 w9 (w9.drew.alloc (.cells #[.int .i64 0, .int .i64 3, .int .i64 1] 25)) := (K0.refl w9).drew.alloc _
    have r10 := rd_lock1 (w := w9.drew) (x := 0) (y := 3) (z := 1)
    have sd9 : siz w9.drew = siz w9 := rfl
    rw [sd9] at r10
    generalize w9.drew.alloc (.cells #[.int .i64 0, .int .i64 3, .int .i64 1] 25) = w10 at k10 r10
    refine chas_c (h9.keep0 k10) r10 (by decide) fun w11 r hr k11 => ?_
    have hrt : r = true := hr.2 fun x => by
      show needF (askF [(0, 3, 1)] x) (valB [(((0, 3), 1) : Pt Int)] x) = none
      rw [ha]; exact needF_same hmO x
    subst hrt
    have k911 := k10.trans k11
    have b11 := k911.blk b9 id
    obtain ⟨y0, y1, y2⟩ := lock_cells b11
    have q0 := k911.cel q0 id
    have q1 := k911.cel q1 id
    have q2 := k911.cel q2 id
    simp only [stp, Nat.reduceAdd, Int.reduceLT, Int.reduceLE, Int.reduceEq, Int.reduceNe, ne_eq, bne_self_eq_false, beq_self_eq_true, cst1]
    rw [ixl (by decide)]
    simp only [stp, Nat.reduceAdd, Int.reduceLT, Int.reduceLE, Int.reduceEq, Int.reduceNe, ne_eq, bne_self_eq_false, beq_self_eq_true, stm, q0, q1, q2, y0, y1, y2, Bool.and_self]
    refine cepoch_c (h9.keep0 k911) ?_
    simp only [stp, Nat.reduceAdd, Int.reduceLT, Int.reduceLE, Int.reduceEq, Int.reduceNe, ne_eq, bne_self_eq_false, beq_self_eq_true, e5]
    refine cgen_c (h9.keep0 k911) ?_
    simp only [stp, Nat.reduceAdd, Int.reduceLT, Int.reduceLE, Int.reduceEq, Int.reduceNe, ne_eq, bne_self_eq_false, beq_self_eq_true, e1]
    exact hq _ ((kk8.trans (KO.of0 (k9.trans k911))).below (Nat.le_refl _))
  · exfalso
    have : l8 = [] := canon_unique _ _ hc8 Canon.nil fun x => by
      rw [hv8, hlh, show ({ s with lw := N, id := s.id + 1, out := true, quit := false } : CS).lh = [] from eh]
      show needF (valB N x) (raiseB (valB ([] : List (Pt Int))) (askF [(0, 3, 1)]) x) = none
      have : raiseB (valB ([] : List (Pt Int))) (askF [(0, 3, 1)]) x = valB N x := by
        rw [hvN]
        unfold raiseB
        cases askF [(0, 3, 1)] x <;> rfl
      rw [this]
      exact needF_same hmN x
    subst this
    cases hl8
end
end Go.Proofs.Ytknklmemadediaa
