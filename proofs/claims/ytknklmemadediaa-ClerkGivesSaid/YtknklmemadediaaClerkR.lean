/- Locks that are asked for one after the other, till all are granted. Conditions: as each says. -/
import Derived.Test.YtknklmemadediaaRefJ
set_option linter.unusedSimpArgs false
set_option linter.unusedVariables false
namespace Go.Proofs.Ytknklmemadediaa
open Go.Sh Go.Proofs.Ytknklmemadediaa.Mi
set_option maxRecDepth 100000
theorem canon_drop {l : List (Pt Int)} (h : Canon l) (n : Nat) : Canon (l.drop n) := ⟨fun p hp => h.1 p (List.mem_of_mem_drop hp), h.2.sublist (List.drop_sublist _ _)⟩
theorem take_none_drop {N : List (Pt Int)} (h : Apart N) {k : Nat} {x v : Int} (hx : valB (N.take k) x = some v) : valB (N.drop k) x = none := by
  obtain ⟨p, hp, h1, _⟩ := valB_some hx
  refine valB_none.2 fun q hq h2 => ?_
  have : (N.take k ++ N.drop k).Pairwise (fun p q => ∀ x, ¬ (hasB p.1 x ∧ hasB q.1 x)) := by rw [List.take_append_drop]; exact h.2
  exact (List.pairwise_append.1 this).2.2 p hp q hq x ⟨h1, h2⟩
theorem val_split (N : List (Pt Int)) (k : Nat) (x : Int) : valB N x = (valB (N.take k) x).or (valB (N.drop k) x) := by rw [← valB_append, List.take_append_drop]
/-- Raised by the next part. -/
theorem raise_next {N : List (Pt Int)} (hc : Canon N) (hm : okM N) {k : Nat} (hk : k < N.length) (x : Int) : raiseB (valB (N.take k)) (askF [(N[k].1.1, N[k].1.2, N[k].2)]) x = valB (N.take (k + 1)) x := by
  obtain ⟨t1, t2⟩ := take_val hc.apart hk x
  have hmk := hm _ (List.getElem_mem hk)
  unfold raiseB
  rw [ask_one hmk, val1, t1]
  have e : hasB (N[k].1.1, N[k].1.2) x ↔ hasB N[k].1 x := Iff.rfl
  by_cases hx : hasB N[k].1 x
  · simp only [if_pos (e.2 hx), if_pos hx, t2 hx]
  · simp only [if_neg (fun h => hx (e.1 h)), if_neg hx]
/-- What is needed behind k parts. -/
theorem need_drop {N : List (Pt Int)} (hc : Canon N) (hm : okM N) (k : Nat) (x : Int) : needF (valB N x) (valB (N.take k) x) = valB (N.drop k) x := by
  cases ht : valB (N.take k) x with
  | none => rw [needF_none, val_split N k, ht]; rfl
  | some v =>
    rw [val_split N k, ht]
    have hd := take_none_drop hc.apart ht
    rw [hd]
    obtain ⟨p, hp, _, rfl⟩ := valB_some ht
    have := hm p (List.mem_of_mem_take hp)
    show needF (some p.2) (some p.2) = none
    rw [needF_some, if_pos ⟨by unfold isMd; omega, by unfold isMd; omega, Int.le_refl _⟩]
structure Rnd (w : World) (B c : Nat) (s : CS) (N : List (Pt Int)) (k : Nat) (v : Value) : Prop where
  cl : CL w B c s
  e5 : s.epoch = 3
  e1 : s.gen = 1
  ew : s.lw = N
  hc : Canon N
  hm : okM N
  hd : Bd 4096 N
  eu : s.lu = []
  eo : s.lo = []
  eg : s.grants = k
  eh : ∀ x, valB s.lh x = valB (N.take k) x
  v : (∃ (_ : k < N.length) (g : Nat) (lv : Value), s.out = true ∧ s.id = k + 1 ∧ v = .slice (some ⟨g, 0, none⟩) 1 1 ∧ blk w g = some (.cells #[.int .i64 5, .int .i64 ((k + 1 : Nat) : Int), .int .i64 0, .int .i64 1, .int .i64 0, .int .u64 3, .int .i64 0, lv] 39) ∧ TRd w B 25 3 lv 1 (enc3 (N[k].1.1, N[k].1.2, N[k].2))) ∨ (k = N.length ∧ v = .slice none 0 0 ∧ s.id ≤ k)
section
variable {w w' : World} {Q : Value → World → Prop} {B c : Nat} {s : CS} {N : List (Pt Int)} {k : Nat} {v : Value}
/-- The first of them is asked for. -/
theorem first_c {vl : Value} {L : List I3} (h : CL w B c s) (hB : B ≤ siz w) (e5 : s.epoch = 3) (e1 : s.gen = 1) (eh : s.lh = []) (eu : s.lu = []) (eo : s.lo = []) (eid : s.id = 0) (eout : s.out = false) (egr : s.grants = 0)
    (hL : Rd 3 w vl L.length (flat enc3 L)) (hlen : L.length ≤ 5000) (hd : ∀ k ∈ L, k.2.1 ≤ 4096)
    (hq : ∀ w' s' N v, Rnd w' B c s' N 0 v → (∀ x, valB N x = askF L x) → N.length ≤ 2 * L.length → KO B cp w w' → Q (.tuple #[v, .bool (decide (N = []))]) w') :
    callS Try.prog 13 #[.pointer (some ⟨c, 0, none⟩), vl] Q w := by
  have hlenN : ∀ N : List (Pt Int), Canon N → (∀ x, valB N x = askF L x) → N.length ≤ 2 * L.length := fun N hcN hvN => by
    have := chg_len hcN (E := ends L) (by rw [show valB N = askF L from funext hvN]; exact askF_chg _)
    rwa [ends_len] at this
  refine cwant_c h hB (by omega) (by rw [e5]; decide) hL hlen hd (fun w1 N hcN hmN hvN hall h1 k1 => ?_) (fun w1 N hcN hmN hvN hall ho => by rw [eout] at ho; cases ho) (fun w1 N v lv l' hcN hmN hvN ho hc' hv' hm' hl m1 t1 h1 k1 => ?_)
  · have hN : N = [] := canon_unique _ _ hcN Canon.nil fun x => by
      rw [hvN]
      have := hall x
      rw [eh] at this
      exact (needF_none _).symm.trans this
    subst hN
    have := hq w1 _ [] (.slice none 0 0) ⟨h1, e5, e1, rfl, hcN, hmN, Bd.nil _, eu, eo, egr, fun x => by show valB s.lh x = _; rw [eh]; rfl, .inr ⟨rfl, rfl, by show s.id ≤ 0; omega⟩⟩ hvN (by simp) k1
    simpa using this
  · have hl' : l' = N := canon_unique _ _ hc' hcN fun x => by rw [hv', eh, hvN]; exact needF_none _
    subst hl'
    obtain ⟨g, rfl, bm⟩ := m1
    unfold msgC at bm
    rw [eid, e1, e5] at bm
    have hdN : Bd 4096 l' := bd_of_val hcN fun x hx => by rw [hvN]; exact askF_bd hd hx
    have hne : decide (l' = []) = false := decide_eq_false fun e => by rw [e] at hl; cases hl
    have := hq w1 _ l' (.slice (some ⟨g, 0, none⟩) 1 1) ⟨h1, e5, e1, rfl, hcN, hmN, hdN, eu, eo, egr, fun x => by show valB s.lh x = _; rw [eh]; rfl, .inl ⟨hl, g, lv, rfl, by show s.id + 1 = 0 + 1; omega, rfl, bm, t1⟩⟩ hvN (hlenN _ hcN hvN) k1
    rw [hne] at this
    exact this
/-- The next one is granted. -/
theorem next_c {g : Nat} {lv : Value} (h : Rnd w B c s N k v) (hB : B ≤ siz w) (hk : k < N.length) (hv : v = .slice (some ⟨g, 0, none⟩) 1 1) (hb : blk w g = some (.cells #[.int .i64 5, .int .i64 ((k + 1 : Nat) : Int), .int .i64 0, .int .i64 1, .int .i64 0, .int .u64 3, .int .i64 0, lv] 39)) (hN : N.length ≤ 4096)
    (hq : ∀ w' s' v', Rnd w' B c s' N (k + 1) v' → KO B cp w w' → Q (.tuple #[v', .bool true]) w') :
    callS Try.prog 15 #[.pointer (some ⟨c, 0, none⟩), .agg #[.int .i64 6, .int .i64 ((k + 1 : Nat) : Int), .int .i64 0, .int .i64 1, .int .i64 0, .int .u64 3, .int .i64 0, lv]] Q w := by
  obtain ⟨hcl, e5, e1, ew, hc, hm, hd, eu, eo, eg, eh, hvv⟩ := h
  rcases hvv with ⟨_, g', lv', hout, hid, e, hb', ht⟩ | ⟨hk', _, _⟩
  rotate_left
  · omega
  rw [hv] at e
  injection e with e _ _
  injection e with e
  injection e with e _ _
  subst e
  rw [hb] at hb'
  injection hb' with hb'
  injection hb' with hb'
  simp only [Array.mk.injEq, List.cons.injEq, and_true, true_and] at hb'
  subst hb'
  have hmk := hm _ (List.getElem_mem hk)
  have hdk : ∀ q ∈ ([(N[k].1.1, N[k].1.2, N[k].2)] : List I3), q.2.1 ≤ 4096 := by
    intro q hq; simp at hq; subst hq; exact hd _ (List.getElem_mem hk)
  have hone : Go.Sh.one lv = true := by obtain ⟨_, _, rfl⟩ := ht.1.form; exact one_slice
  refine ctake_e hcl e5.symm hB (by rw [e5]; decide) (by rw [e1]; decide) hone (.inl ⟨rfl, rfl⟩) fun w1 k1 => ?_
  have h1 := hcl.keep0 k1
  have t1 := ht.keep0 k1
  have kk1 : KO B cp w w1 := KO.of0 k1
  have hlo : ∀ g, lv.ownBlock = some g → ¬ g = c := fun g hg e => by
    obtain ⟨_, cs, hcs⟩ := t1.2 g hg
    obtain ⟨cs', hcs'⟩ := h1.ty
    exact ne_of_ty hcs hcs' (by decide) e
  have hraise : ∀ lh : List (Pt Int), (∀ x, valB lh x = raiseB (valB s.lh) (askF [(N[k].1.1, N[k].1.2, N[k].2)]) x) → ∀ x, valB lh x = valB (N.take (k + 1)) x := fun lh h x => by
    rw [h, show valB s.lh = valB (N.take k) from funext eh, raise_next hc hm hk]
  refine cgrant_c (L := [(N[k].1.1, N[k].1.2, N[k].2)]) h1 (Nat.le_trans hB kk1.size) (by omega) (by omega) hone t1.1 hlo (by simp) hdk (fun hor w2 lh lo hlh hlo2 h2 k2 => ?_) (fun _ hi w2 lh hlh hnd h2 k2 => ?_) (fun _ hi w2 lh v2 lv2 l2 hlh hc2 hv2 hm2 hl2 m2 t2 h2 k2 => ?_)
  · exfalso
    rcases hor with h' | h'
    · rw [hout] at h'; cases h'
    · exact h' (by rw [hid])
  · have hev := hraise lh hlh
    have hend : k + 1 = N.length := by
      rcases Nat.lt_or_ge (k + 1) N.length with hlt | hge
      · have := hnd N[k + 1].1.1
        rw [ew, show valB lh = valB (N.take (k + 1)) from funext hev, need_drop hc hm] at this
        have ho := (hc.1 _ (List.getElem_mem hlt))
        have hmem : N[k + 1] ∈ N.drop (k + 1) := List.mem_iff_getElem.2 ⟨0, by rw [List.length_drop]; omega, by rw [List.getElem_drop]⟩
        rw [valB_mem (canon_drop hc _).apart hmem ⟨ho, Int.le_refl _, ho.2⟩] at this
        cases this
      · omega
    exact hq _ _ _ ⟨h2, e5, e1, ew, hc, hm, hd, eu, eo, by show s.grants + 1 = k + 1; omega, hev, .inr ⟨hend, rfl, by show s.id ≤ k + 1; omega⟩⟩ (kk1.trans k2)
  · have hev := hraise lh hlh
    have hl2' : l2 = N.drop (k + 1) := canon_unique _ _ hc2 (canon_drop hc _) fun x => by
      rw [hv2, ew, show valB lh = valB (N.take (k + 1)) from funext hev, need_drop hc hm]
    subst hl2'
    have hlt : k + 1 < N.length := by rw [List.length_drop] at hl2; omega
    obtain ⟨g2, rfl, bm2⟩ := m2
    unfold msgC at bm2
    rw [hid, e1, e5] at bm2
    have e0 : (N.drop (k + 1))[0] = N[k + 1] := by rw [List.getElem_drop]
    rw [e0] at t2
    exact hq _ _ _ ⟨h2, e5, e1, ew, hc, hm, hd, eu, eo, by show s.grants + 1 = k + 1; omega, hev, .inl ⟨hlt, g2, lv2, rfl, by show s.id + 1 = k + 1 + 1; omega, rfl, bm2, t2⟩⟩ (kk1.trans k2)
end
end Go.Proofs.Ytknklmemadediaa
