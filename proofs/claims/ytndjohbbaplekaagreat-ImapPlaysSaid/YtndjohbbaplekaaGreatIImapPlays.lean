/- What ImapPlays computes: true. Conditions: none. -/
import Derived.Test.YtndjohbbaplekaaGreatIImapR
import Derived.Test.YtndjohbbaplekaaGreatIBookP
import Derived.Test.YtndjohbbaplekaaGreatIBlkX
set_option linter.unusedSimpArgs false
set_option linter.unusedVariables false
namespace Go.Proofs.YtndjohbbaplekaaGreatI
open Go.Sh Go.Proofs.YtndjohbbaplekaaGreatI.Mi
set_option maxRecDepth 100000
section
variable {w w' : World} {Q : Value → World → Prop}
theorem im_koM {A : Nat} {p : Obj → Bool} {m : Nat} {l : List (Pt Int)} (h : IM w m l) (k : KO A p w w') (h1 : ∀ cs, p (.cells cs 95) = false) (h2 : ∀ cs, p (.cells cs 201) = false) : IM w' m l := by
  obtain ⟨sl, a, b, c⟩ := h
  exact ⟨sl, k.blk a (h1 _), k.own b h2, c⟩
theorem im_kd {B m : Nat} {l : List (Pt Int)} (h : IM w m l) (hB : B ≤ m) (k : Keep (fun b => b = m) w w') : KO B (tys [95]) w w' := KO.ofB k fun b e => by
  subst e
  obtain ⟨sl, a, _, _⟩ := h
  exact ⟨hB, _, a, rfl⟩
theorem mem_val {l : List (Pt Int)} {p : Pt Int} (hc : Canon l) (hp : p ∈ l) : valB l p.1.1 = some p.2 := valB_mem hc.apart hp ⟨hc.1 p hp, Int.le_refl _, (hc.1 p hp).2⟩
/-- A map's blocks lie below a bound. -/
def Und (l : List (Pt Int)) : Prop := ∀ x, valB l x ≠ none → x < 9223372036854775807
theorem Und.le {l : List (Pt Int)} (h : Und l) (hc : Canon l) : ∀ p ∈ l, p.1.2 ≤ 9223372036854775807 := fun p hp => by
  have ho := hc.1 p hp
  have h2 := ho.2
  have := h (p.1.2 - 1) (by rw [valB_mem hc.apart hp ⟨ho, by omega, by omega⟩]; simp)
  omega
def ChN (l : List (Pt Int)) (n : Nat) : Prop := ∃ E, Chg (valB l) E ∧ E.length ≤ n
theorem ChN.len {n : Nat} {l : List (Pt Int)} (h : ChN l n) (hc : Canon l) : l.length ≤ n := by
  obtain ⟨E, h1, h2⟩ := h
  exact Nat.le_trans (chg_len hc h1) h2
theorem ChN.upd {n : Nat} {s : Sp} {g : Option Int → Option Int} {l l' : List (Pt Int)} (h : ChN l n) (hv : ∀ x, valB l' x = if hasB s x then g (valB l x) else valB l x) : ChN l' (n + 2) := by
  obtain ⟨E, h1, h2⟩ := h
  exact ⟨_, chg_upd (s := s) (g := g) h1 hv, by simp; omega⟩
/-- The state between two calls. -/
structure PI (w0 : World) (B : Nat) (w : World) (b m : Nat) (vr : Value) (lm : List (Pt Int)) (f : Nat → Value) (pS qS : List (Value × List (Int × Int))) (pP qP : List (Value × List (Pt Int))) : Prop where
  bk : BkC Bk.tBk w b f
  Bb : B ≤ b
  kS : BkSpans.KsX w B f pS qS
  kP : BkParts.KsX w B f pP qP
  nf : ∀ o, o < 30 → o ∉ [6, 7, 24, 25] → f o = .slice none 0 0
  im : IM w m lm
  Bm : B ≤ m
  rm : RM w B vr lm
  kp : Keep (fun g => B ≤ g) w0 w
  Bw : B ≤ siz w
variable {w0 : World} {B b m : Nat} {vr vr' : Value} {lm lm' : List (Pt Int)} {f f' : Nat → Value} {pS qS pS' qS' : List (Value × List (Int × Int))} {pP qP pP' qP' : List (Value × List (Pt Int))}
theorem PI.k0 (h : PI w0 B w b m vr lm f pS qS pP qP) (k : K0 w w') : PI w0 B w' b m vr lm f pS qS pP qP where
  bk := h.bk.keep k id
  Bb := h.Bb
  kS := h.kS.keep0 k
  kP := h.kP.keep0 k
  nf := h.nf
  im := h.im.keep0 k
  Bm := h.Bm
  rm := RM.keep0 h.rm k
  kp := h.kp.trans k.none
  Bw := Nat.le_trans h.Bw k.size
theorem PI.turn (h : PI w0 B w b m vr lm f pS qS pP qP) (im : IM w' m lm') (rm : RM w' B vr' lm') (k : KO B (tys [95]) w w') : PI w0 B w' b m vr' lm' f pS qS pP qP where
  bk := h.bk.ko k fun _ => rfl
  Bb := h.Bb
  kS := h.kS.ko k (fun _ => rfl) (fun _ => rfl)
  kP := h.kP.ko k (fun _ => rfl) (fun _ => rfl)
  nf := h.nf
  im := im
  Bm := h.Bm
  rm := rm
  kp := h.kp.trans (k.below (Nat.le_refl _))
  Bw := Nat.le_trans h.Bw k.size
theorem PI.addS (h : PI w0 B w b m vr lm f pS qS pP qP) (hb : BkC Bk.tBk w' b f') (hne : ∀ o, o ≠ 6 → o ≠ 7 → f' o = f o) (hks : BkSpans.KsX w' B f' pS' qS') (k : KO B (tys [Bk.tBk, 70]) w w') : PI w0 B w' b m vr lm f' pS' qS' pP qP where
  bk := hb
  Bb := h.Bb
  kS := hks
  kP := by
    have := h.kP.ko k (fun _ => rfl) (fun _ => rfl)
    unfold BkParts.KsX
    rw [hne 24 (by decide) (by decide), hne 25 (by decide) (by decide)]; exact this
  nf := fun o ho hn => by
    rw [hne o (fun e => hn (by simp [e])) (fun e => hn (by simp [e]))]
    exact h.nf o ho hn
  im := im_koM h.im k (fun _ => rfl) (fun _ => rfl)
  Bm := h.Bm
  rm := k.own h.rm fun _ => rfl
  kp := h.kp.trans (k.below (Nat.le_refl _))
  Bw := Nat.le_trans h.Bw k.size
theorem PI.addP (h : PI w0 B w b m vr lm f pS qS pP qP) (hb : BkC Bk.tBk w' b f') (hne : ∀ o, o ≠ 24 → o ≠ 25 → f' o = f o) (hks : BkParts.KsX w' B f' pP' qP') (k : KO B (tys [Bk.tBk, 93]) w w') : PI w0 B w' b m vr lm f' pS qS pP' qP' where
  bk := hb
  Bb := h.Bb
  kP := hks
  kS := by
    have := h.kS.ko k (fun _ => rfl) (fun _ => rfl)
    unfold BkSpans.KsX
    rw [hne 6 (by decide) (by decide), hne 7 (by decide) (by decide)]; exact this
  nf := fun o ho hn => by
    rw [hne o (fun e => hn (by simp [e])) (fun e => hn (by simp [e]))]
    exact h.nf o ho hn
  im := im_koM h.im k (fun _ => rfl) (fun _ => rfl)
  Bm := h.Bm
  rm := k.own h.rm fun _ => rfl
  kp := h.kp.trans (k.below (Nat.le_refl _))
  Bw := Nat.le_trans h.Bw k.size
theorem get_d {m : Nat} {l : List (Pt Int)} {x : Int} (hm : IM w m l) (hl : l.length ≤ 1000000) (hq : ∀ w', Keep (fun _ => False) w w' → Q (.tuple #[.int .i64 ((valB l x).getD 0), .bool (valB l x).isSome]) w') :
    callS Tryz.prog 57 #[.pointer (some ⟨m, 0, none⟩), .int .i64 x] Q w := by
  refine Mi.get_c hm hl fun w' k => ?_
  have := hq w' k
  cases h : valB l x with
  | none => rw [h] at this; exact this
  | some v => rw [h] at this; exact this
theorem op5_at {b o : Nat} {L : List I5} (hc : ∀ j, j < L.length * 5 → Sh.cel w b (o + j) = (flat enc5 L)[j]?) {i : Nat} {p : I5} (h : L[i]? = some p) :
    Sh.cel w b (o + i * 5) = some (.int .i64 p.1) ∧ Sh.cel w b (o + i * 5 + 1) = some (.int .i64 p.2.1) ∧ Sh.cel w b (o + i * 5 + 2) = some (.int .i64 p.2.2.1) ∧ Sh.cel w b (o + i * 5 + 3) = some (.int .i64 p.2.2.2.1) ∧ Sh.cel w b (o + i * 5 + 4) = some (.int .i64 p.2.2.2.2) := by
  have hi := (List.getElem?_eq_some_iff.1 h).1
  refine ⟨?_, ?_, ?_, ?_, ?_⟩
  · rw [hc _ (by omega)]; exact flat_get (enc := enc5) enc5_len h (j := 0) (by omega)
  · rw [Nat.add_assoc, hc _ (by omega)]; exact flat_get (enc := enc5) enc5_len h (j := 1) (by omega)
  · rw [Nat.add_assoc, hc _ (by omega)]; exact flat_get (enc := enc5) enc5_len h (j := 2) (by omega)
  · rw [Nat.add_assoc, hc _ (by omega)]; exact flat_get (enc := enc5) enc5_len h (j := 3) (by omega)
  · rw [Nat.add_assoc, hc _ (by omega)]; exact flat_get (enc := enc5) enc5_len h (j := 4) (by omega)
theorem plays_law {zero : Bool} {v : Value} {l : List I5} {x : Int} (hL : Rd 5 w v l.length (flat enc5 l)) (_ : l.length ≤ maxLen) (hg : ∀ s ∈ l, good5 s) (_ : (Lit.int .i64 x).wf = true)
    (hq : ∀ w', Keep (fun b => siz w ≤ b) w w' → Q (.bool true) w') : callS Tryz.prog 5 #[.bool zero, v, .int .i64 x] Q w := by
  refine ref5 ?_
  unfold S5
  obtain ⟨pa, ca, rfl⟩ := hL.form
  by_cases hbig : (80 : Int) < (l.length : Int)
  · simp only [stp, Nat.reduceAdd, Int.reduceLT, Int.reduceLE, Int.reduceEq, Int.reduceNe, ne_eq, bne_self_eq_false, beq_self_eq_true, hbig]
    exact Mi.alive_c fun w' k => hq _ k.none
  simp only [stp, Nat.reduceAdd, Int.reduceLT, Int.reduceLE, Int.reduceEq, Int.reduceNe, ne_eq, bne_self_eq_false, beq_self_eq_true, hbig]
  refine Mi.new_c fun w1 h1 k1 => ?_
  refine jn1 (fun x w' => ∃ m, x = .pointer (some ⟨m, 0, none⟩) ∧ IM w' m [] ∧ siz w ≤ m ∧ K0 w w') (fun J hJ => ?_) ?_
  · cases zero
    · simp only [stp, Nat.reduceAdd, Int.reduceLT, Int.reduceLE, Int.reduceEq, Int.reduceNe, ne_eq, bne_self_eq_false, beq_self_eq_true, stm]
      exact hJ _ _ ⟨_, rfl, h1, Nat.le_refl _, k1⟩
    · simp only [stp, Nat.reduceAdd, Int.reduceLT, Int.reduceLE, Int.reduceEq, Int.reduceNe, ne_eq, bne_self_eq_false, beq_self_eq_true, stm]
      have kz := (K0.refl w1).alloc (.cells #[.slice none 0 0] 95)
      exact hJ _ _ ⟨siz w1, rfl, ⟨_, blk_alloc_new, Own.nil _ _ _ _, Canon.nil⟩, k1.size, k1.trans kz⟩
  · rintro y w3 ⟨m, rfl, im3, hm, k3⟩ _j
    simp only [stp, Nat.reduceAdd, Int.reduceLT, Int.reduceLE, Int.reduceEq, Int.reduceNe, ne_eq, bne_self_eq_false, beq_self_eq_true, stm]
    rw [show w3.alloc (.cells #[Value.slice none 0 0, Value.slice none 0 0, Value.slice none 0 0, Value.slice none 0 0, Value.slice none 0 0, Value.slice none 0 0, Value.slice none 0 0, Value.slice none 0 0, Value.slice none 0 0, Value.slice none 0 0, Value.slice none 0 0, Value.slice none 0 0, Value.slice none 0 0, Value.slice none 0 0, Value.slice none 0 0, Value.slice none 0 0, Value.slice none 0 0, Value.slice none 0 0, Value.slice none 0 0, Value.slice none 0 0, Value.slice none 0 0, Value.slice none 0 0, Value.slice none 0 0, Value.slice none 0 0, Value.slice none 0 0, Value.slice none 0 0, Value.slice none 0 0, Value.slice none 0 0, Value.slice none 0 0, Value.slice none 0 0] Bk.tBk) = w3.alloc (.cells ((List.range 30).map fun _ => Value.slice none 0 0).toArray Bk.tBk) from rfl]
    have kb := (K0.refl w3).alloc (.cells ((List.range 30).map fun _ => Value.slice none 0 0).toArray Bk.tBk)
    have bb : BkC Bk.tBk (w3.alloc (.cells ((List.range 30).map fun _ => Value.slice none 0 0).toArray Bk.tBk)) (siz w3) (fun _ => .slice none 0 0) := blk_alloc_new
    generalize w3.alloc (.cells ((List.range 30).map fun _ => Value.slice none 0 0).toArray Bk.tBk) = w4 at kb bb
    have s3 := k3.size
    have hs0 : PI w (siz w) w4 (siz w3) m (.slice none 0 0) [] (fun _ => .slice none 0 0) [] [] [] [] :=
      { bk := bb, Bb := s3, kS := KS.nil _ _ _ _ _ _ _, kP := KS.nil _ _ _ _ _ _ _, nf := fun _ _ _ => rfl, im := im3.keep0 kb, Bm := hm, rm := Own.nil _ _ _ _, kp := (k3.trans kb).none, Bw := (k3.trans kb).size }
    generalize siz w3 = b at hs0
    have hLw : ∀ {u : World}, Keep (fun g => siz w ≤ g) w u → Rd 5 u (.slice pa l.length ca) l.length (flat enc5 l) := fun {u} k => hL.keepB k fun g _ hg => hg
    clear bb kb im3 h1 k1 k3 s3 hm
    refine lpc2 l.length (by omega) (fun i y u => ∃ lm f pS qS pP qP, PI w (siz w) u b m y lm f pS qS pP qP ∧ ChN lm (2 * i) ∧ Und lm) ⟨_, _, _, _, _, _, hs0, ⟨[], fun x hx => absurd rfl hx, Nat.le_refl _⟩, fun x hx => absurd rfl hx⟩
      (fun i y u hi ⟨lm, f, pS, qS, pP, qP, h, hch, hun⟩ J hJ => ?_) (fun y u ⟨lm, f, pS, qS, pP, qP, h, hch, hun⟩ J => ?_)
    · intro _j
      have hi' : ((i : Int) < (l.length : Int)) := by omega
      obtain ⟨g, o, c', e, _, hc⟩ := (hLw h.kp).at (by omega)
      injection e with e1 _ e2
      subst e1 e2
      obtain ⟨p0, p1, p2, p3, p4⟩ := op5_at hc (List.getElem?_eq_getElem hi)
      have hgo := hg _ (List.getElem_mem hi)
      simp only [stp, Nat.reduceAdd, Int.reduceLT, Int.reduceLE, Int.reduceEq, Int.reduceNe, ne_eq, bne_self_eq_false, beq_self_eq_true, hi']
      rw [ix_88 hi]
      simp only [stp, Nat.reduceAdd, Int.reduceLT, Int.reduceLE, Int.reduceEq, Int.reduceNe, ne_eq, bne_self_eq_false, beq_self_eq_true, stm, p0, p1, p2, p3, p4, Option.isSome_some, Option.getD_some]
      generalize l[i] = op at p0 p1 p2 p3 p4 hgo
      obtain ⟨kd, vv, vu, sa, sb⟩ := op
      dsimp only at hgo p0 p1 p2 p3 p4 ⊢
      have hlen := hch.len h.im.canon
      have hcan := h.im.canon
      have ka := (K0.refl u).alloc (.cells #[.int .i64 kd, .int .i64 vv, .int .i64 vu, .int .i64 sa, .int .i64 sb] 97)
      have ob : blk (u.alloc (.cells #[.int .i64 kd, .int .i64 vv, .int .i64 vu, .int .i64 sa, .int .i64 sb] 97)) (siz u) = some (.cells #[.int .i64 kd, .int .i64 vv, .int .i64 vu, .int .i64 sa, .int .i64 sb] 97) := blk_alloc_new
      have h := h.k0 ka
      generalize u.alloc (.cells #[.int .i64 kd, .int .i64 vv, .int .i64 vu, .int .i64 sa, .int .i64 sb] 97) = u at h ob
      generalize siz _ = bo at ob
      have d0 : Sh.cel u bo 0 = some (.int .i64 kd) := cel_b ob 0
      have d1 : Sh.cel u bo 1 = some (.int .i64 vv) := cel_b ob 1
      have d2 : Sh.cel u bo 2 = some (.int .i64 vu) := cel_b ob 2
      have d3 : Sh.cel u bo 3 = some (.int .i64 sa) := cel_b ob 3
      have d4 : Sh.cel u bo 4 = some (.int .i64 sb) := cel_b ob 4
      try simp only [stp, Nat.reduceAdd, Int.reduceLT, Int.reduceLE, Int.reduceEq, Int.reduceNe, ne_eq, bne_self_eq_false, beq_self_eq_true, stm, d3, d4, Option.isSome_some, Option.getD_some]
      refine rvalid_c fun u1 g1 => ?_
      have g1 : K0 u u1 := g1.1
      have h := h.k0 g1
      have ob := g1.blk ob id
      have d0 : Sh.cel u1 bo 0 = some (.int .i64 kd) := cel_b ob 0
      have d1 : Sh.cel u1 bo 1 = some (.int .i64 vv) := cel_b ob 1
      have d2 : Sh.cel u1 bo 2 = some (.int .i64 vu) := cel_b ob 2
      have d3 : Sh.cel u1 bo 3 = some (.int .i64 sa) := cel_b ob 3
      have d4 : Sh.cel u1 bo 4 = some (.int .i64 sb) := cel_b ob 4
      refine jn1 (fun y' u' => ∃ lm', PI w (siz w) u' b m y' lm' f pS qS pP qP ∧ ChN lm' (2 * (i + 1)) ∧ Und lm' ∧ blk u' bo = some (.cells #[.int .i64 kd, .int .i64 vv, .int .i64 vu, .int .i64 sa, .int .i64 sb] 97)) (fun J2 hJ2 => ?_) ?_
      · have hbx : ∀ z, hasB (sa, sb) z → z < 9223372036854775807 := fun z hz => by
          have := hz.2.2
          have := hgo.2.2.2.2.2
          dsimp only at *
          omega
        by_cases e1 : kd = 1
        · simp only [stp, Nat.reduceAdd, Int.reduceLT, Int.reduceLE, Int.reduceEq, Int.reduceNe, ne_eq, bne_self_eq_false, beq_self_eq_true, stm, d0, d1, d2, d3, d4, e1, Option.isSome_some, Option.getD_some]
          refine Mi.set_any h.im (by omega) fun u2 l2 m2 hv2 _ k2 => ?_
          have ko := im_kd h.im h.Bm k2
          have ob2 := ko.blk ob rfl
          have q1 : Sh.cel u2 bo 1 = some (.int .i64 vv) := cel_b ob2 1
          have q3 : Sh.cel u2 bo 3 = some (.int .i64 sa) := cel_b ob2 3
          have q4 : Sh.cel u2 bo 4 = some (.int .i64 sb) := cel_b ob2 4
          simp only [stp, Nat.reduceAdd, Int.reduceLT, Int.reduceLE, Int.reduceEq, Int.reduceNe, ne_eq, bne_self_eq_false, beq_self_eq_true, stm, bne_self_eq_false, q1, q3, q4, Option.isSome_some, Option.getD_some]
          refine rset_c (ko.own h.rm fun _ => rfl) (Nat.le_trans h.Bw ko.size) hcan (by omega) fun u3 v3 l3 o3 hc3 hv3 k3 => ?_
          have e32 : l3 = l2 := canon_unique _ _ hc3 m2.canon fun z => by rw [hv2, hv3]
          subst e32
          refine hJ2 _ _ ⟨l3, h.turn (m2.keep0 k3) o3 (ko.trans (KO.of0 k3)), hch.upd (g := fun _ => some vv) hv3, fun z hz => ?_, k3.blk ob2 id⟩
          rw [hv3] at hz
          by_cases hzs : hasB (sa, sb) z
          · exact hbx z hzs
          · rw [if_neg hzs] at hz; exact hun z hz
        by_cases e2 : kd = 2
        · simp only [stp, Nat.reduceAdd, Int.reduceLT, Int.reduceLE, Int.reduceEq, Int.reduceNe, ne_eq, bne_self_eq_false, beq_self_eq_true, stm, d0, d1, d2, d3, d4, e1, e2, Option.isSome_some, Option.getD_some]
          refine Mi.clear_any h.im (by omega) fun u2 l2 m2 hv2 _ k2 => ?_
          have ko := im_kd h.im h.Bm k2
          have ob2 := ko.blk ob rfl
          have q3 : Sh.cel u2 bo 3 = some (.int .i64 sa) := cel_b ob2 3
          have q4 : Sh.cel u2 bo 4 = some (.int .i64 sb) := cel_b ob2 4
          simp only [stp, Nat.reduceAdd, Int.reduceLT, Int.reduceLE, Int.reduceEq, Int.reduceNe, ne_eq, bne_self_eq_false, beq_self_eq_true, stm, bne_self_eq_false, q3, q4, Option.isSome_some, Option.getD_some]
          refine rclear_c (ko.own h.rm fun _ => rfl) (Nat.le_trans h.Bw ko.size) hcan (by omega) fun u3 v3 l3 o3 hc3 hv3 _ k3 => ?_
          have e32 : l3 = l2 := canon_unique _ _ hc3 m2.canon fun z => by rw [hv2, hv3]
          subst e32
          refine hJ2 _ _ ⟨l3, h.turn (m2.keep0 k3) o3 (ko.trans (KO.of0 k3)), hch.upd (g := fun _ => none) hv3, fun z hz => ?_, k3.blk ob2 id⟩
          rw [hv3] at hz
          by_cases hzs : hasB (sa, sb) z
          · exact hbx z hzs
          · rw [if_neg hzs] at hz; exact hun z hz
        · simp only [stp, Nat.reduceAdd, Int.reduceLT, Int.reduceLE, Int.reduceEq, Int.reduceNe, ne_eq, bne_self_eq_false, beq_self_eq_true, stm, d0, d1, d2, d3, d4, e1, e2, Option.isSome_some, Option.getD_some]
          have hM := hun.le hcan
          refine rparts_c h.rm (by omega) fun u2 v2 o2 k2 => ?_
          have h2 := h.k0 k2
          have ob2 := k2.blk ob id
          have hPl := partsL_len (sa, sb) lm
          have hPc := partsL_canon (s := (sa, sb)) hcan
          have hPM : ∀ p ∈ partsL (sa, sb) lm, p.1.2 ≤ 9223372036854775807 := fun p hp => by
            obtain ⟨r, hr, _, rfl⟩ := partsL_mem hp
            have := hM r hr
            simp only; omega
          have hPv := partsL_val (sa, sb) lm hcan.1
          have hPo : 0 < (partsL (sa, sb) lm).length → ok (sa, sb) := fun hpos => by
            obtain ⟨r, _, hr, _⟩ := partsL_mem (List.getElem_mem hpos)
            exact hr.2.1
          have hsw := @Mi.swap_c
          generalize hPe : partsL (sa, sb) lm = P at o2 hPl hPc hPM hPv hPo
          obtain ⟨pb, cb, rfl⟩ := Own.form o2
          have sumOk : ∀ i, 0 ≤ sumS (withL vv (P.take i)) ∧ sumS (withL vv (P.take i)) ≤ 9223372036854775807 := fun i => by
            have hc : Canon (P.take i) := ⟨fun p hp => hPc.1 p (List.mem_of_mem_take hp), hPc.2.sublist (List.take_sublist _ _)⟩
            have hn := withL_nrm (v := vv) hc
            refine ⟨sumS_nonneg hn.1, sumS_max hn (by omega) fun s hs => ?_⟩
            obtain ⟨p, hp, rfl⟩ := List.mem_map.1 hs
            exact hPM p (List.mem_of_mem_take (List.mem_filter.1 hp).1)
          refine lpc3 P.length (by omega) (fun k y n u' => K0 u2 u' ∧ n = .int .i64 (sumS (withL vv (P.take k))) ∧ ∃ lk, RM u' (siz w) y lk ∧ Canon lk ∧ ∀ z, valB lk z = if valB (P.take k) z = some vv then some vu else valB lm z)
            ⟨K0.refl _, by simp [withL, sumS], lm, h2.rm, hcan, fun z => by simp [valB]⟩ (fun k y n u3 hk ⟨k3, hn, lk, ok3, hck, hvk⟩ J3 hJ3 => ?_) (fun y n u3 ⟨k3, hn, lk, ok3, hck, hvk⟩ J3 => ?_)
          · intro _j
            subst hn
            have hk' : ((k : Int) < (P.length : Int)) := by omega
            have hoks := hPo (by omega)
            have hlk : lk.length ≤ 1000 := by
              have := chg_len hck (chg_two (fun a b => if a = some vv then some vu else b) (f := valB (P.take k)) (g := valB lm) chg_canon chg_canon hvk)
              rw [List.length_append, flat2_len, flat2_len, List.length_take] at this
              omega
            have hsk : P[k]? = some P[k] := List.getElem?_eq_getElem hk
            have hokp := hPc.1 _ (List.getElem_mem hk)
            have hmp := hPM _ (List.getElem_mem hk)
            obtain ⟨gk, rfl, t0, t1, t2⟩ := rpart_at (RM.keep0 o2 k3) hk
            have ob3 := k3.blk ob2 id
            have q1 : Sh.cel u3 bo 1 = some (.int .i64 vv) := cel_b ob3 1
            have q2 : Sh.cel u3 bo 2 = some (.int .i64 vu) := cel_b ob3 2
            have hW : withL vv (P.take (k + 1)) = withL vv (P.take k) ++ (if P[k].2 = vv then [P[k].1] else []) := by
              rw [List.take_add_one, hsk, Option.toList_some, withL_snoc]
            obtain ⟨t3, t4⟩ := And.intro (fun z => (take_val hPc.apart hk z).1) (fun z => (take_val hPc.apart hk z).2)
            have kd := (K0.refl u3).drew
            have s3 := (k2.trans k3).size
            have hBw := h.Bw
            simp only [stp, Nat.reduceAdd, Int.reduceLT, Int.reduceLE, Int.reduceEq, Int.reduceNe, ne_eq, bne_self_eq_false, beq_self_eq_true, hk', hoks, decide_true]
            refine jn2 (fun y' n' u' => K0 u2 u' ∧ n' = .int .i64 (sumS (withL vv (P.take (k + 1)))) ∧ ∃ lk, RM u' (siz w) y' lk ∧ Canon lk ∧ ∀ z, valB lk z = if valB (P.take (k + 1)) z = some vv then some vu else valB lm z) (fun J4 hJ4 => ?_) ?_
            · by_cases hv : P[k].2 = vv
              · rw [if_pos hv] at hW
                have hsum := sumOk (k + 1)
                have hsum0 := sumOk k
                rw [hW, sumS_snoc] at hsum
                have hw2 : IntKind.i64.wrap (IntKind.i64.wrap (sumS (withL vv (P.take k)) + P[k].1.2) - P[k].1.1) = sumS (withL vv (P.take (k + 1))) := by
                  rw [hW, sumS_snoc]
                  have e3 : IntKind.i64.wrap (IntKind.i64.wrap (sumS (withL vv (P.take k)) + P[k].1.2) - P[k].1.1) = IntKind.i64.wrap (sumS (withL vv (P.take k)) + (P[k].1.2 - P[k].1.1)) := by
                    simp only [IntKind.wrap, IntKind.bits, IntKind.signed]
                    simp
                    omega
                  rw [e3, wrap_id (by omega) (by omega)]
                simp only [stp, Nat.reduceAdd, Int.reduceLT, Int.reduceLE, Int.reduceEq, Int.reduceNe, ne_eq, bne_self_eq_false, beq_self_eq_true, stm, cel_drew, ix_92 hk, t0, t1, t2, q1, q2, hv, hw2, Option.isSome_some, Option.getD_some]
                refine rset_c (RM.keep0 ok3 ((kd.drew).drew)) (by show _ ≤ siz u3; omega) hck (by omega) fun u5 v5 l5 o5 hc5 hv5 k5 => ?_
                refine hJ4 _ _ _ ⟨k3.trans (((kd.drew).drew).trans k5), rfl, l5, o5, hc5, fun z => ?_⟩
                rw [hv5, hvk, t3]
                by_cases hz : hasB P[k].1 z
                · have : hasB (P[k].1.1, P[k].1.2) z := hz
                  rw [if_pos this, if_pos hz, hv, if_pos rfl]
                · have : ¬ hasB (P[k].1.1, P[k].1.2) z := hz
                  rw [if_neg this, if_neg hz]
              · rw [if_neg hv, List.append_nil] at hW
                simp only [stp, Nat.reduceAdd, Int.reduceLT, Int.reduceLE, Int.reduceEq, Int.reduceNe, ne_eq, bne_self_eq_false, beq_self_eq_true, stm, cel_drew, ix_92 hk, t0, t1, t2, q1, q2, hv, Option.isSome_some, Option.getD_some]
                refine hJ4 _ _ _ ⟨k3.trans kd, by rw [hW], lk, RM.keep0 ok3 kd, hck, fun z => ?_⟩
                rw [hvk, t3]
                by_cases hz : hasB P[k].1 z
                · rw [if_pos hz, t4 z hz, if_neg (by simp), if_neg (by intro e; injection e with e; exact hv e)]
                · rw [if_neg hz]
            · rintro y' n' u4 ⟨k4, rfl, lk4, o4, hc4, hv4⟩ _j
              try simp only [stp, Nat.reduceAdd, Int.reduceLT, Int.reduceLE, Int.reduceEq, Int.reduceNe, ne_eq, bne_self_eq_false, beq_self_eq_true]
              exact hJ3 _ _ _ ⟨k4, rfl, lk4, o4, hc4, hv4⟩
          · intro _j
            subst hn
            have hk' : ¬ ((P.length : Int) < (P.length : Int)) := by omega
            have h3 := h2.k0 k3
            have ob3 := k3.blk ob2 id
            have q1 : Sh.cel u3 bo 1 = some (.int .i64 vv) := cel_b ob3 1
            have q2 : Sh.cel u3 bo 2 = some (.int .i64 vu) := cel_b ob3 2
            have q3 : Sh.cel u3 bo 3 = some (.int .i64 sa) := cel_b ob3 3
            have q4 : Sh.cel u3 bo 4 = some (.int .i64 sb) := cel_b ob3 4
            rw [List.take_length] at hvk ⊢
            simp only [stp, Nat.reduceAdd, Int.reduceLT, Int.reduceLE, Int.reduceEq, Int.reduceNe, ne_eq, bne_self_eq_false, beq_self_eq_true, stm, hk', q1, q2, q3, q4, Option.isSome_some, Option.getD_some]
            refine hsw h3.im (by omega) hM fun u5 l5 m5 hv5 _ k5 => ?_
            have ko := im_kd h3.im h3.Bm k5
            have e5 : lk = l5 := canon_unique _ _ hck m5.canon fun z => by
              rw [hvk, hv5, hPv]
              by_cases h1 : hasB (sa, sb) z
              · simp [h1]
              · simp [h1]
            subst e5
            rw [hPe]
            simp only [stp, Nat.reduceAdd, Int.reduceLT, Int.reduceLE, Int.reduceEq, Int.reduceNe, ne_eq, bne_self_eq_false, beq_self_eq_true, stm, ne_eq, not_true_eq_false, decide_false, bne_self_eq_false]
            refine hJ2 _ _ ⟨lk, h3.turn m5 (ko.own ok3 fun _ => rfl) ko, hch.upd (g := fun o => if o = some vv then some vu else o) (s := (sa, sb)) fun z => ?_, fun z hz => ?_, ko.blk ob3 rfl⟩
            · rw [hv5]
              by_cases h1 : hasB (sa, sb) z
              · simp [h1]
              · simp [h1]
            · rw [hv5] at hz
              by_cases h1 : hasB (sa, sb) z
              · exact hbx z h1
              · rw [if_neg (fun h => h1 h.1)] at hz; exact hun z hz
      · rintro y2 u2 ⟨lm2, h2, hch2, hun2, ob2⟩ _j
        obtain ⟨pr, cr, hy⟩ := Own.form h2.rm
        subst hy
        have hcan2 := h2.im.canon
        have hlen2 := hch2.len hcan2
        have hPl2 := partsL_len (sa, sb) lm2
        have hWl2 := withL_len vv lm2
        have kd := (K0.refl u2).drew
        have hd := h2.k0 kd
        have obd := kd.blk ob2 id
        refine ⟨fun u => K0 u2.drew u, K0.refl _, ?_⟩
        refine Mi.all_c hd.im (by omega) fun u3 va oa k3 => ⟨k3, ?_⟩
        try simp only [stp, Nat.reduceAdd, Int.reduceLT, Int.reduceLE, Int.reduceEq, Int.reduceNe, ne_eq, bne_self_eq_false, beq_self_eq_true, stm]
        refine hld_of (.agg #[.int .i64 sa, .int .i64 sb]) (fun u hu => rlS (cel_b (hu.blk obd id) 3) (cel_b (hu.blk obd id) 4)) ?_
        refine Mi.parts_c (hd.im.keep0 k3) (by omega) fun u4 vb ob k4 => ⟨k3.trans k4, ?_⟩
        try simp only [stp, Nat.reduceAdd, Int.reduceLT, Int.reduceLE, Int.reduceEq, Int.reduceNe, ne_eq, bne_self_eq_false, beq_self_eq_true, stm]
        refine hld_of (.int .i64 vv) (fun u hu => rl_3 (cel_b (hu.blk obd id) 1)) ?_
        refine Mi.with_c ((hd.im.keep0 k3).keep0 k4) (by omega) fun u5 vc oc k5 => ⟨(k3.trans k4).trans k5, ?_⟩
        have k25 := (k3.trans k4).trans k5
        have h5 := hd.k0 k25
        have ob5 := k25.blk obd id
        have oa5 := oa.keep (k4.trans k5) fun _ _ => id
        have oB5 := ob.keep k5 fun _ _ => id
        have sB := hd.Bw
        have s3 := k3.size
        have s4 := k4.size
        have s5 := k5.size
        obtain ⟨p1, c1, e1⟩ := oa5.form
        obtain ⟨p2, c2, e2⟩ := oB5.form
        obtain ⟨p3, c3, e3⟩ := oc.form
        refine BkParts.add_c h5.bk h5.kP h5.Bw (xs := lm2) (oa5.le sB) (by omega) (by rw [e1]; exact one_slice) (fun g hg e => by
          have := (oa.lt hg).1
          have := (hd.kP.lt e).2
          omega) fun u6 f6 pP6 qP6 hb6 hne6 hk6 hs6 k6 => ?_
        have ko6 := BkParts.addKO h5.bk h5.Bb h5.kP k6
        have h6 := h5.addP hb6 hne6 hk6 ko6
        have oa6 := ko6.own oa5 fun _ => rfl
        have oB6 := ko6.own oB5 fun _ => rfl
        have oc6 := ko6.own oc fun _ => rfl
        have ob6 := ko6.blk ob5 rfl
        refine BkParts.add_c h6.bk h6.kP h6.Bw (xs := partsL (sa, sb) lm2) (oB6.le (by omega)) (by omega) (by rw [e2]; exact one_slice) (fun g hg e => by
          have q1 := (ob.lt hg).1
          have q2 := (ob.lt hg).2
          rcases hs6 g e with q3 | q3 | q3
          · have := (hd.kP.lt q3).2; omega
          · have := (oa.lt q3).2; omega
          · omega) fun u7 f7 pP7 qP7 hb7 hne7 hk7 hs7 k7 => ?_
        have ko7 := BkParts.addKO h6.bk h6.Bb h6.kP k7
        have h7 := h6.addP hb7 hne7 hk7 ko7
        have oa7 := ko7.own oa6 fun _ => rfl
        have oB7 := ko7.own oB6 fun _ => rfl
        have oc7 := ko7.own oc6 fun _ => rfl
        have ob7 := ko7.blk ob6 rfl
        refine BkSpans.add_c h7.bk h7.kS h7.Bw (xs := withL vv lm2) (oc7.le (by omega)) (by omega) (by rw [e3]; exact one_slice) (fun g hg e => by
          have q1 := (oc.lt hg).1
          rw [hne7 6 (by decide) (by decide), hne7 7 (by decide) (by decide), hne6 6 (by decide) (by decide), hne6 7 (by decide) (by decide)] at e
          have := (hd.kS.lt e).2
          omega) fun u8 f8 pS8 qS8 hb8 hne8 hk8 hs8 k8 => ?_
        have ko8 := BkSpans.addKO h7.bk h7.Bb h7.kS k8
        have h8 := h7.addS hb8 hne8 hk8 ko8
        have oa8 := ko8.own oa7 fun _ => rfl
        have oB8 := ko8.own oB7 fun _ => rfl
        have oc8 := ko8.own oc7 fun _ => rfl
        have ob8 := ko8.blk ob7 rfl
        refine get_d (x := x) h8.im (by omega) fun u9 k9 => ?_
        have h9 := h8.k0 k9
        try simp only [stp, Nat.reduceAdd, Int.reduceLT, Int.reduceLE, Int.reduceEq, Int.reduceNe, ne_eq, bne_self_eq_false, beq_self_eq_true, stm]
        refine rget_c (x := x) h9.rm hcan2 (by omega) fun u10 k10 => ?_
        have k10' := k9.trans k10
        have h10 := h8.k0 k10'
        try simp only [stp, Nat.reduceAdd, Int.reduceLT, Int.reduceLE, Int.reduceEq, Int.reduceNe, ne_eq, bne_self_eq_false, beq_self_eq_true, stm]
        refine psame_c (oa8.keep k10' fun _ _ => id).rd h10.rm (by omega) fun u11 k11 => ?_
        have k11' := k10'.trans k11
        have h11 := h8.k0 k11'
        have ob11 := k11'.blk ob8 id
        have q3 : Sh.cel u11 bo 3 = some (.int .i64 sa) := cel_b ob11 3
        have q4 : Sh.cel u11 bo 4 = some (.int .i64 sb) := cel_b ob11 4
        simp only [stp, Nat.reduceAdd, Int.reduceLT, Int.reduceLE, Int.reduceEq, Int.reduceNe, ne_eq, bne_self_eq_false, beq_self_eq_true, stm, q3, q4, Option.isSome_some, Option.getD_some]
        refine rparts_c h11.rm (by omega) fun u12 v12 o12 k12 => ?_
        have k12' := k11'.trans k12
        refine psame_c (oB8.keep k12' fun _ _ => id).rd o12 (by omega) fun u13 k13 => ?_
        have k13' := k12'.trans k13
        have h13 := h8.k0 k13'
        have ob13 := k13'.blk ob8 id
        have q1 : Sh.cel u13 bo 1 = some (.int .i64 vv) := cel_b ob13 1
        simp only [stp, Nat.reduceAdd, Int.reduceLT, Int.reduceLE, Int.reduceEq, Int.reduceNe, ne_eq, bne_self_eq_false, beq_self_eq_true, stm, q1, Option.isSome_some, Option.getD_some]
        refine rwith_c h13.rm (by omega) fun u14 v14 o14 k14 => ?_
        have k14' := k13'.trans k14
        refine BkSpans.same_c (a := withL vv lm2) (b := withL vv lm2) (oc8.keep k14' fun _ _ => id).rd o14.rd (by omega) fun u15 k15 => ?_
        have k15' := k14'.trans k15
        have h15 := h8.k0 k15'
        simp only [stp, Nat.reduceAdd, Int.reduceLT, Int.reduceLE, Int.reduceEq, Int.reduceNe, ne_eq, bne_self_eq_false, beq_self_eq_true, stm, decide_true, ne_eq, not_true_eq_false, decide_false, bne_self_eq_false]
        refine Mi.len_c h15.im ?_
        simp only [stp, Nat.reduceAdd, Int.reduceLT, Int.reduceLE, Int.reduceEq, Int.reduceNe, ne_eq, bne_self_eq_false, beq_self_eq_true, stm, decide_true, ne_eq, not_true_eq_false, decide_false, bne_self_eq_false]
        exact hJ _ _ ⟨_, _, _, _, _, _, h15, hch2, hun2⟩
    · intro _j
      have hi' : ¬ ((l.length : Int) < (l.length : Int)) := by omega
      simp only [stp, Nat.reduceAdd, Int.reduceLT, Int.reduceLE, Int.reduceEq, Int.reduceNe, ne_eq, bne_self_eq_false, beq_self_eq_true, hi']
      refine Mi.alive_c fun u1 k1 => ?_
      have h := h.k0 k1
      simp only [stp, Nat.reduceAdd, Int.reduceLT, Int.reduceLE, Int.reduceEq, Int.reduceNe, ne_eq, bne_self_eq_false, beq_self_eq_true, stm]
      refine Bk.apart_c h.bk h.Bw h.nf h.kS h.kP fun u2 k2 => ?_
      try simp only [stp, Nat.reduceAdd, Int.reduceLT, Int.reduceLE, Int.reduceEq, Int.reduceNe, ne_eq, bne_self_eq_false, beq_self_eq_true, stm]
      exact hq _ (h.kp.trans k2)
end
end Go.Proofs.YtndjohbbaplekaaGreatI
