/- What ModeNeeds computes: true. Conditions: none. -/
import Derived.Test.YtndjohbbaplekaaGreatVRefN
import Derived.Test.YtndjohbbaplekaaGreatVBookP
import Derived.Test.YtndjohbbaplekaaGreatVBookLLocks
set_option linter.unusedSimpArgs false
set_option linter.unusedVariables false
namespace Go.Proofs.YtndjohbbaplekaaGreatV
open Go.Sh Go.Proofs.YtndjohbbaplekaaGreatV.Mi
set_option maxRecDepth 100000
section
variable {w w' : World} {Q : Value → World → Prop}
theorem im_koM {A : Nat} {p : Obj → Bool} {m : Nat} {l : List (Pt Int)} (h : IM w m l) (k : KO A p w w') (h1 : ∀ cs, p (.cells cs 95) = false) (h2 : ∀ cs, p (.cells cs 201) = false) : IM w' m l := by
  obtain ⟨sl, a, b, c⟩ := h
  exact ⟨sl, k.blk a (h1 _), k.own b h2, c⟩
/-- The state between two rounds. -/
structure NS (w0 : World) (B : Nat) (w : World) (b m : Nat) (vr : Value) (lm : List (Pt Int)) (f : Nat → Value) (ps qs : List (Value × List I3)) : Prop where
  bk : BkC Bk.tBk w b f
  Bb : B ≤ b
  ks : BkLocks.KsX w B f ps qs
  nf : ∀ o, o < 30 → o ∉ [8, 9] → f o = .slice none 0 0
  im : IM w m lm
  rm : RM w B vr lm
  kp : Keep (fun g => B ≤ g) w0 w
  Bw : B ≤ siz w
variable {w0 : World} {B b m : Nat} {vr : Value} {lm : List (Pt Int)} {f f' : Nat → Value} {ps qs ps' qs' : List (Value × List I3)}
theorem NS.k0 (h : NS w0 B w b m vr lm f ps qs) (k : K0 w w') : NS w0 B w' b m vr lm f ps qs where
  bk := h.bk.keep k id
  Bb := h.Bb
  ks := h.ks.keep0 k
  nf := h.nf
  im := h.im.keep0 k
  rm := RM.keep0 h.rm k
  kp := h.kp.trans k.none
  Bw := Nat.le_trans h.Bw k.size
theorem NS.add (h : NS w0 B w b m vr lm f ps qs) (hb : BkC Bk.tBk w' b f') (hne : ∀ o, o ≠ 8 → o ≠ 9 → f' o = f o) (hks : BkLocks.KsX w' B f' ps' qs') (k : KO B (tys [Bk.tBk, 109]) w w') : NS w0 B w' b m vr lm f' ps' qs' where
  bk := hb
  Bb := h.Bb
  ks := hks
  nf := fun o ho hn => by
    rw [hne o (fun e => hn (by simp [e])) (fun e => hn (by simp [e]))]
    exact h.nf o ho hn
  im := im_koM h.im k (fun _ => rfl) (fun _ => rfl)
  rm := k.own h.rm fun _ => rfl
  kp := h.kp.trans (k.below (Nat.le_refl _))
  Bw := Nat.le_trans h.Bw k.size
theorem needs_law {va vb : Value} {h l : List I3} (hh : Rd 3 w va h.length (flat enc3 h)) (_ : h.length ≤ maxLen) (_ : ∀ s ∈ h, good3 s) (hl : Rd 3 w vb l.length (flat enc3 l)) (_ : l.length ≤ maxLen) (_ : ∀ s ∈ l, good3 s)
    (hq : ∀ w', Keep (fun b => siz w ≤ b) w w' → Q (.bool true) w') : callS Tryz.prog 6 #[va, vb] Q w := by
  refine ref6 ?_
  unfold S6
  obtain ⟨pa, ca, rfl⟩ := hh.form
  obtain ⟨pb, cb, rfl⟩ := hl.form
  by_cases hb1 : (40 : Int) < (h.length : Int)
  · simp only [stp, Nat.reduceAdd, Int.reduceLT, Int.reduceLE, Int.reduceEq, Int.reduceNe, ne_eq, bne_self_eq_false, beq_self_eq_true, hb1]; exact alive_c hq
  by_cases hb2 : (40 : Int) < (l.length : Int)
  · simp only [stp, Nat.reduceAdd, Int.reduceLT, Int.reduceLE, Int.reduceEq, Int.reduceNe, ne_eq, bne_self_eq_false, beq_self_eq_true, hb1, hb2]; exact alive_c hq
  simp only [stp, Nat.reduceAdd, Int.reduceLT, Int.reduceLE, Int.reduceEq, Int.reduceNe, ne_eq, bne_self_eq_false, beq_self_eq_true, hb1, hb2]
  rw [show w.alloc (.cells #[Value.slice none 0 0, Value.slice none 0 0, Value.slice none 0 0, Value.slice none 0 0, Value.slice none 0 0, Value.slice none 0 0, Value.slice none 0 0, Value.slice none 0 0, Value.slice none 0 0, Value.slice none 0 0, Value.slice none 0 0, Value.slice none 0 0, Value.slice none 0 0, Value.slice none 0 0, Value.slice none 0 0, Value.slice none 0 0, Value.slice none 0 0, Value.slice none 0 0, Value.slice none 0 0, Value.slice none 0 0, Value.slice none 0 0, Value.slice none 0 0, Value.slice none 0 0, Value.slice none 0 0, Value.slice none 0 0, Value.slice none 0 0, Value.slice none 0 0, Value.slice none 0 0, Value.slice none 0 0, Value.slice none 0 0] Bk.tBk) = w.alloc (.cells ((List.range 30).map fun _ => Value.slice none 0 0).toArray Bk.tBk) from rfl]
  have kb := (K0.refl w).alloc (.cells ((List.range 30).map fun _ => Value.slice none 0 0).toArray Bk.tBk)
  have bb : BkC Bk.tBk (w.alloc (.cells ((List.range 30).map fun _ => Value.slice none 0 0).toArray Bk.tBk)) (siz w) (fun _ => .slice none 0 0) := blk_alloc_new
  have sb : siz (w.alloc (.cells ((List.range 30).map fun _ => Value.slice none 0 0).toArray Bk.tBk)) = siz w + 1 := siz_alloc
  generalize w.alloc (.cells ((List.range 30).map fun _ => Value.slice none 0 0).toArray Bk.tBk) = w1 at kb bb sb
  have hlw : ∀ {u : World}, Keep (fun g => siz w ≤ g) w u → Rd 3 u (.slice pb l.length cb) l.length (flat enc3 l) := fun {u} k => hl.keepB k fun g _ hg => hg
  refine held_c (hh.keep0 kb) (by omega) fun w2 m lm vr hm im rm hlm hmd k2 => ?_
  have k2' := k2.old'
  have hs0 : NS w (siz w) w2 (siz w) m vr lm (fun _ => .slice none 0 0) [] [] :=
    { bk := bb.keep k2' id, Bb := Nat.le_refl _, ks := KS.nil _ _ _ _ _ _ _, nf := fun _ _ _ => rfl, im := im, rm := rm.le (by omega), kp := (kb.trans k2').none, Bw := (kb.trans k2').size }
  generalize hbk : siz w = b at hs0
  rw [hbk] at hlw
  simp only [stp, Nat.reduceAdd, Int.reduceLT, Int.reduceLE, Int.reduceEq, Int.reduceNe, ne_eq, bne_self_eq_false, beq_self_eq_true, stm]
  refine lpc1 2 (by omega) (fun i u => ∃ f ps qs, NS w b u b m vr lm f ps qs) ⟨_, _, _, hs0⟩ (fun i u hi ⟨f, ps, qs, hs⟩ J hJ => ?_) (fun u ⟨f, ps, qs, hs⟩ J => ?_)
  · intro _j
    have hi' : ((i : Int) < 2) := by omega
    simp only [stp, Nat.reduceAdd, Int.reduceLT, Int.reduceLE, Int.reduceEq, Int.reduceNe, ne_eq, bne_self_eq_false, beq_self_eq_true, hi']
    refine BkLocks.lent_c (hlw hs.kp) (by omega) fun u1 x lx k1 => ?_
    have hs := hs.k0 k1
    refine mnorm_c lx.rd (by omega) fun u2 va2 la hca hva hla oa k2 => ?_
    have k2 := k2.old'
    have hs2 := hs.k0 k2
    have lx := lx.keep0 k2
    refine needs_c (lh := lm) (.inr ⟨m, rfl, hs2.im⟩) (by omega) lx.rd (by omega) fun u3 vb3 lb hcb hvb _ ob k3 => ?_
    have k3 := k3.old'
    have hs3 := hs2.k0 k3
    have lx := lx.keep0 k3
    have oa3 := oa.keep k3 fun _ _ => id
    have hlb : lb.length ≤ 1000 := by
      have := chg_len hcb (chg_two needF (askF_chg l) chg_canon hvb)
      rw [List.length_append, ends_len, flat2_len] at this
      omega
    have s1 := hs.Bw
    have s2 := k2.size
    have s3 := k3.size
    obtain ⟨p1, c1, e1⟩ := oa3.form
    refine BkLocks.add_c hs3.bk hs3.ks hs3.Bw (xs := asLocks la) (oa3.le s1) (by rw [asLocks_len]; omega) (by rw [e1]; exact one_slice) (fun g hg e => by
      have := (oa.lt hg).1
      have := (hs.ks.lt e).2
      omega) fun u4 f4 ps4 qs4 hb4 hne4 hk4 hs4 k4 => ?_
    have ko4 := BkLocks.addKO hs3.bk hs3.Bb hs3.ks k4
    have hs4' := hs3.add hb4 hne4 hk4 ko4
    have oa4 := ko4.own oa3 fun _ => rfl
    have ob4 := ko4.own ob fun _ => rfl
    have lx4 := lx.ko ko4 fun _ => rfl
    obtain ⟨p2, c2, e2⟩ := ob4.form
    refine BkLocks.add_c hs4'.bk hs4'.ks hs4'.Bw (xs := asLocks lb) (ob4.le (by omega)) (by rw [asLocks_len]; omega) (by rw [e2]; exact one_slice) (fun g hg e => by
      have h1 := (ob.lt hg).1
      have h2 := (ob.lt hg).2
      rcases hs4 g e with h3 | h3 | h3
      · have := (hs.ks.lt h3).2; omega
      · have := (oa.lt h3).2; omega
      · omega) fun u5 f5 ps5 qs5 hb5 hne5 hk5 hs5 k5 => ?_
    have ko5 := BkLocks.addKO hs4'.bk hs4'.Bb hs4'.ks k5
    have hs5' := hs4'.add hb5 hne5 hk5 ko5
    have oa5 := ko5.own oa4 fun _ => rfl
    have ob5 := ko5.own ob4 fun _ => rfl
    have lx5 := lx4.ko ko5 fun _ => rfl
    refine rneeds_c hs5'.rm hs5'.im.canon (by omega) hmd (hlw hs5'.kp) (by omega) fun u6 vn ln hcn hvn hln on k6 => ?_
    have hs6 := hs5'.k0 k6
    have eln : ln = lb := canon_unique _ _ hcn hcb fun x => by rw [hvn, hvb]
    subst eln
    refine rnorm_c (hlw hs6.kp) (by omega) fun u7 vN lN oN hcN hvN hlN k7 => ?_
    have eN : lN = la := canon_unique _ _ hcN hca fun x => by rw [hvN, hva]
    subst eN
    refine rlocks_c oN (by omega) fun u8 vL oL k8 => ?_
    have k58 := (k6.trans k7).trans k8
    refine BkLocks.same_c (a := asLocks lN) (b := asLocks lN) (oa5.keep k58 fun _ _ => id).rd oL.rd (by rw [asLocks_len]; omega) fun u9 k9 => ?_
    have k59 := k58.trans k9
    simp only [stp, Nat.reduceAdd, Int.reduceLT, Int.reduceLE, Int.reduceEq, Int.reduceNe, ne_eq, bne_self_eq_false, beq_self_eq_true, stm, decide_true]
    refine BkLocks.same_c (a := asLocks ln) (b := asLocks ln) (ob5.keep k59 fun _ _ => id).rd (on.keep ((k7.trans k8).trans k9) fun _ _ => id).rd (by rw [asLocks_len]; omega) fun u10 k10 => ?_
    have k510 := k59.trans k10
    obtain ⟨pn, cn, rfl⟩ := on.form
    simp only [stp, Nat.reduceAdd, Int.reduceLT, Int.reduceLE, Int.reduceEq, Int.reduceNe, ne_eq, bne_self_eq_false, beq_self_eq_true, stm, decide_true]
    have hs10 := hs5'.k0 k510
    have lx10 := lx5.keep0 k510
    refine mhas_c (lh := lm) (.inr ⟨m, rfl, hs10.im⟩) (by omega) lx10.rd (by omega) fun u11 r hr k11 => ?_
    have k11 := k11.old'
    have er : r = decide (((asLocks ln).length : Int) = 0) := by
      rw [Bool.eq_iff_iff, hr, decide_eq_true_eq, asLocks_len]
      constructor
      · intro h0
        have : ln = [] := canon_unique _ _ hcn Canon.nil fun x => by rw [hvn]; exact h0 x
        rw [this]; rfl
      · intro h0 x
        have : ln = [] := List.length_eq_zero_iff.1 (by omega)
        have h1 := hvn x
        rw [this] at h1
        exact h1.symm
    subst er
    simp only [stp, Nat.reduceAdd, Int.reduceLT, Int.reduceLE, Int.reduceEq, Int.reduceNe, ne_eq, bne_self_eq_false, beq_self_eq_true, stm, bne_self_eq_false]
    have hs11 := hs10.k0 k11
    refine BkLocks.stays_c (lx10.keep0 k11) (hlw hs11.kp) (by omega) fun u12 k12 => ?_
    simp only [stp, Nat.reduceAdd, Int.reduceLT, Int.reduceLE, Int.reduceEq, Int.reduceNe, ne_eq, bne_self_eq_false, beq_self_eq_true, stm]
    exact hJ _ ⟨_, _, _, hs11.k0 k12⟩
  · intro _j
    have hi' : ¬ (((2 : Nat) : Int) < 2) := by omega
    simp only [stp, Nat.reduceAdd, Int.reduceLT, Int.reduceLE, Int.reduceEq, Int.reduceNe, ne_eq, bne_self_eq_false, beq_self_eq_true, hi']
    refine alive_c fun u1 k1 => ?_
    have hs := hs.k0 (k1.old')
    simp only [stp, Nat.reduceAdd, Int.reduceLT, Int.reduceLE, Int.reduceEq, Int.reduceNe, ne_eq, bne_self_eq_false, beq_self_eq_true, stm]
    refine Bk.apart_c hs.bk hs.Bw hs.nf hs.ks fun u2 k2 => ?_
    try simp only [stp, Nat.reduceAdd, Int.reduceLT, Int.reduceLE, Int.reduceEq, Int.reduceNe, ne_eq, bne_self_eq_false, beq_self_eq_true, stm]
    refine hq _ ?_
    rw [hbk]
    exact hs.kp.trans k2
end
end Go.Proofs.YtndjohbbaplekaaGreatV
