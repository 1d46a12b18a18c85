/- What TableKeeps computes: true. Conditions: as each says. -/
import Derived.Test.YtiomanikpboclaaTabG
set_option linter.unusedSimpArgs false
set_option linter.unusedVariables false
namespace Go.Proofs.Ytiomanikpboclaa
open Go.Sh Go.Proofs.Ytiomanikpboclaa.Mi
set_option maxRecDepth 100000
section
variable {w w' : World} {Q : Value → World → Prop} {B t : Nat} {s : TS}
/-- A table of which the first node alone holds something, and nobody waits. -/
structure St (s : TS) : Prop where
  n : s.nodes = 2
  ws : s.ws = []
  la : s.last = 0
  no : ∀ o x, o ≠ 1 → bl s o x = none
  md : ∀ x v, bl s 1 x = some v → v = 1 ∨ v = 2
theorem St.raise (h : St s) (p : Pu s) {a b md : Int} (hr : rightL (a, b, md)) : St (s.raise 1 a b md) := by
  have e := fun o x => p.bl_raise (i := 1) (a := a) (b := b) (md := md) (by omega) hr.1.1 hr.2.1 o x
  refine ⟨h.n, h.ws, h.la, fun o x ho => by rw [e, if_neg ho]; exact h.no o x ho, fun x v hv => ?_⟩
  rw [e, if_pos rfl, updM_in hr.1.1] at hv
  have hm : md = 1 ∨ md = 2 := hr.2.2
  split at hv
  · cases hb : bl s 1 x with
    | none =>
      rw [hb] at hv
      have hv : md = v := Option.some.inj hv
      omega
    | some u =>
      rw [hb] at hv
      have hv : max u md = v := Option.some.inj hv
      have := h.md x u hb
      omega
  · exact h.md x v hv
theorem ask_st {a b md : Int} (h : TL w B t s) (hs : St s) (hB : B ≤ siz w) (hq : ∀ v' w' s', St s' → TL w' B t s' → KO B tp w w' → Q v' w') :
    callS Try.prog 10 #[.pointer (some ⟨t, 0, none⟩), .int .i64 1, .agg #[.int .i64 a, .int .i64 b, .int .i64 md]] Q w := by
  have hws := hs.ws
  have hla := hs.la
  have p := h.pu
  have hfree : ∀ {node : Int} {a b md : Int}, node = 1 → freeP s node a b md := fun {node a b md} e => (p.free_nil hws).2 fun x hx hh => by
    obtain ⟨o, _, _, ho, v, hv, _⟩ := hh
    rw [hs.no o x (by omega)] at hv; cases hv
  refine ask_c h (by rw [hws]; exact wsOk_nil) (fun k hk => by rw [hws] at hk; cases hk) (by omega) hB (fun w' _ k => hq _ w' s hs (h.keep0 k) (KO.of0 k)) (fun w' i e _ _ h' k => hq _ w' s hs h' k)
    (fun w' i e hr _ _ h' k => ?_) (fun w' i e _ _ g => absurd (hfree rfl) g) (fun w' i e _ _ g => absurd (hfree rfl) g) (fun w' i e _ _ g => absurd (hfree rfl) g)
  have : i = 1 := by omega
  subst this
  exact hq _ w' _ (hs.raise p hr.2) h' k
theorem ask_has {a b md : Int} (h : TL w B t s) (hs : St s) (hB : B ≤ siz w) (hr : rightL (a, b, md)) (hh : hasP s 1 a b md) (hq : ∀ w', TL w' B t s → KO B tp w w' → Q (.tuple #[.int .i64 0, .bool true, .int .i64 0]) w') :
    callS Try.prog 10 #[.pointer (some ⟨t, 0, none⟩), .int .i64 1, .agg #[.int .i64 a, .int .i64 b, .int .i64 md]] Q w := by
  have hws := hs.ws
  have hla := hs.la
  have hn := hs.n
  have hi : ∀ {i : Nat}, (1 : Int) = (i : Int) → i = 1 := fun e => by omega
  refine ask_c h (by rw [hws]; exact wsOk_nil) (fun k hk => by rw [hws] at hk; cases hk) (by omega) hB (fun w' g _ => absurd ⟨by omega, hr⟩ g) (fun w' i e _ _ h' k => hq w' h' k)
    (fun w' i e _ g => by rw [hi e] at g; exact absurd hh g) (fun w' i e _ g => by rw [hi e] at g; exact absurd hh g) (fun w' i e _ g => by rw [hi e] at g; exact absurd hh g) (fun w' i e _ g => by rw [hi e] at g; exact absurd hh g)
theorem St.release (h : St s) (p : Pu s) {a b keep : Int} (ha : 0 ≤ a) (hk : keep = 0 ∨ keep = 1) : St (s.release 1 a b keep) := by
  have e := fun o x => p.bl_release (i := 1) (a := a) (b := b) (keep := keep) (by omega) o x
  refine ⟨h.n, h.ws, h.la, fun o x ho => by rw [e, if_neg ho]; exact h.no o x ho, fun x v hv => ?_⟩
  rw [e, if_pos rfl, relF_in ha] at hv
  split at hv
  · cases hb : bl s 1 x with
    | none => rw [hb] at hv; cases hv
    | some u =>
      rw [hb] at hv
      dsimp only at hv
      have := h.md x u hb
      unfold relV at hv
      split at hv
      · injection hv with hv; omega
      · split at hv
        · cases hv
        · injection hv with hv; omega
  · exact h.md x v hv
theorem keeps_law {vl : Value} {L : List I3} {sp : Int × Int} {keep block : Int} (hL : Rd 3 w vl L.length (flat enc3 L)) (_ : L.length ≤ maxLen) (_ : ∀ s ∈ L, good3 s) (_ : rngS sp) (_ : (Lit.int .i64 keep).wf = true) (_ : (Lit.int .i64 block).wf = true) (hq : ∀ w', Keep (fun b => siz w ≤ b) w w' → Q (.bool true) w') :
    callS Try.prog 6 #[vl, .agg (encS sp).toArray, .int .i64 keep, .int .i64 block] Q w := by
  obtain ⟨a, b⟩ := sp
  refine ref6 ?_
  unfold S6
  show act _ (Instr.box _ (.agg #[.int .i64 a, .int .i64 b])) _ _
  simp only [act_box, agg_cells]
  have b1 : blk (w.alloc (.cells #[.int .i64 a, .int .i64 b] 23)) (siz w) = some (.cells #[.int .i64 a, .int .i64 b] 23) := blk_alloc_new
  have k1 : K0 w (w.alloc (.cells #[.int .i64 a, .int .i64 b] 23)) := (K0.refl w).alloc _
  have hs1 : siz w < siz (w.alloc (.cells #[.int .i64 a, .int .i64 b] 23)) := blk_lt b1
  generalize w.alloc (.cells #[.int .i64 a, .int .i64 b] 23) = w1 at b1 k1 hs1
  have x0 : cel w1 (siz w) 0 = some (.int .i64 a) := by rw [cel_b b1]; rfl
  have x1 : cel w1 (siz w) 1 = some (.int .i64 b) := by rw [cel_b b1]; rfl
  have out : callS Try.prog 8 #[] Q w1 := talive_c fun w2 k2 => hq _ (Keep.new (k1.trans k2.old'))
  obtain ⟨pL, cL, rfl⟩ := hL.form
  by_cases g0 : (20 : Int) < (L.length : Int)
  · simp only [stp, Nat.reduceAdd, Int.reduceLT, Int.reduceLE, Int.reduceEq, Int.reduceNe, ne_eq, bne_self_eq_false, beq_self_eq_true, stm, x0, x1, g0]; exact out
  by_cases g1 : a < 0
  · simp only [stp, Nat.reduceAdd, Int.reduceLT, Int.reduceLE, Int.reduceEq, Int.reduceNe, ne_eq, bne_self_eq_false, beq_self_eq_true, stm, x0, x1, g0, g1]; exact out
  by_cases g2 : b ≤ a
  · simp only [stp, Nat.reduceAdd, Int.reduceLT, Int.reduceLE, Int.reduceEq, Int.reduceNe, ne_eq, bne_self_eq_false, beq_self_eq_true, stm, x0, x1, g0, g1, g2]; exact out
  by_cases g3 : keep < 0
  · simp only [stp, Nat.reduceAdd, Int.reduceLT, Int.reduceLE, Int.reduceEq, Int.reduceNe, ne_eq, bne_self_eq_false, beq_self_eq_true, stm, x0, x1, g0, g1, g2, g3]; exact out
  by_cases g4 : 1 < keep
  · simp only [stp, Nat.reduceAdd, Int.reduceLT, Int.reduceLE, Int.reduceEq, Int.reduceNe, ne_eq, bne_self_eq_false, beq_self_eq_true, stm, x0, x1, g0, g1, g2, g3, g4]; exact out
  simp only [stp, Nat.reduceAdd, Int.reduceLT, Int.reduceLE, Int.reduceEq, Int.reduceNe, ne_eq, bne_self_eq_false, beq_self_eq_true, stm, x0, x1, g0, g1, g2, g3, g4]
  clear out
  have ha : 0 ≤ a := by omega
  have hkp : keep = 0 ∨ keep = 1 := by omega
  refine tnew_c (B := siz w1) (nodes := 2) (by omega) (Nat.le_refl _) fun w2 h2 k2 => ?_
  have s2 := k2.size
  simp only [stp, Nat.reduceAdd, Int.reduceLT, Int.reduceLE, Int.reduceEq, Int.reduceNe, ne_eq, bne_self_eq_false, beq_self_eq_true]
  have st0 : St (TS.fresh 2) := ⟨rfl, rfl, rfl, fun o x _ => bl_fresh 2 o x, fun x v hv => by rw [bl_fresh] at hv; cases hv⟩
  generalize TS.fresh 2 = s0 at *
  refine lpc1 L.length (by omega) (fun i w' => ∃ s, St s ∧ TL w' (siz w1) (siz w1) s ∧ KO (siz w1) tp w2 w') ⟨s0, st0, h2, KO.refl _ _ _⟩ ?_ ?_
  · rintro i w3 hi ⟨s3, st3, h3, k3⟩ J hJ _j
    have hi' : (i : Int) < (L.length : Int) := by omega
    have k03 : Keep (fun b => siz w ≤ b) w w3 := (Keep.new (k1.trans k2)).trans' (k3.below (Nat.le_refl _)) fun b hb e => by omega
    obtain ⟨gb, go, gc, e, _, hcel⟩ := (hL.keepB k03 fun g hg hlt => hlt).at (by omega)
    injection e with e1 _ e2
    subst e1 e2
    obtain ⟨q0, q1, q2⟩ := locks_at (b := gb) (o := go) (L := L) hcel (List.getElem?_eq_getElem hi)
    simp only [stp, Nat.reduceAdd, Int.reduceLT, Int.reduceLE, Int.reduceEq, Int.reduceNe, ne_eq, bne_self_eq_false, beq_self_eq_true, hi']
    rw [ix_43 hi]
    simp only [stp, Nat.reduceAdd, Int.reduceLT, Int.reduceLE, Int.reduceEq, Int.reduceNe, ne_eq, bne_self_eq_false, beq_self_eq_true, stm, q0, q1, q2]
    have s3' := k3.size
    refine ask_st h3 st3 (by omega) fun v' w4 s4 st4 h4 k4 => ?_
    try simp only [stp, Nat.reduceAdd, Int.reduceLT, Int.reduceLE, Int.reduceEq, Int.reduceNe, ne_eq, bne_self_eq_false, beq_self_eq_true]
    exact hJ _ ⟨s4, st4, h4, k3.trans k4⟩
  · rintro w3 ⟨s3, st3, h3, k3⟩ J _j
    have hn : ¬ ((L.length : Int) < (L.length : Int)) := by omega
    simp only [stp, Nat.reduceAdd, Int.reduceLT, Int.reduceLE, Int.reduceEq, Int.reduceNe, ne_eq, bne_self_eq_false, beq_self_eq_true, hn]
    have s3' := k3.size
    have n3 := st3.n
    have p3 := h3.pu
    refine tmode_bl (i := 1) h3 (by omega) (by omega) fun w4 k4 => ?_
    have k24 := k3.trans (KO.of0 k4)
    have h4 := h3.keep0 k4
    have s4' := k4.size
    have cS : ∀ {w'}, KO (siz w1) tp w2 w' → cel w' (siz w) 0 = some (.int .i64 a) ∧ cel w' (siz w) 1 = some (.int .i64 b) := fun k => by
      have e1 := k.blk (k2.blk b1 (by exact fun h => h)) rfl
      refine ⟨?_, ?_⟩ <;> (rw [cel_b e1]; rfl)
    obtain ⟨x0, x1⟩ := cS k24
    simp only [stp, Nat.reduceAdd, Int.reduceLT, Int.reduceLE, Int.reduceEq, Int.reduceNe, ne_eq, bne_self_eq_false, beq_self_eq_true, stm, x0, x1]
    refine release_c h4 (by rw [st3.ws]; exact wsOk_nil) (fun k hk => by rw [st3.ws] at hk; cases hk) (by omega) (fun w8 g _ => absurd ⟨by omega, by unfold ok; dsimp only; omega, hkp⟩ g) fun w5 v5 i ei hi1 hi2 _ _ h5 o5 k5 => ?_
    have hi : i = 1 := by omega
    subst hi
    have st5 := st3.release p3 (b := b) ha hkp
    have hg5 := grant_nil st5.ws
    rw [hg5.1] at h5
    have p5 := h5.pu
    have e5 : bl (s3.release 1 a b keep) 1 block = relF (bl s3 1) (a, b) keep block := by rw [p3.bl_release (by omega), if_pos rfl]
    have n5 := st5.n
    have md5 := st5.md
    generalize s3.release 1 a b keep = s5 at *
    have k25 := k24.trans k5
    have s5' := k5.size
    obtain ⟨x0, x1⟩ := cS k25
    try simp only [stp, Nat.reduceAdd, Int.reduceLT, Int.reduceLE, Int.reduceEq, Int.reduceNe, ne_eq, bne_self_eq_false, beq_self_eq_true]
    have wantE : (if a ≤ block ∧ block < b then min ((bl s3 1 block).getD 0) keep else (bl s3 1 block).getD 0) = (bl s5 1 block).getD 0 := by
      rw [e5, relF_in ha]
      by_cases hin : inR a b block
      · have hin' : a ≤ block ∧ block < b := hin
        rw [if_pos hin, if_pos hin']
        cases hb : bl s3 1 block with
        | none => simp; omega
        | some v =>
          have := st3.md _ _ hb
          dsimp only [Option.getD]
          unfold relV
          by_cases h1 : v ≤ keep
          · rw [if_pos h1]; dsimp only [Option.getD]; omega
          · rw [if_neg h1]
            by_cases h2 : keep = 0
            · rw [if_pos h2]; dsimp only [Option.getD]; omega
            · rw [if_neg h2]; dsimp only [Option.getD]; omega
      · have hin' : ¬ (a ≤ block ∧ block < b) := hin
        rw [if_neg hin, if_neg hin']
    refine jn1 (fun x w' => x = .int .i64 ((bl s5 1 block).getD 0) ∧ w' = w5) (fun J1 hJ1 => ?_) ?_
    · by_cases c1 : a ≤ block
      · by_cases c2 : block < b
        · simp only [stp, Nat.reduceAdd, Int.reduceLT, Int.reduceLE, Int.reduceEq, Int.reduceNe, ne_eq, bne_self_eq_false, beq_self_eq_true, stm, x0, x1, c1, c2]
          rw [if_pos ⟨c1, c2⟩] at wantE
          exact hJ1 _ _ ⟨by rw [wantE], rfl⟩
        · simp only [stp, Nat.reduceAdd, Int.reduceLT, Int.reduceLE, Int.reduceEq, Int.reduceNe, ne_eq, bne_self_eq_false, beq_self_eq_true, stm, x0, x1, c1, c2]
          rw [if_neg fun h => c2 h.2] at wantE
          exact hJ1 _ _ ⟨by rw [wantE], rfl⟩
      · simp only [stp, Nat.reduceAdd, Int.reduceLT, Int.reduceLE, Int.reduceEq, Int.reduceNe, ne_eq, bne_self_eq_false, beq_self_eq_true, stm, x0, x1, c1]
        rw [if_neg fun h => c1 h.1] at wantE
        exact hJ1 _ _ ⟨by rw [wantE], rfl⟩
    · rintro x w5' ⟨rfl, rfl⟩ _j
      try simp only [stp, Nat.reduceAdd, Int.reduceLT, Int.reduceLE, Int.reduceEq, Int.reduceNe, ne_eq, bne_self_eq_false, beq_self_eq_true]
      refine tmode_bl (i := 1) h5 (by omega) (by omega) fun w6 k6 => ?_
      simp only [stp, Nat.reduceAdd, Int.reduceLT, Int.reduceLE, Int.reduceEq, Int.reduceNe, ne_eq, bne_self_eq_false, beq_self_eq_true, stm]
      have h6 := h5.keep0 k6
      have s6' := k6.size
      refine tholds_c (j := 1) h6 (by omega) (by omega) fun w7 v7 l e7 hcl hdl o7 k7 => ?_
      have hbl : bl s5 1 = valB l := by unfold bl; rw [e7]; rfl
      have hlL := asLocks_len l
      have hln := canon_len (n := 4096) hcl hdl
      rw [hlL] at o7
      obtain ⟨p7, c7, rfl⟩ := o7.form
      have h7 := h6.keep0 k7
      have s7' := k7.size
      try simp only [stp, Nat.reduceAdd, Int.reduceLT, Int.reduceLE, Int.reduceEq, Int.reduceNe, ne_eq, bne_self_eq_false, beq_self_eq_true]
      refine lpc1 l.length (by omega) (fun i w' => TL w' (siz w1) (siz w1) s5 ∧ KO (siz w1) tp w7 w') ⟨h7, KO.refl _ _ _⟩ ?_ ?_
      · rintro i w8 hi ⟨h8, k8⟩ J2 hJ2 _j
        have hi' : (i : Int) < (l.length : Int) := by omega
        have o8 := k8.own o7 fun cs => rfl
        obtain ⟨gg, cg, e, _, _, _, _, _, hcel⟩ := o8.at (by omega)
        injection e with e1' _ e2'
        subst e1' e2'
        have hLj : (asLocks l)[i]? = some (l[i].1.1, l[i].1.2, l[i].2) := by
          unfold asLocks
          rw [List.getElem?_map, List.getElem?_eq_getElem hi]; rfl
        obtain ⟨u0, u1, u2⟩ := locks_at (b := gg) (o := 0) (L := asLocks l) (fun i hi => by rw [Nat.zero_add]; exact hcel i (by rw [hlL] at hi; exact hi)) hLj
        rw [Nat.zero_add] at u0 u1 u2
        have hok := hcl.1 _ (List.getElem_mem hi)
        have hbd := hdl _ (List.getElem_mem hi)
        have hval : ∀ x, hasB l[i].1 x → bl s5 1 x = some l[i].2 := fun x hx => by rw [hbl]; exact valB_mem hcl.apart (List.getElem_mem hi) hx
        have hmd := md5 _ _ (hval l[i].1.1 ⟨hok, Int.le_refl _, hok.2⟩)
        simp only [stp, Nat.reduceAdd, Int.reduceLT, Int.reduceLE, Int.reduceEq, Int.reduceNe, ne_eq, bne_self_eq_false, beq_self_eq_true, hi']
        rw [ix_43 hi, Nat.zero_add]
        simp only [stp, Nat.reduceAdd, Int.reduceLT, Int.reduceLE, Int.reduceEq, Int.reduceNe, ne_eq, bne_self_eq_false, beq_self_eq_true, stm, u0, u1, u2]
        have s8' := k8.size
        refine ask_has h8 st5 (by omega) ⟨hok, hbd, hmd⟩ (fun x hx => ⟨l[i].2, hval x hx, ?_, ?_, Int.le_refl _⟩) fun w9 h9 k9 => ?_
        · show 0 ≤ l[i].2 ∧ l[i].2 ≤ 2
          omega
        · show 0 ≤ l[i].2 ∧ l[i].2 ≤ 2
          omega
        · simp only [stp, Nat.reduceAdd, Int.reduceLT, Int.reduceLE, Int.reduceEq, Int.reduceNe, ne_eq, bne_self_eq_false, beq_self_eq_true]
          exact hJ2 _ ⟨h9, k8.trans k9⟩
      · rintro w8 ⟨h8, k8⟩ J2 _j
        have hn : ¬ ((l.length : Int) < (l.length : Int)) := by omega
        simp only [stp, Nat.reduceAdd, Int.reduceLT, Int.reduceLE, Int.reduceEq, Int.reduceNe, ne_eq, bne_self_eq_false, beq_self_eq_true, hn]
        refine tholds_c (j := 1) h8 (by omega) (by omega) fun w9 v9 l' e9 _ _ o9 k9 => ?_
        rw [e7] at e9
        injection e9 with e9
        subst e9
        rw [hlL] at o9
        obtain ⟨p9, c9, rfl⟩ := o9.form
        refine talive_c fun wA kA => ?_
        have kA : K0 w9 wA := kA.old'
        try simp only [stp, Nat.reduceAdd, Int.reduceLT, Int.reduceLE, Int.reduceEq, Int.reduceNe, ne_eq, bne_self_eq_false, beq_self_eq_true]
        refine twaits_c ((h8.keep0 k9).keep0 kA) (by rw [st5.ws]; simp) fun wB vB oB kB => ?_
        rw [st5.ws] at oB
        obtain ⟨pB, cB, rfl⟩ := oB.form
        simp only [stp, Nat.reduceAdd, Int.reduceLT, Int.reduceLE, Int.reduceEq, Int.reduceNe, ne_eq, bne_self_eq_false, beq_self_eq_true, List.length_nil, Int.natCast_zero, Int.ofNat_zero]
        refine hq _ ?_
        have kk := ((((k25.trans (KO.of0 k6)).trans (KO.of0 k7)).trans k8).trans (KO.of0 k9)).trans ((KO.of0 kA).trans (KO.of0 kB))
        exact (Keep.new (k1.trans k2)).trans ((kk.le (Nat.le_of_lt hs1)).below (Nat.le_refl _))
end
end Go.Proofs.Ytiomanikpboclaa
