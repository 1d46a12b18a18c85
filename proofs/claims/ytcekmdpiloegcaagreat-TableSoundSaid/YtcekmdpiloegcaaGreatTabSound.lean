/- What stands between two calls of the law. Conditions: as it says. -/
import Derived.Test.YtcekmdpiloegcaaGreatTabZ
import Derived.Test.YtcekmdpiloegcaaGreatShU
set_option linter.unusedSimpArgs false
set_option linter.unusedVariables false
namespace Go.Proofs.YtcekmdpiloegcaaGreat
open Go.Sh Go.Proofs.YtcekmdpiloegcaaGreat.Mi
set_option maxRecDepth 100000
section
variable {s : TS} {n : Int} {i j : Nat} {a b md keep : Int}
theorem granted_facts (s : TS) : s.granted.nodes = s.nodes ∧ s.granted.last = s.last ∧ s.granted.ws.length ≤ s.ws.length := by
  obtain ⟨_, h2, h3⟩ := grantG_ws s _ s.ws rfl
  exact ⟨h2, h3, (grantG_len s _ s.ws rfl).1⟩
/-- Fine, of so many nodes, behind at most so many calls. -/
structure LS (n : Int) (i : Nat) (s : TS) : Prop where
  f : Fine s
  n : s.nodes = n
  la : 0 ≤ s.last ∧ s.last ≤ (i : Int)
  wl : s.ws.length ≤ i
theorem LS.up (h : LS n i s) : LS n (i + 1) s := ⟨h.f, h.n, by have := h.la; omega, by have := h.wl; omega⟩
theorem LS.fresh (hn : 1 ≤ n ∧ n ≤ 16) : LS n 0 (TS.fresh n) := ⟨fine_fresh hn, rfl, ⟨Int.le_refl _, Int.le_refl _⟩, Nat.le_refl _⟩
theorem LS.release (h : LS n i s) (hj : j < 17) (hk : keep = 0 ∨ keep = 1) : LS n i (s.release j a b keep).granted := by
  obtain ⟨g1, g2, g3⟩ := granted_facts (s.release j a b keep)
  exact ⟨fine_release h.f hj hk, g1.trans h.n, by rw [g2]; exact h.la, Nat.le_trans g3 h.wl⟩
theorem LS.thin (h : LS n i s) (q : I5 → Bool) : LS n i (s.thin q).granted := by
  obtain ⟨g1, g2, g3⟩ := granted_facts (s.thin q)
  exact ⟨fine_thin h.f q, g1.trans h.n, by rw [g2]; exact h.la, Nat.le_trans g3 (Nat.le_trans (List.length_filter_le _ _) h.wl)⟩
theorem LS.drop (h : LS n i s) (hj : j < 17) (q : I5 → Bool) : LS n i ((s.bare j).thin q).granted := by
  obtain ⟨g1, g2, g3⟩ := granted_facts ((s.bare j).thin q)
  exact ⟨fine_drop h.f hj q, g1.trans h.n, by rw [g2]; exact h.la, Nat.le_trans g3 (Nat.le_trans (List.length_filter_le _ _) h.wl)⟩
theorem LS.force (h : LS n i s) {node : Int} (hn : node = (j : Int)) (hr : rightA s node a b md) (hf : fitsP s node a b md) : LS n i (s.raise j a b md) := ⟨fine_force h.f hn hr hf, h.n, h.la, h.wl⟩
theorem LS.ask (h : LS n i s) (hr : rightA s (j : Int) a b md) (hf : freeP s (j : Int) a b md) : LS n i (s.raise j a b md) := ⟨fine_ask h.f hr hf, h.n, h.la, h.wl⟩
theorem LS.wait (h : LS n i s) {node : Int} (hr : rightA s node a b md) (hl : s.ws.length < 1000) (hf : ¬ freeP s node a b md) : LS n (i + 1) (s.wait node a b md) :=
  ⟨fine_wait h.f hr.1 hr.2 hl hf, h.n, by have := h.la; show 0 ≤ s.last + 1 ∧ s.last + 1 ≤ _; omega, by have := h.wl; unfold TS.wait; simp; omega⟩
end
end Go.Proofs.YtcekmdpiloegcaaGreat
/- What TableSound computes: true. Conditions: none. -/
namespace Go.Proofs.YtcekmdpiloegcaaGreat
open Go.Sh Go.Proofs.YtcekmdpiloegcaaGreat.Mi
set_option maxRecDepth 100000
section
variable {w w' : World} {Q : Value → World → Prop}
abbrev I6 := Int × Int × Int × Int × Int × Int
abbrev enc6 (k : I6) : List Value := [.int .i64 k.1, .int .i64 k.2.1, .int .i64 k.2.2.1, .int .i64 k.2.2.2.1, .int .i64 k.2.2.2.2.1, .int .i64 k.2.2.2.2.2]
theorem enc6_len (k : I6) : (enc6 k).length = 6 := rfl
def good6 (s : I6) : Prop := (-9223372036854775808 ≤ s.1 ∧ s.1 ≤ 9223372036854775807) ∧ (-9223372036854775808 ≤ s.2.1 ∧ s.2.1 ≤ 9223372036854775807) ∧ (-9223372036854775808 ≤ s.2.2.1 ∧ s.2.2.1 ≤ 9223372036854775807) ∧ (-9223372036854775808 ≤ s.2.2.2.1 ∧ s.2.2.2.1 ≤ 9223372036854775807) ∧ (-9223372036854775808 ≤ s.2.2.2.2.1 ∧ s.2.2.2.2.1 ≤ 9223372036854775807) ∧ (-9223372036854775808 ≤ s.2.2.2.2.2 ∧ s.2.2.2.2.2 ≤ 9223372036854775807)
theorem dec6 (r : List Value) (h : AllOk [.int .i64, .int .i64, .int .i64, .int .i64, .int .i64, .int .i64] r) : ∃ s, r = enc6 s ∧ good6 s := by
  cases r with
  | nil => exact h.elim
  | cons x0 r =>
    cases r with
    | nil => exact h.2.elim
    | cons x1 r =>
      cases r with
      | nil => exact h.2.2.elim
      | cons x2 r =>
        cases r with
        | nil => exact h.2.2.2.elim
        | cons x3 r =>
          cases r with
          | nil => exact h.2.2.2.2.elim
          | cons x4 r =>
            cases r with
            | nil => exact h.2.2.2.2.2.elim
            | cons x5 r =>
              cases r with
              | cons y r => exact h.2.2.2.2.2.2.elim
              | nil =>
                obtain ⟨⟨a0, h0, w0⟩, ⟨a1, h1, w1⟩, ⟨a2, h2, w2⟩, ⟨a3, h3, w3⟩, ⟨a4, h4, w4⟩, ⟨a5, h5, w5⟩, _⟩ := h
                exact ⟨(a0, a1, a2, a3, a4, a5), by rw [h0, h1, h2, h3, h4, h5], wf64 w0, wf64 w1, wf64 w2, wf64 w3, wf64 w4, wf64 w5⟩
theorem sound_law {nodes : Int} {v : Value} {ops : List I6} (_ : (Lit.int .i64 nodes).wf = true) (hL : Rd 6 w v ops.length (flat enc6 ops)) (_ : ops.length ≤ maxLen) (_ : ∀ s ∈ ops, good6 s) (hq : ∀ w', Keep (fun b => siz w ≤ b) w w' → Q (.bool true) w') :
    callS Tryz.prog 3 #[.int .i64 nodes, v] Q w := by
  refine ref3 ?_
  unfold S3
  obtain ⟨pa, ca, rfl⟩ := hL.form
  by_cases c1 : nodes < 1
  · simp only [pur_lss, c1, decide_true, gd_tf, gd_undef, pur_pick_t, condS_true]
    exact talive_c hq
  by_cases c2 : (16 : Int) < nodes
  · simp only [pur_lss, c1, decide_false, gd_hit, pur_gtr, c2, decide_true, pur_pick_f, gd_tf, gd_undef, pur_pick_t, condS_true]
    exact talive_c hq
  by_cases c3 : (50 : Int) < (ops.length : Int)
  · simp only [pur_lss, c1, decide_false, gd_hit, pur_gtr, c2, pur_pick_f, ln_22, c3, decide_true, condS_true]
    exact talive_c hq
  simp only [pur_lss, c1, decide_false, gd_hit, pur_gtr, c2, pur_pick_f, ln_22, c3, condS_false]
  refine tnew_c (B := siz w) (by omega) (Nat.le_refl _) fun w1 ht k1 => ?_
  have hts : siz w ≤ siz w := Nat.le_refl _
  generalize ht0 : siz w = t at ht
  have kb : KO (siz w) tp w w1 := KO.of0 k1
  rw [show ∀ {k' : Value → Prop} {u : World}, rd Tryz.prog (binS .eql 24 false true (.pointer (some ⟨t, 0, none⟩)) (.pointer none)) k' u = k' (.bool false) from fun {k' u} => rd_eq (by rfl)]
  simp only [condS_false]
  have hn : 1 ≤ nodes ∧ nodes ≤ 16 := by omega
  rw [← ht0] at ht
  refine lpc1 ops.length (by omega) (fun i u => ∃ s, LS nodes i s ∧ TL u (siz w) t s ∧ KO (siz w) tp w u) ⟨_, LS.fresh hn, by rw [← ht0]; exact ht, kb⟩ (fun i u hi ⟨s, hs, h, ku⟩ J hJ => ?_) (fun u ⟨s, hs, h, ku⟩ J => ?_)
  · intro _j
    have hi' : ((i : Int) < (ops.length : Int)) := by omega
    obtain ⟨g, o, c, ee, _, hc⟩ := (hL.keepB (ku.below (Nat.le_refl _)) fun g _ h => h).at (by omega)
    injection ee with e1 _ e2
    subst e1 e2
    have q : ∀ j, j < 6 → cel u g (o + i * 6 + j) = (enc6 ops[i])[j]? := fun j hj => by
      rw [Nat.add_assoc, hc _ (by omega)]
      exact flat_get (enc := enc6) enc6_len (List.getElem?_eq_getElem hi) (by omega)
    have p0 := q 0 (by omega)
    have p1 := q 1 (by omega)
    have p2 := q 2 (by omega)
    have p3 := q 3 (by omega)
    have p4 := q 4 (by omega)
    have p5 := q 5 (by omega)
    generalize ops[i] = op at q p0 p1 p2 p3 p4 p5
    simp only [pur_lss, hi', decide_true, condS_true, ix_22 hi]
    rw [rd_eq (run_loadN (n := 6) (fun w => Tryz.isAgg31 w) (fun w => Tryz.sizeOf31 w) (fun j => if j = 0 then .int .i64 op.1 else if j = 1 then .int .i64 op.2.1 else if j = 2 then .int .i64 op.2.2.1 else if j = 3 then .int .i64 op.2.2.2.1 else if j = 4 then .int .i64 op.2.2.2.2.1 else .int .i64 op.2.2.2.2.2) fun
      | 0, _ => p0
      | 1, _ => p1
      | 2, _ => p2
      | 3, _ => p3
      | 4, _ => p4
      | 5, _ => p5
      | j + 6, hj => absurd hj (by omega))]
    rw [al_31]
    have k2 := (K0.refl u).alloc (.cells #[.int .i64 0, .int .i64 0, .int .i64 0, .int .i64 0, .int .i64 0, .int .i64 0] 31)
    have b2 : blk (u.alloc (.cells #[.int .i64 0, .int .i64 0, .int .i64 0, .int .i64 0, .int .i64 0, .int .i64 0] 31)) (siz u) = some (.cells #[.int .i64 0, .int .i64 0, .int .i64 0, .int .i64 0, .int .i64 0, .int .i64 0] 31) := blk_alloc_new
    generalize u.alloc (.cells #[.int .i64 0, .int .i64 0, .int .i64 0, .int .i64 0, .int .i64 0, .int .i64 0] 31) = u1 at k2 b2
    have z : ∀ j, j < 6 → (cel u1 (siz u) (0 + j)).isSome = true := fun j hj => by
      rw [cel_b b2, Nat.zero_add]
      match j, hj with
      | 0, _ => rfl
      | 1, _ => rfl
      | 2, _ => rfl
      | 3, _ => rfl
      | 4, _ => rfl
      | 5, _ => rfl
      | j + 6, hj => exact absurd hj (by omega)
    rw [show (List.map (fun j => if j = 0 then Value.int .i64 op.1 else if j = 1 then .int .i64 op.2.1 else if j = 2 then .int .i64 op.2.2.1 else if j = 3 then .int .i64 op.2.2.2.1 else if j = 4 then .int .i64 op.2.2.2.2.1 else .int .i64 op.2.2.2.2.2) (List.range 6)).toArray = #[.int .i64 op.1, .int .i64 op.2.1, .int .i64 op.2.2.1, .int .i64 op.2.2.2.1, .int .i64 op.2.2.2.2.1, .int .i64 op.2.2.2.2.2] from rfl]
    rw [st_31 one_int one_int one_int one_int one_int one_int (show (cel u1 (siz u) 0).isSome = true from z 0 (by omega)) (z 1 (by omega)) (z 2 (by omega)) (z 3 (by omega)) (z 4 (by omega)) (z 5 (by omega)) (fre_b b2)]
    have b3 := blk_stoL_all (zs := enc6 (0, 0, 0, 0, 0, 0)) (xs := enc6 op) rfl b2
    have k3 := ((K0.refl u).trans k2).trans' ((Keep.refl (fun b => b = siz u) u1).stoL (enc6 op) 0 (.inl rfl)) fun b hb e => by have e : b = siz u := e; omega
    generalize stoL u1 (siz u) 0 (enc6 op) = u2 at b3 k3
    have h2 := h.keep0 k3
    have ku2 := ku.trans (KO.of0 k3)
    generalize siz u = bo at b3
    refine jn0 (fun u' => ∃ s', LS nodes (i + 1) s' ∧ TL u' (siz w) t s' ∧ KO (siz w) tp w u') (fun J1 hJ1 => ?_) ?_
    rotate_left
    · rintro u' ⟨s', hs', h', ku'⟩ _j
      refine tsound_c h' fun u3 r hr k4 => ?_
      have hrt : r = true := hr.2 (h'.sound_iff.2 hs'.f.sd)
      subst hrt
      simp only [pur_not, Bool.not_true, gd_hit]
      rw [← hs'.n]
      refine lfits_c (h'.keep0 k4) hs'.f fun u4 k5 => ?_
      simp only [pur_not, Bool.not_true, pur_pick_f, condS_false, pur_add]
      exact hJ _ ⟨s', hs', (h'.keep0 k4).keep0 k5, ku'.trans (KO.of0 (k4.trans k5))⟩
    have f0 : cel u2 bo 0 = some (.int .i64 op.1) := cel_b b3 0
    have f1 : cel u2 bo 1 = some (.int .i64 op.2.1) := cel_b b3 1
    have f2 : cel u2 bo 2 = some (.int .i64 op.2.2.1) := cel_b b3 2
    have f3 : cel u2 bo 3 = some (.int .i64 op.2.2.2.1) := cel_b b3 3
    have f4 : cel u2 bo 4 = some (.int .i64 op.2.2.2.2.1) := cel_b b3 4
    have f5 : cel u2 bo 5 = some (.int .i64 op.2.2.2.2.2) := cel_b b3 5
    have lk : (Instr.loadAt 29 (.pointer (some ⟨bo, 3, none⟩))).run Tryz.prog u2 = .ok (.agg #[.int .i64 op.2.2.2.1, .int .i64 op.2.2.2.2.1, .int .i64 op.2.2.2.2.2]) u2 :=
      run_loadN (n := 3) (fun w => Tryz.isAgg29 w) (fun w => Tryz.sizeOf29 w) (fun j => if j = 0 then .int .i64 op.2.2.2.1 else if j = 1 then .int .i64 op.2.2.2.2.1 else .int .i64 op.2.2.2.2.2) fun
        | 0, _ => f3
        | 1, _ => f4
        | 2, _ => f5
        | j + 3, hj => absurd hj (by omega)
    have spn : (Instr.loadAt 27 (.pointer (some ⟨bo, 3, none⟩))).run Tryz.prog u2 = .ok (.agg #[.int .i64 op.2.2.2.1, .int .i64 op.2.2.2.2.1]) u2 :=
      run_loadN (n := 2) (fun w => Tryz.isAgg27 w) (fun w => Tryz.sizeOf27 w) (fun j => if j = 0 then .int .i64 op.2.2.2.1 else .int .i64 op.2.2.2.2.1) fun
        | 0, _ => f3
        | 1, _ => f4
        | j + 2, hj => absurd hj (by omega)
    have hB2 : siz w ≤ siz u2 := ku2.size
    have hw := hs.wl
    have hl := hs.la
    have same : ∀ {u' : World}, TL u' (siz w) t s → KO (siz w) tp u2 u' → J1 u' := fun {u'} h' k' => hJ1 _ ⟨s, hs.up, h', ku2.trans k'⟩
    simp only [fa_31_0, rd_eq (rl_3 f0)]
    by_cases d1 : op.1 = 1
    · simp only [pur_eql, d1, decide_true, condS_true, fa_31_1, fa_31_3, Nat.zero_add, rd_eq (rl_3 f1), rd_eq lk]
      refine ask_c h2 hs.f.ok hs.f.wn (by omega) hB2 (fun u' _ k => same (h2.keep0 k) (KO.of0 k)) (fun u' j _ _ _ h' k => same h' k) (fun u' j e hr _ hf h' k => ?_) (fun u' j _ _ _ _ _ h' k => same h' k) (fun u' j _ _ _ _ _ _ h' k => same h' k) (fun u' j e hr _ hf _ hlt h' k => ?_)
      · rw [e] at hr hf
        exact hJ1 _ ⟨_, (hs.ask hr hf).up, h', ku2.trans k⟩
      · exact hJ1 _ ⟨_, hs.wait hr hlt hf, h', ku2.trans k⟩
    simp only [pur_eql, d1, decide_false, condS_false]
    by_cases d2 : op.1 = 2
    · simp only [pur_eql, d2, decide_true, condS_true, fa_31_1, fa_31_2, fa_31_3, fa_29_0, Nat.zero_add, rd_eq (rl_3 f1), rd_eq (rl_3 f2), rd_eq spn]
      refine release_c h2 hs.f.ok hs.f.wn hB2 (fun u' _ k => same (h2.keep0 k) (KO.of0 k)) fun u' v' j e j1 j2 _ hk h' _ k => ?_
      have := hs.f.p.nn
      exact hJ1 _ ⟨_, (hs.release (by omega) hk).up, h', ku2.trans k⟩
    simp only [d2, decide_false, condS_false]
    by_cases d3 : op.1 = 3
    · simp only [d3, decide_true, condS_true, fa_31_2, Nat.zero_add, rd_eq (rl_3 f2)]
      refine cancel_c h2 hs.f.ok hs.f.wn hB2 fun u' s' v' r e h' k => ?_
      rcases e with rfl | rfl
      · exact same h' k
      · exact hJ1 _ ⟨_, (hs.thin _).up, h', ku2.trans k⟩
    simp only [d3, decide_false, condS_false]
    by_cases d4 : op.1 = 4
    · simp only [d4, decide_true, condS_true, fa_31_1, Nat.zero_add, rd_eq (rl_3 f1)]
      refine drop_c h2 hs.f.ok hs.f.wn hB2 fun u' s' v' e h' k => ?_
      rcases e with rfl | ⟨j, _, j1, j2, rfl⟩
      · exact same h' k
      · have := hs.f.p.nn
        exact hJ1 _ ⟨_, (hs.drop (by omega) _).up, h', ku2.trans k⟩
    simp only [d4, decide_false, condS_false, fa_31_1, fa_31_3, Nat.zero_add, rd_eq (rl_3 f1), rd_eq lk]
    refine force_c h2 fun u' s' e0 e h' k => ?_
    rcases e with rfl | ⟨j, hn', hr, hf, rfl⟩
    · exact same h' k
    · exact hJ1 _ ⟨_, (hs.force hn' hr hf).up, h', ku2.trans k⟩
  · intro _j
    have hi' : ¬ ((ops.length : Int) < (ops.length : Int)) := by omega
    simp only [pur_lss, hi', decide_false, condS_false]
    refine lp1 (fun m x u' => ∃ (k : Nat) (s' : TS), x = .int .i64 (k : Int) ∧ k + s'.ws.length ≤ 50 ∧ m = s'.ws.length ∧ Fine s' ∧ s'.nodes = nodes ∧ TL u' (siz w) t s' ∧ KO (siz w) tp w u') s.ws.length ⟨0, s, rfl, by have := hs.wl; omega, rfl, hs.f, hs.n, h, ku⟩ ?_
    rintro m x u1 ⟨k, s1, rfl, hk, rfl, f1, n1, h1, k1⟩ J2 hJ2 _j
    have hk' : ((k : Int) < 1000) := by omega
    simp only [pur_lss, hk', decide_true, gd_hit]
    refine twaits_c h1 (by omega) fun u2 v2 o2 k2 => ?_
    obtain ⟨p2, c2, rfl⟩ := o2.form
    have h2 := h1.keep0 k2
    have ku2 := k1.trans (KO.of0 k2)
    by_cases hw : (0 : Int) < (s1.ws.length : Int)
    · simp only [ln_35, pur_gtr, hw, decide_true, pur_pick_t, condS_true]
      have hne : s1.ws ≠ [] := fun e => by rw [e] at hw; simp at hw
      refine trevokes_c h2 f1.ok fun u3 v3 o3 k3 => ?_
      have hrn : revF s1 ≠ [] := rev_some f1 hne
      have hrl : ¬ (((revF s1).length : Int) = 0) := fun e => hrn (List.length_eq_zero_iff.1 (by omega))
      obtain ⟨g, c, hv3, _, _, _, hcm, _, hc⟩ := o3.at (by omega)
      subst hv3
      simp only [ln_44, pur_eql, hrl, decide_false, condS_false]
      have hrok := revF_ok f1
      have hchain : ∀ j, Fine (((revF s1).take j).foldl relR s1) ∧ (((revF s1).take j).foldl relR s1).nodes = s1.nodes := fun j => by
        obtain ⟨a1, a2, _⟩ := chain_c (s := s1) ((revF s1).take j) [] s1 f1 rfl (fun e he => hrok e (List.mem_of_mem_take he)) (.inr ⟨rfl, fun o x v hv => ⟨v, hv, .inl rfl⟩, fun e he => by cases he⟩)
        exact ⟨a1, a2⟩
      refine lp1 (fun m x u' => ∃ j : Nat, x = .int .i64 (j : Int) ∧ j ≤ (revF s1).length ∧ m = (revF s1).length - j ∧ TL u' (siz w) t (((revF s1).take j).foldl relR s1) ∧ KO (siz w) tp u3 u' ∧ KO (siz w) tp w u') (revF s1).length ⟨0, rfl, Nat.zero_le _, rfl, h2.keep0 k3, KO.of0 (K0.refl _), ku2.trans (KO.of0 k3)⟩ ?_
      rintro m x u4 ⟨j, rfl, hj, rfl, h4, kk, ku4⟩ J3 hJ3 _j
      by_cases hjl : j < (revF s1).length
      rotate_left
      · have hjl' : ¬ ((j : Int) < ((revF s1).length : Int)) := by omega
        simp only [pur_lss, hjl', decide_false, condS_false, pur_add]
        rw [wrap_succ (i := k) (by omega)]
        rw [List.take_of_length_le (by omega)] at h4
        obtain ⟨r1, r2, r3⟩ := round_less f1 hne hrok
        exact hJ2 _ _ _ r3 ⟨k + 1, _, rfl, by omega, rfl, r1, r2.trans n1, h4, ku4⟩
      have hjl' : ((j : Int) < ((revF s1).length : Int)) := by omega
      obtain ⟨a1, a2⟩ := hchain j
      have o4 := kk.own o3 fun _ => rfl
      obtain ⟨g', c', ev, _, _, _, _, _, hc4⟩ := o4.at (by omega)
      injection ev with ev _ _
      injection ev with ev
      injection ev with ev
      subst ev
      have kd : K0 u4 u4.drew := (K0.refl u4).drew
      have q : ∀ i, i < 4 → cel u4.drew g (j * 4 + i) = (encR (revF s1)[j])[i]? := fun i hi => by
        rw [cel_drew, hc4 _ (by omega)]
        exact flat_get (enc := encR) encR_len (List.getElem?_eq_getElem hjl) (by omega)
      have htk : (revF s1).take (j + 1) = (revF s1).take j ++ [(revF s1)[j]] := by rw [List.take_add_one, List.getElem?_eq_getElem hjl]; rfl
      have hro := hrok _ (List.getElem_mem hjl)
      have p0 := q 0 (by omega)
      rw [Nat.add_zero] at p0
      have p1 := q 1 (by omega)
      have p2 := q 2 (by omega)
      have p3 := q 3 (by omega)
      generalize (revF s1)[j] = e at q htk hro p0 p1 p2 p3
      have rsp : (Instr.loadAt 27 (.pointer (some ⟨g, j * 4 + 1, none⟩))).run Tryz.prog u4.drew = .ok (.agg #[.int .i64 e.2.1, .int .i64 e.2.2.1]) u4.drew :=
        run_loadN (n := 2) (fun w => Tryz.isAgg27 w) (fun w => Tryz.sizeOf27 w) (fun j => if j = 0 then .int .i64 e.2.1 else .int .i64 e.2.2.1) fun
          | 0, _ => p1
          | 1, _ => p2
          | j + 2, hj => absurd hj (by omega)
      simp only [pur_lss, hjl', decide_true, condS_true, ix_44 hjl, Nat.zero_add, fa_47_0, fa_47_1, fa_29_0, fa_29_1, rd_eq (rl_3 p0), rd_eq (rl_3 p3), rd_eq rsp]
      have hB4 : siz w ≤ siz u4.drew := (ku4.trans (KO.of0 kd)).size
      have hwj : IntKind.i64.wrap ((j : Int) + 1) = ((j + 1 : Nat) : Int) := by
        have hmx : (revF s1).length ≤ 9223372036854775807 := by unfold maxLen at *; omega
        rw [wrap_id (by omega) (by omega)]; omega
      refine release_c (h4.keep0 kd) a1.ok a1.wn hB4 (fun u5 hn _ => absurd ⟨by rw [a2, n1]; exact ⟨hro.nd.1, by have := hro.nd.2; omega⟩, hro.sp, hro.kp⟩ hn) fun u5 v5 i5 hi5 _ _ _ _ h5 o5 k5 => ?_
      simp only [pur_ext2_0, pur_ext2_1, pur_neq, ne_eq, not_true_eq_false, decide_false, condS_false, pur_add]
      rw [hwj]
      have hi5' : e.1.toNat = i5 := by omega
      refine hJ3 ((revF s1).length - (j + 1)) _ _ (by omega) ⟨j + 1, rfl, by omega, rfl, ?_, ?_, (ku4.trans (KO.of0 kd)).trans k5⟩
      · rw [htk, List.foldl_append]
        show TL u5 (siz w) t (relR _ e)
        unfold relR
        rw [hi5']; exact h5
      · exact (kk.trans (KO.of0 kd)).trans k5
    · have hw0 : s1.ws.length = 0 := by omega
      have hw0' : ((s1.ws.length : Int) = 0) := by omega
      simp only [ln_35, pur_gtr, hw, decide_false, pur_pick_t, condS_false]
      refine talive_c fun u3 k3 => ?_
      have k3' : K0 u2 u3 := k3.old'
      simp only [gd_hit]
      refine twaits_c (h2.keep0 k3') (by omega) fun u4 v4 o4 k4 => ?_
      obtain ⟨p4, c4, rfl⟩ := o4.form
      simp only [ln_35, pur_eql, hw0', decide_true, pur_pick_t, gd_hit]
      rw [← n1]
      refine lfits_c ((h2.keep0 k3').keep0 k4) f1 fun u5 k5 => ?_
      try simp only [pur_pick_t]
      exact hq _ ((ku2.trans (KO.of0 ((k3'.trans k4).trans k5))).below (Nat.le_refl _))
end
end Go.Proofs.YtcekmdpiloegcaaGreat
