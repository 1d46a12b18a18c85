/- HistPlain: what it computes: true. Conditions: none. -/
import Derived.Test.YtmmnifbponhhfaaHistM
import Derived.Test.YtmmnifbponhhfaaHistK
set_option linter.unusedSimpArgs false
set_option linter.unusedVariables false
namespace Go.Proofs.Ytmmnifbponhhfaa
open Go.Sh Go.Sh.Hi
set_option maxRecDepth 100000
section
variable {w u u' : World} {Q : Value → World → Prop} {L : List Ev} {x v : Value} {e : Ev} {g B : Nat} {d : Nat → ByteArray}
def iniL (i : Nat) : List Im := (List.range 10).map fun b : Nat => if b < i then ((b : Int), 0, Z96) else (0, 0, ⟨#[]⟩)
theorem iniL_len {i : Nat} : (iniL i).length = 10 := by simp [iniL]
theorem iniL_set {i : Nat} (hi : i < 10) : (iniL i).set i ((i : Int), 0, Z96) = iniL (i + 1) := by
  have get : ∀ j i, j < 10 → (iniL i)[j]? = some (if j < i then ((j : Int), 0, Z96) else (0, 0, ⟨#[]⟩)) := fun j i hj => by
    unfold iniL
    rw [List.getElem?_map, List.getElem?_range hj]; rfl
  refine List.ext_getElem? fun j => ?_
  rw [List.getElem?_set]
  by_cases h : i = j
  · subst h
    rw [if_pos rfl, if_pos (by rw [iniL_len]; exact hi), get _ _ hi, if_pos (by omega)]
  · rw [if_neg h]
    by_cases hj : j < 10
    · rw [get _ _ hj, get _ _ hj]
      by_cases h2 : j < i
      · rw [if_pos h2, if_pos (by omega)]
      · rw [if_neg h2, if_neg (by omega)]
    · rw [List.getElem?_eq_none (by rw [iniL_len]; omega), List.getElem?_eq_none (by rw [iniL_len]; omega)]
def total (L : List Ev) : Nat := (L.map fun e => e.rd.length).sum
theorem total_snoc : total (L ++ [e]) = total L + e.rd.length := by simp [total]
theorem total_le (h : ∀ e ∈ L, e.rd.length ≤ 10) : total L ≤ 10 * L.length := by
  induction L with
  | nil => simp [total]
  | cons e L ih =>
    have h1 := ih fun x hx => h x (by simp [hx])
    have h2 := h e (by simp)
    simp only [total, List.map_cons, List.sum_cons, List.length_cons] at *
    omega
theorem wrap8u (n : Int) : 0 ≤ IntKind.u8.wrap n ∧ IntKind.u8.wrap n < 256 := by
  simp only [IntKind.wrap, IntKind.signed, IntKind.bits]
  simp
  omega
/-- Two bytes, and what stands behind two others. -/
theorem hd_two {a b : Int} {t : ByteArray} : hd (strOfNums [a, b] ++ t) = some (UInt8.ofNat a.toNat) := by
  unfold hd
  rw [ByteArray.data_append, Array.getElem?_append_left (by simp [strOfNums])]
  rfl
theorem st_wv {g : Nat} {e : Ev} {x : Value} {K : Value → World → Prop} (hb : BE w g e) (hx : ∃ a n c, x = .slice a n c) (wr : List Im) (h : ∀ w', BE w' g { e with wv := x, wr := wr } → Keep (fun q => q = g) w w' → K undef w') : act Try.prog (thenU (Instr.storeAt 25 (.pointer (some ⟨g, 5, none⟩)) x)) K w := by
  obtain ⟨a, n, c, rfl⟩ := hx
  rw [st_25 one_slice (by rw [cel_b hb]; rfl) (fre_b hb)]
  refine h _ ?_ ((Keep.refl (fun q => q = g) w).sto (.inl rfl) _ _)
  show Sh.blk _ _ = _
  rw [blk_sto hb]; rfl
theorem BE.ne_im {b q : Nat} {cs : Array Value} (h : BE u b e) (hq : Sh.blk u q = some (.cells cs tIm)) : b ≠ q := fun e' => by
  subst e'
  unfold BE at h
  rw [h] at hq; injection hq with hq; injection hq with _ hq; exact absurd hq (by decide)
theorem BE.ne_own {b B z n : Nat} {xs : List Value} (h : BE u b e) (o : Sh.Own u B tIm z x n xs) : ¬ x.ownBlock = some b := fun hq => by
  obtain ⟨_, cs, hc⟩ := o.ty hq
  exact h.ne_im hc rfl
theorem bs2_u8 {a b : Int} {K : Value → World → Prop} (hK : ∀ u' v, K0 u u' → (∀ {K' : Value → World → Prop} {u'' : World}, K0 u' u'' → K' (.string (strOfNums [a, b])) u'' → act Try.prog (convert 26 9 v) K' u'') → K v u') :
    act Try.prog (Instr.buildSlice 26 2 #[(0, .int .u8 a), (1, .int .u8 b)]) K u := by
  rw [bs2_26 one_int one_int]
  refine hK _ _ ((K0.refl u).alloc _) fun {K' u''} k h => ?_
  rw [conv_bytes (n := 2) (xs := [a, b]) rfl (fun i hi => ?_)]
  · exact h
  · have h0 : Sh.cel (u.alloc (.cells #[.int .u8 a, .int .u8 b] 5)) (siz u) i = (#[.int .u8 a, .int .u8 b] : Array Value)[i]? := cel_alloc_new
    match i, hi with
    | 0, _ => exact k.cel h0 id
    | 1, _ => exact k.cel h0 id
    | i + 2, hi => exact absurd hi (by omega)
theorem cpy_ev {K : Value → World → Prop} (h : Rd 6 u x L.length (flat encE L)) (ho : ∀ e ∈ L, EvR u e) (hl : L.length ≤ 1000) (hK : ∀ u' x', Sh.Own u' (siz u) tEv 6 x' L.length (flat encE L) → K0 u u' → K x' u') :
    act Try.prog (Builtin.append_ #[24, 24] 24 #[.slice none 0 0, x]) K u := by
  have hn := Sh.Own.nil u (siz u) tEv 6
  by_cases h0 : L.length = 0
  · obtain ⟨pa, ca, rfl⟩ := h.form
    have e2 : L = [] := List.length_eq_zero_iff.1 h0
    subst e2
    rw [show ([] : List Ev).length = 0 from rfl, ap0_24 hn]
    exact hK _ _ hn (K0.refl _)
  · obtain ⟨g, o, c, rfl, _, hc⟩ := h.at (by omega)
    refine ap_24 hn (b := g) (o := o) (m := L.length) (news := flat encE L) h.len hc (encE_ones ho) (by omega) (Nat.le_refl _) fun v' w' ho' hg hr => hK _ _ (by rw [Nat.zero_add] at ho'; exact ho') ?_
    exact (grown_keep hg).mono fun q _ e => by cases e
theorem app_ev {v1 : Value} {K : Value → World → Prop} (ho : Sh.Own u B tEv 6 x L.length (flat encE L)) (h1 : Rd 6 u v1 1 (flat encE [e])) (he : EvR u e) (hB : B ≤ siz u) (hl : L.length ≤ 1000)
    (hK : ∀ u' x', Sh.Own u' B tEv 6 x' (L ++ [e]).length (flat encE (L ++ [e])) → Keep (fun q => x.ownBlock = some q) u u' → K x' u') : act Try.prog (Builtin.append_ #[24, 24] 24 #[x, v1]) K u := by
  obtain ⟨g, o, c, rfl, _, hc⟩ := h1.at (by omega)
  refine ap_24 ho (b := g) (o := o) (m := 1) (news := flat encE [e]) rfl hc (encE_ones (l := [e]) fun y hy => by rw [List.mem_singleton.1 hy]; exact he) (by omega) hB fun v' w' ho' hg hr => ?_
  exact hK w' v' (by rw [List.length_append, flat_append]; exact ho') (grown_keep hg)
set_option maxHeartbeats 8000000 in
theorem plain_c {pw : Option Addr} {lw cw : Nat} {xw : List (List Value)} {pr : Option Addr} {lr cr : Nat} {xr : List (List Value)} {at_ : Int} (hlw : xw.length = lw) (hLw : Rd 1 w (.slice pw lw cw) lw xw.flatten) (_ : lw ≤ maxLen) (how : ∀ x ∈ xw, AllOkW w [.rows [.int .i64]] x)
    (hlr : xr.length = lr) (hLr : Rd 1 w (.slice pr lr cr) lr xr.flatten) (_ : lr ≤ maxLen) (hor : ∀ x ∈ xr, AllOkW w [.rows [.int .i64]] x) (_ : (Lit.int .i64 at_).wf = true)
    (hq : ∀ w', Keep (fun b => siz w ≤ b) w w' → Q (.bool true) w') : callS Try.prog 3 #[.slice pw lw cw, .slice pr lr cr, .int .i64 at_] Q w := by
  refine ref3 ?_
  unfold S3
  by_cases h1 : (30 : Int) < (lw : Int)
  · simp only [stp, Nat.reduceAdd, Int.reduceLT, Int.reduceLE, Int.reduceEq, Int.reduceNe, ne_eq, bne_self_eq_false, beq_self_eq_true, h1]; exact alive_c fun w' k => hq _ k.none
  by_cases h2 : (30 : Int) < (lr : Int)
  · simp only [stp, Nat.reduceAdd, Int.reduceLT, Int.reduceLE, Int.reduceEq, Int.reduceNe, ne_eq, bne_self_eq_false, beq_self_eq_true, h1, h2]; exact alive_c fun w' k => hq _ k.none
  simp only [ln_22, pur_gtr, h1, h2, decide_false, gd_hit, pur_pick_f, condS_false]
  refine mk_ims fun w1 g k1 hg o1 => ?_
  have e0 : List.replicate 10 ((0, 0, ⟨#[]⟩) : Im) = iniL 0 := rfl
  rw [e0] at o1
  have s1 := k1.size
  refine lpc1 10 (by omega) (fun i u => K0 w u ∧ Sh.Own u (siz w) tIm 3 (.slice (some ⟨g, 0, none⟩) 10 10) 10 (flat encM (iniL i))) ⟨k1, o1⟩ (fun i u hi ⟨ku, ou⟩ J hJ => ?_) (fun u ⟨ku, ou⟩ J => ?_)
  · intro _j
    have hi' : ((i : Int) < 10) := by omega
    simp only [pur_lss, hi', decide_true, condS_true]
    refine mk_zeros fun u2 g2 k2 hg2 o2 => ?_
    refine conv_zeros o2 ?_
    rw [bd_29_0_2 one_int one_str, ix_25 hi, Nat.zero_add]
    have o3 := ou.keep k2 fun _ _ => id
    refine row_set (l := iniL i) (i := ((i : Int), 0, Z96)) (by rw [iniL_len]; exact o3) (by rw [iniL_len]; exact hi) fun u3 o4 k4 => ?_
    rw [pur_add]
    rw [iniL_len, iniL_set hi] at o4
    exact hJ _ ⟨(ku.trans k2).trans' k4 fun q hq e => by have e : q = g := e; omega, o4⟩
  intro _j
  have hi' : ¬ (((10 : Nat) : Int) < 10) := by omega
  simp only [pur_lss, hi', decide_false, condS_false]
  have e10 : iniL 10 = ims fun _ => Z96 := by
    unfold iniL ims
    refine List.map_congr_left fun b hb => ?_
    rw [if_pos (List.mem_range.1 hb)]
  rw [e10] at ou
  have h0 : OS w u g [] (fun _ => Z96) (.slice none 0 0) := ⟨ku, PlI.nil, Sh.Own.nil _ _ _ _, fun e he => (by cases he), ou⟩
  clear ou ku o1 k1 s1 e10
  refine lpc3 lw (by omega) (fun i x y u => ∃ L d, y = .int .i64 (total L : Int) ∧ L.length = i ∧ (∀ e ∈ L, e.rd.length ≤ 10) ∧ OS w u g L d x) ⟨[], _, rfl, rfl, fun e he => (by cases he), h0⟩ (fun i x y u hi ⟨L, d, hy, hLi, hr10, h⟩ J hJ => ?_) (fun x y u ⟨L, d, hy, hLi, hr10, h⟩ J => ?_)
  · intro _j
    subst hy
    have hi' : ((i : Int) < (lw : Int)) := by omega
    obtain ⟨bw, ow, vw, ws, rfl, hcw, hrw, hmw⟩ := mtx hlw hLw how hi
    have cw1 : ∀ {u' : World}, K0 w u' → Sh.cel u' bw (ow + i) = some vw := fun k => k.cel hcw id
    obtain ⟨pvw, cvw, hvw⟩ := hrw.form
    have lnw : ∀ {k' : Value → Prop}, pur Try.prog (Builtin.len_ #[30] 3 #[vw]) k' = k' (.int .i64 (ws.length : Int)) := by intro k'; rw [hvw]; exact ln_30
    simp only [ln_22, pur_lss, hi', decide_true, condS_true]
    rw [ix_22 hi, rd_eq (rl_30 (cw1 h.k)), lnw]
    by_cases h10 : (10 : Int) < (ws.length : Int)
    · simp only [pur_gtr, h10, decide_true, condS_true]
      exact hq _ h.k.none
    have hws : ws.length ≤ 10 := by omega
    have htm : (i : Int).tmod 3 = ((i % 3 : Nat) : Int) := by rw [Int.tmod_eq_emod_of_nonneg (by omega)]; omega
    have hn1 : IntKind.i64.wrap (1 + ((i % 3 : Nat) : Int)) = ((1 + i % 3 : Nat) : Int) := by rw [wrap_id (by omega) (by omega)]; omega
    have hn2 : IntKind.u64.wrap ((1 + i % 3 : Nat) : Int) = ((1 + i % 3 : Nat) : Int) := wrap_u (by omega) (by omega)
    have hn3 : IntKind.i64.wrap (1 + (i : Int)) = ((i + 1 : Nat) : Int) := by rw [wrap_id (by omega) (by omega)]; omega
    have hn5 : IntKind.i64.wrap ((i : Int) + 1) = ((i + 1 : Nat) : Int) := wrap_succ (by omega)
    have hn4 : IntKind.u64.wrap ((i + 1 : Nat) : Int) = ((i + 1 : Nat) : Int) := wrap_u (by omega) (by omega)
    simp only [pur_gtr, h10, decide_false, condS_false, pur_rem (show (3 : Int) ≠ 0 by decide), pur_add, htm, hn1, hn3, cv_3_27, hn2, hn4]
    rw [bd_32_0_1_2_3 one_int one_int one_int one_int]
    generalize hnd : 1 + i % 3 = nd
    have hnd3 : nd ≤ 3 := by omega
    refine al_ev fun u1 bx k1 z1 y1 bx1 => ?_
    refine st_ev (e := ⟨1, (nd : Int), (nd : Int), ((i + 1 : Nat) : Int), NS, NS, [], []⟩) bx1 rfl rfl fun u2 bx2 k2 => ?_
    have k02 : K0 u u2 := k1.trans' k2 fun q hq e => by have e : q = bx := e; omega
    have hbs : siz u2 = siz u2 := rfl
    have zz : bx < siz u2 := blk_lt bx2
    clear bx1 k1 k2 y1
    -- what is read
    refine lp2 (fun m y z u' => ∃ (k : Nat) (rdl : List Im) (rv : Value), z = .int .i64 (k : Int) ∧ k ≤ 10 ∧ m = 10 - k ∧ rdl.length = k ∧ y = .int .i64 ((total L + k : Nat) : Int) ∧ K0 u u' ∧ BE u' bx ⟨1, (nd : Int), (nd : Int), ((i + 1 : Nat) : Int), rv, NS, rdl, []⟩ ∧
      Sh.Own u' (siz u) tIm 3 rv k (flat encM rdl) ∧ ∀ im ∈ rdl, ∃ b : Nat, b < 10 ∧ im = ((b : Int), 0, d b)) 10 ⟨0, [], NS, rfl, by omega, rfl, rfl, rfl, k02, bx2, Sh.Own.nil _ _ _ _, fun im him => by cases him⟩ ?_
    rintro m y z u3 ⟨k, rdl, rv, rfl, hk, rfl, hrl, rfl, k3, b3, o3, hrd⟩ J2 hJ2 _j
    have hg := h.gB
    have kw3 := h.k.trans k3
    have hwk := wrap_succ (i := k) (by omega)
    have hgo : i < lr → ∃ (br or_ : Nat) (vr : Value) (rs : List Int), pr = some ⟨br, or_, none⟩ ∧ Sh.cel w br (or_ + i) = some vr ∧ Rd 1 w vr rs.length (dI rs) ∧ rs.length ≤ maxLen := fun hir => mtx hlr hLr hor hir
    rcases Nat.lt_or_ge i lr with hir | hir
    case' inr =>
      have hir' : ¬ ((i : Int) < (lr : Int)) := by omega
      simp only [hir', decide_false, gd_ft, gd_undef, pur_pick_f, condS_false]
    case' inl =>
      have hir' : ((i : Int) < (lr : Int)) := by omega
      obtain ⟨br, or_, vr, rs, rfl, hcr, hrr, hmr⟩ := hgo hir
      obtain ⟨pvr, cvr, hvr⟩ := hrr.form
      have lnr : ∀ {k' : Value → Prop}, pur Try.prog (Builtin.len_ #[30] 3 #[vr]) k' = k' (.int .i64 (rs.length : Int)) := by intro k'; rw [hvr]; exact ln_30
      simp only [hir', decide_true, gd_hit]
      rw [ix_22 hir]
      try simp only [gd_hit]
      rw [rd_eq (rl_30 (kw3.cel hcr id))]
      simp only [gd_hit, lnr, pur_lss, pur_pick_t]
      rcases Nat.lt_or_ge k rs.length with hkr | hkr
      case' inr =>
        have hkr' : ¬ ((k : Int) < (rs.length : Int)) := by omega
        simp only [hkr', decide_false, gd_ft, gd_undef, pur_pick_f, condS_false]
      case' inl =>
        have hkr' : ((k : Int) < (rs.length : Int)) := by omega
        simp only [hkr', decide_true, gd_hit, pur_lss, pur_pick_t]
        rcases Nat.lt_or_ge k 10 with hk10 | hk10
        case' inr =>
          have hk10' : ¬ ((k : Int) < 10) := by omega
          simp only [hk10', decide_false, condS_false]
        case inl =>
          have hk10' : ((k : Int) < 10) := by omega
          simp only [hk10', decide_true, condS_true]
          refine jn0 (fun u' => ∃ (rv' : Value) (b : Nat), b < 10 ∧ K0 u u' ∧ BE u' bx ⟨1, (nd : Int), (nd : Int), ((i + 1 : Nat) : Int), rv', NS, rdl ++ [((b : Int), 0, d b)], []⟩ ∧ Sh.Own u' (siz u) tIm 3 rv' (k + 1) (flat encM (rdl ++ [((b : Int), 0, d b)]))) (fun J3 hJ3 => ?_) ?_
          · try simp only [fa_32_4, Nat.zero_add]
            have kwd : K0 w u3.drew := kw3.drew
            rw [ix_22 hir, rd_eq (rl_30 (kwd.cel hcr id))]
            obtain ⟨b1, o1, c1, ee, _, hc1⟩ := hrr.at (by omega)
            have ha : Sh.cel w b1 (o1 + k) = some (.int .i64 rs[k]) := by rw [hc1 k (by omega), List.getElem?_map, List.getElem?_eq_getElem hkr]; rfl
            rw [ee, ix_30 hkr]
            try rw [Nat.mul_one]
            rw [rd_eq (rl_3 (kwd.cel ha id))]
            obtain ⟨b, hb8, hand⟩ := pur_and7 (P := Try.prog) (t := 3) (x := false) (y := true) rs[k]
            have hr3 := (h.r.keep (k3.drew) fun _ _ => id)
            have hb10 : b < 10 := by omega
            rw [hand, ix_25 hb10, Nat.zero_add]
            obtain ⟨q0, q1, q2⟩ := row_at (l := ims d) (by rw [ims_len]; exact hr3) (ims_get hb10)
            rw [rd_eq (rlIo (i := ((b : Int), 0, d b)) q0 q1 q2)]
            have kd : K0 u3 u3.drew := (K0.refl u3).drew
            have bd3 := b3.keep0 kd
            have od3 := o3.keep kd fun _ _ => id
            rw [← hrl] at od3
            have fin : ∀ (u4 : World) (v1 : Value), K0 u3.drew u4 → Rd 3 u4 v1 1 (flat encM [((b : Int), 0, d b)]) →
                act Try.prog (Builtin.append_ #[25, 25] 25 #[rv, v1]) (fun t101 w_36 => act Try.prog (thenU (Instr.storeAt 25 (.pointer (some ⟨bx, 4, none⟩)) t101)) (fun _ w_37 => J3 w_37) w_36) u4 := fun u4 v1 k4 r4 => by
              have o4 := od3.keep k4 fun _ _ => id
              have kk := (k3.trans kd).trans k4
              refine app_im o4 r4 kk.size (by omega) fun u5 rv' o5 k5 => ?_
              obtain ⟨pv5, cv5, hv5⟩ := o5.form
              have b5 := (bd3.keep0 k4).keep k5 ((bd3.keep0 k4).ne_own o4)
              refine st_rv b5 ⟨_, _, _, hv5⟩ (rdl ++ [((b : Int), 0, d b)]) fun u6 b6 k6 => ?_
              refine hJ3 _ ⟨rv', b, hb10, (kk.trans' k5 fun q hq e => by have := (o4.lt e).1; omega).trans' k6 fun q hq e => ?_, b6, ?_⟩
              · have e : q = bx := e
                have := z1
                omega
              · have := o5.keep k6 fun q hq e => b5.ne_own o5 (by rw [← show q = bx from e]; exact hq)
                have hll : (rdl ++ [(((b : Int), 0, d b) : Im)]).length = k + 1 := by simp [hrl]
                rw [hll] at this
                exact this
            refine ⟨?_, ?_⟩
            · rw [rd_eq (rl_25 (cel_b bd3 4))]
              refine bld_im fun u4 v1 k4 r4 _ => ?_
              exact fin u4 v1 k4 r4
            · refine bld_im fun u4 v1 k4 r4 _ => ?_
              rw [rd_eq (rl_25 (cel_b (bd3.keep0 k4) 4))]
              exact fin u4 v1 k4 r4
          · rintro u4 ⟨rv', b, hb10, k4, b4, o4⟩ _j
            rw [pur_add, pur_add, hwk, wrap_succ (i := total L + k) (by have := total_le hr10; omega)]
            exact hJ2 (10 - (k + 1)) _ _ _ (by omega) ⟨k + 1, rdl ++ [((b : Int), 0, d b)], rv', rfl, by omega, rfl, by rw [List.length_append, hrl]; rfl, rfl, k4, b4, o4, fun im him => by
              rcases List.mem_append.1 him with him | him
              · exact hrd im him
              · exact ⟨b, hb10, List.mem_singleton.1 him⟩⟩
    all_goals
      refine lpc1 ws.length (by omega) (fun q u4 => ∃ (wrl : List Im) (wv : Value) (d' : Nat → ByteArray), wrl.length = q ∧ Keep (fun z => z = g) u u4 ∧ BE u4 bx ⟨1, (nd : Int), (nd : Int), ((i + 1 : Nat) : Int), rv, wv, rdl, wrl⟩ ∧ siz u3 ≤ siz u4 ∧ Sh.Own u4 (siz u3) tIm 3 wv q (flat encM wrl) ∧
        Sh.Own u4 (siz w) tIm 3 (.slice (some ⟨g, 0, none⟩) 10 10) 10 (flat encM (ims d')) ∧ Sh.Own u4 (siz u) tIm 3 rv k (flat encM rdl) ∧ (∀ b : Nat, b < 10 → (arGet (b : Int) (writeF (playF Z96 L []).a wrl)).getD Z96 = d' b) ∧ (∀ b, b < 10 → hd (d' b) ≠ some 238 ∧ (d' b).size = 96) ∧ ∀ im ∈ wrl, (0 ≤ im.1 ∧ im.1 ≤ 1000000) ∧ im.2.2.size ≤ 1000000)
        ⟨[], NS, d, rfl, k3.none, b3, Nat.le_refl _, Sh.Own.nil _ _ _ _, h.r.keep k3 fun _ _ => id, o3, h.p.ar, h.p.d8, fun im him => by cases him⟩ (fun q u4 hq4 ⟨wrl, wv, d', hwl, kg, b4, z4, ow4, or4, ov4, har, hd8, hwf⟩ J4 hJ4 => ?_) (fun u4 ⟨wrl, wv, d', hwl, kg, b4, z4, ow4, or4, ov4, har, hd8, hwf⟩ J4 => ?_)
      · intro _j
        have hq' : ((q : Int) < (ws.length : Int)) := by omega
        have kw4 : K0 w u4 := h.k.trans' kg fun z hz e => by have e : z = g := e; omega
        obtain ⟨b1, o1, c1, ee, _, hc1⟩ := hrw.at (by omega)
        have ha : Sh.cel w b1 (o1 + q) = some (.int .i64 ws[q]) := by rw [hc1 q (by omega), List.getElem?_map, List.getElem?_eq_getElem hq4]; rfl
        simp only [ix_22 hi]
        rw [rd_eq (rl_30 (cw1 kw4)), lnw]
        simp only [pur_lss, hq', decide_true, condS_true]
        rw [rd_eq (rl_30 (cw1 kw4)), ee, ix_30 hq4]
        try rw [Nat.mul_one]
        rw [rd_eq (rl_3 (kw4.cel ha id))]
        obtain ⟨b, hb8, hand⟩ := pur_and7 (P := Try.prog) (t := 3) (x := false) (y := true) ws[q]
        have hb10 : b < 10 := by omega
        rw [hand]
        refine one_c fun u5 k5 => ?_
        generalize hD : oneD (IntKind.u8.wrap (b : Int)) = D
        have hDs : D.size = 96 := by rw [← hD]; exact oneD_size _
        refine al_im fun u6 t16 k6 z6 y6 b6 => ?_
        refine st_im (i := ((b : Int), 0, D)) b6 fun u7 c6 k7 => ?_
        have k57 : K0 u4 u7 := (k5.trans k6).trans' k7 fun z hz e => by have e : z = t16 := e; have := k5.size; omega
        have hbi : IntKind.u8.wrap ((i + 1 : Nat) : Int) = ((i + 1 : Nat) : Int) := wrap8 (by omega) (by omega)
        have hbq : IntKind.u8.wrap (q : Int) = (q : Int) := wrap8 (by omega) (by omega)
        have sl2 : ∀ {k' : Value → Prop}, pur Try.prog (Instr.sliceAt 9 (.string D) (some (.int .i64 2)) none none) k' = k' (.string (D.extract 2 D.size)) := by
          intro k'
          exact strFrom (n := 2) (fun w => Try.runUnderlying9 w) (by omega)
        have hsa : (strOfNums [((i + 1 : Nat) : Int), (q : Int)]).size + (D.extract 2 D.size).size ≤ 9223372036854775807 := by rw [strOfNums_size, ByteArray.size_extract, hDs]; simp
        generalize hE : strOfNums [((i + 1 : Nat) : Int), (q : Int)] ++ D.extract 2 D.size = E
        have hEs : E.size = 96 := by rw [← hE, ByteArray.size_append, strOfNums_size, ByteArray.size_extract, hDs]; rfl
        have hEh : hd E ≠ some 238 := by
          rw [← hE, hd_two]
          intro e
          injection e with e
          have e2 := congrArg UInt8.toNat e
          rw [UInt8.toNat_ofNat'] at e2
          have h3 : (((i + 1 : Nat) : Int).toNat) % 2 ^ 8 = i + 1 := by rw [Int.toNat_natCast]; exact Nat.mod_eq_of_lt (by omega)
          rw [h3] at e2
          have : (238 : UInt8).toNat = 238 := rfl
          omega
        have hz4 := k57.size
        refine jn0 (fun u' => K0 u4 u' ∧ BI u' t16 ((b : Int), 0, E)) (fun J5 hJ5 => ?_) ?_
        · have kd : K0 u7 u7.drew := (K0.refl u7).drew
          have cd := c6.keep0 kd
          simp only [pur_add, hn5, cv_3_5, hbi, hbq, fa_29_2, Nat.zero_add]
          have fin : ∀ (u8 : World), K0 u7 u8 → act Try.prog (thenU (Instr.storeAt 9 (.pointer (some ⟨t16, 2, none⟩)) (.string E))) (fun _ w_48 => J5 w_48) u8 := fun u8 k8 => by
            refine st_data (c6.keep0 k8) fun u9 c9 k9 => ?_
            have hz8 := k8.size
            refine hJ5 _ ⟨(k57.trans k8).trans' k9 fun z hz e => by have e : z = t16 := e; have := k5.size; omega, c9⟩
          refine ⟨?_, ?_⟩
          · refine bs2_u8 fun u8 v8 k8 hv8 => ⟨?_, ?_⟩
            · refine hv8 (K0.refl _) ?_
              refine ld_data (cd.keep0 k8) ?_
              dsimp only
              rw [sl2, pur_sadd hsa, hE]
              exact fin u8 (kd.trans k8)
            · refine ld_data (cd.keep0 k8) ?_
              dsimp only
              refine hv8 (K0.refl _) ?_
              rw [sl2, pur_sadd hsa, hE]
              exact fin u8 (kd.trans k8)
          · refine ld_data cd ?_
            dsimp only
            refine bs2_u8 fun u8 v8 k8 hv8 => ?_
            refine hv8 (K0.refl _) ?_
            rw [sl2, pur_sadd hsa, hE]
            exact fin u8 (kd.trans k8)
        · rintro u8 ⟨k8, c8⟩ _j
          have kg8 : Keep (fun z => z = g) u u8 := kg.trans k8.none
          have b8 := b4.keep0 k8
          have ow8 := ow4.keep k8 fun _ _ => id
          have or8 := or4.keep k8 fun _ _ => id
          have ov8 := ov4.keep k8 fun _ _ => id
          have z8 := k8.size
          try simp only [fa_32_5, Nat.zero_add]
          rw [rd_eq (rl_25 (cel_b b8 5))]
          refine ld_im c8 ?_
          refine bld_im fun u9 v9 k9 r9 _ => ?_
          have ow9 := ow8.keep k9 fun _ _ => id
          rw [← hwl] at ow9
          have z9 := k9.size
          have b9 := b8.keep0 k9
          refine app_im ow9 r9 (by omega) (by omega) fun u10 x10 o10 k10 => ?_
          have z5 := k5.size
          have z3 := k3.size
          have wvn : ∀ {z : Nat}, wv.ownBlock = some z → siz u3 ≤ z ∧ z < siz u4 := fun e => ow4.lt e
          have rvn : ∀ {z : Nat}, rv.ownBlock = some z → z < siz u3 := fun e => (o3.lt e).2
          have c10 := (c8.keep0 k9).keep k10 fun e => by have := wvn e; omega
          have b10 := b9.keep k10 (b9.ne_own ow9)
          have or10 := (or8.keep k9 fun _ _ => id).keep k10 fun z hz e => by
            have hz : g = z := Option.some.inj hz
            have := wvn e
            omega
          have ov10 := (ov8.keep k9 fun _ _ => id).keep k10 fun z hz e => by
            have := wvn e
            have := rvn hz
            omega
          obtain ⟨px, cx, hpx⟩ := o10.form
          try simp only [fa_32_5, Nat.zero_add]
          refine st_wv b10 ⟨_, _, _, hpx⟩ (wrl ++ [((b : Int), 0, E)]) fun u11 b11 k11 => ?_
          have gb : g ≠ bx := fun e => by
            obtain ⟨_, cs, hc⟩ := or10.ty (g := g) rfl
            exact b10.ne_im hc e.symm
          have c11 := c10.keep k11 (BIE c10 b10)
          have or11 := or10.keep k11 fun z hz e => by
            have hz : g = z := Option.some.inj hz
            have e : z = bx := e
            exact gb (hz.trans e)
          have ov11 := ov10.keep k11 fun z hz e => by
            have e : z = bx := e
            subst e
            exact b10.ne_own ov10 hz
          have o11 := o10.keep k11 fun z hz e => by
            have e : z = bx := e
            subst e
            exact b10.ne_own o10 hz
          refine ld_im c11 ?_
          rw [ix_25 hb10, Nat.zero_add]
          refine row_set (l := ims d') (i := ((b : Int), 0, E)) (by rw [ims_len]; exact or11) (by rw [ims_len]; exact hb10) fun u12 or12 k12 => ?_
          rw [ims_len, ims_set hb10] at or12
          rw [pur_add]
          have z10 := k10.size
          have z11 := k11.size
          have z12 := k12.size
          have hbxu : siz u ≤ bx := z1
          refine hJ4 _ ⟨wrl ++ [((b : Int), 0, E)], x10, upd d' b E, by simp [hwl], ((kg8.trans k9.none).trans' k10 fun z hz e => ?_).trans' k11 (fun z hz e => ?_) |>.trans k12, b11.keep k12 fun e => gb e.symm, by omega, ?_, or12, ov11.keep k12 fun z hz e => ?_, fun c hc => ?_, fun c hc => ?_, fun im him => ?_⟩
          · have := wvn e; omega
          · have e : z = bx := e; omega
          · have := o11.keep k12 fun z hz e => by
              have e : z = g := e
              have := (o10.lt hz).1
              omega
            rw [show (wrl ++ [(((b : Int), 0, E) : Im)]).length = q + 1 by simp [hwl]] at this
            exact this
          · have e : z = g := e
            have := (o3.lt hz).1
            omega
          · rw [writeF_snoc]
            dsimp only
            rw [arGet_put]
            unfold upd
            by_cases hcb : c = b
            · subst hcb; rw [if_pos rfl, if_pos rfl]; rfl
            · rw [if_neg (by omega), if_neg hcb]; exact har c hc
          · unfold upd
            by_cases hcb : c = b
            · rw [if_pos hcb]; exact ⟨hEh, hEs⟩
            · rw [if_neg hcb]; exact hd8 c hc
          · rcases List.mem_append.1 him with him | him
            · exact hwf im him
            · rw [List.mem_singleton.1 him]; exact ⟨⟨by dsimp only; omega, by dsimp only; omega⟩, by dsimp only; omega⟩
      · intro _j
        have hq' : ¬ ((ws.length : Int) < (ws.length : Int)) := by omega
        have kw4 : K0 w u4 := h.k.trans' kg fun z hz e => by have e : z = g := e; omega
        simp only [ix_22 hi]
        rw [rd_eq (rl_30 (cw1 kw4)), lnw]
        simp only [pur_lss, hq', decide_false, condS_false]
        refine ld_ev b4 ?_
        have hrl10 : rdl.length ≤ 10 := by omega
        have hp := h.p.add (e := ⟨1, (nd : Int), (nd : Int), ((i + 1 : Nat) : Int), rv, wv, rdl, wrl⟩) rfl hrd har hd8
        have z3 := k3.size
        have he : EvN u4 g ⟨1, (nd : Int), (nd : Int), ((i + 1 : Nat) : Int), rv, wv, rdl, wrl⟩ := by
          refine ⟨EvR.mk' (by omega) (by omega) (by rw [hrl]; exact ov4.rd) (by rw [hwl]; exact ow4.rd) (by omega) (by omega) hwf, fun z hz => ?_, fun z hz => ?_⟩
          · obtain ⟨hb, cs, hc⟩ := ov4.ty hz
            exact ⟨by omega, cs, hc⟩
          · obtain ⟨hb, cs, hc⟩ := ow4.ty hz
            exact ⟨by omega, cs, hc⟩
        refine h.add kg hp he or4 (by omega) fun u5 x5 h5 => ?_
        refine hJ _ _ _ ⟨_, _, ?_, by simp [hLi], fun y hy => ?_, h5⟩
        · rw [total_snoc, hrl]
        · rcases List.mem_append.1 hy with hy | hy
          · exact hr10 y hy
          · rw [List.mem_singleton.1 hy]; exact hrl10
  · intro _j
    subst hy
    have hi' : ¬ ((lw : Int) < (lw : Int)) := by omega
    simp only [ln_22, pur_lss, hi', decide_false, condS_false]
    have hl30 : L.length ≤ 30 := by omega
    have hev : ∀ y ∈ L, EvR u y := fun y hy => (h.t y hy).ev
    refine cpy_ev h.o.rd hev (by omega) fun u1 x1 o1 k1 => ?_
    rw [bd_32_0_4 one_int one_slice]
    obtain ⟨j1, j2⟩ := h.p.judge1 (rv := .slice (some ⟨g, 0, none⟩) 10 10) (by omega)
    refine bld_ev (e := ⟨4, 0, 0, 0, .slice (some ⟨g, 0, none⟩) 10 10, NS, ims d, []⟩) fun u2 v2 k2 r2 => ?_
    have k12 := k1.trans k2
    have hF : ∀ {u' : World}, K0 u u' → EvR u' ⟨4, 0, 0, 0, .slice (some ⟨g, 0, none⟩) 10 10, NS, ims d, []⟩ := fun k => EvR.mk' (e := 0) (ls := 0) (by omega) (by omega) (by rw [ims_len]; exact (h.r.keep k fun _ _ => id).rd) no_im (by rw [ims_len]; omega) (by simp) fun i hi => by cases hi
    have o2 := o1.keep k2 fun _ _ => id
    refine app_ev o2 r2 (hF k12) k12.size (by omega) fun u3 x3 o3 k3 => ?_
    have k03 : K0 u u3 := k12.trans' k3 fun q hq e => by have := (o1.lt e).1; omega
    refine judge_c o3.rd (by rw [List.length_append]; simp; omega) (fun y hy => ?_) (fun u4 _ k4 => ?_) (fun u4 he => absurd j1 he)
    · rcases List.mem_append.1 hy with hy | hy
      · exact (hev y hy).keep0 k03
      · rw [List.mem_singleton.1 hy]; exact hF k03
    rw [j2]
    have k04 := k03.trans k4
    have h4 := h.k0 k04
    simp only [pur_ext2_0, pur_ext2_1, pur_not, Bool.not_true, gd_hit, pur_neq, ne_eq, not_true_eq_false, decide_false, pur_pick_f, pur_eql]
    by_cases ht0 : total L = 0
    · have ht0' : ((total L : Nat) : Int) = 0 := by omega
      simp only [ht0', decide_true, condS_true, gd_hit, pur_eql, pur_pick_t]
      refine alive_c fun u5 k5 => ?_
      try simp only [pur_pick_t]
      exact hq _ (h4.k.trans k5).none
    have ht0' : ¬ ((total L : Nat) : Int) = 0 := by omega
    simp only [ht0', decide_false, condS_false, pur_rem ht0']
    refine jn1 (fun y u' => ∃ k0 : Nat, y = .int .i64 (k0 : Int) ∧ k0 < total L ∧ u' = u4) (fun J6 hJ6 => ?_) ?_
    · have htl := total_le hr10
      have b1 := Int.tmod_lt_of_pos at_ (b := (total L : Int)) (by omega)
      have b2 := Int.lt_tmod_of_pos at_ (b := (total L : Int)) (by omega)
      simp only [pur_lss]
      by_cases hneg : at_.tmod (total L : Int) < 0
      · simp only [hneg, decide_true, condS_true, pur_add]
        rw [wrap_id (by omega) (by omega)]
        exact hJ6 _ _ ⟨(at_.tmod (total L : Int) + (total L : Int)).toNat, by rw [Int.toNat_of_nonneg (by omega)], by omega, rfl⟩
      · simp only [hneg, decide_false, condS_false]
        exact hJ6 _ _ ⟨(at_.tmod (total L : Int)).toNat, by rw [Int.toNat_of_nonneg (by omega)], by omega, rfl⟩
    rintro y u' ⟨k0, rfl, hk0, rfl⟩ _j
    obtain ⟨px, cx, rfl⟩ := h4.o.form
    refine jn0 (fun u' => ∃ (L1 L2 : List Ev) (e : Ev) (k : Nat) (i : Im) (X : ByteArray) (rv' : Value), L = L1 ++ e :: L2 ∧ e.rd[k]? = some i ∧ hd X = some 238 ∧ K0 w u' ∧
      Rd 6 u' (.slice px L.length cx) L.length (flat encE (L1 ++ { e with rv := rv', rd := e.rd.set k (i.1, i.2.1, X) } :: L2)) ∧ ∀ y ∈ L1 ++ { e with rv := rv', rd := e.rd.set k (i.1, i.2.1, X) } :: L2, EvR u' y) (fun J7 hJ7 => ?_) ?_
    · refine lp2 (fun m y z u5 => ∃ (i k : Nat), z = .int .i64 (i : Int) ∧ i ≤ L.length ∧ m = L.length - i ∧ y = .int .i64 (k : Int) ∧ k + total (L.take i) = k0 ∧ u5 = u') L.length ⟨0, k0, rfl, Nat.zero_le _, rfl, rfl, by simp [total], rfl⟩ ?_
      rintro m y z u5 ⟨i, k, rfl, hiL, rfl, rfl, hkt, rfl⟩ J8 hJ8 _j
      by_cases hil : i < L.length
      rotate_left
      · exfalso
        rw [List.take_of_length_le (by omega)] at hkt
        omega
      have hil' : ((i : Int) < (L.length : Int)) := by omega
      have htk : total (L.take (i + 1)) = total (L.take i) + L[i].rd.length := by rw [List.take_add_one, List.getElem?_eq_getElem hil]; exact total_snoc
      have hei := h4.t _ (List.getElem_mem hil)
      have hrd := h4.p.rd _ (List.getElem_mem hil)
      have hr10i := hr10 _ (List.getElem_mem hil)
      have hsplit : L = L.take i ++ L[i] :: L.drop (i + 1) := by rw [List.getElem_cons_drop, List.take_append_drop]
      obtain ⟨gx, cx', ee, _, _, _, _, fx, hcx⟩ := h4.o.at (by omega)
      injection ee with e1 _ e2
      subst e1 e2
      obtain ⟨p0, p1, p2, p3, p4, p5⟩ := ev_at (b := gx) (o := 0) (fun j hj => by rw [Nat.zero_add]; exact hcx j hj) (List.getElem?_eq_getElem hil)
      rw [Nat.zero_add] at p0 p1 p2 p3 p4 p5
      generalize hE : L[i] = e at hei hrd hsplit p0 p1 p2 p3 p4 p5 htk hr10i
      obtain ⟨pe, ce, hre⟩ := hei.ev.r.form
      have lnE : ∀ {k' : Value → Prop}, pur Try.prog (Builtin.len_ #[25] 3 #[e.rv]) k' = k' (.int .i64 (e.rd.length : Int)) := by intro k'; rw [hre]; exact ln_25
      simp only [ln_24, pur_lss, hil', decide_true, condS_true]
      rw [ix_24 hil, Nat.zero_add]
      simp only [fa_32_4]
      rw [rd_eq (rl_25 p4), lnE]
      by_cases hke : k < e.rd.length
      rotate_left
      · have hke' : ¬ ((k : Int) < (e.rd.length : Int)) := by omega
        simp only [pur_lss, hke', decide_false, condS_false]
        rw [ix_24 hil, Nat.zero_add]
        try simp only [fa_32_4]
        have htl := total_le hr10
        rw [rd_eq (rl_25 p4), lnE, pur_sub, pur_add, wrap_id (by omega) (by omega), wrap_succ (by omega)]
        exact hJ8 (L.length - (i + 1)) _ _ _ (by omega) ⟨i + 1, k - e.rd.length, rfl, by omega, rfl, by congr 1; omega, by omega, rfl⟩
      · have hke' : ((k : Int) < (e.rd.length : Int)) := by omega
        simp only [pur_lss, hke', decide_true, condS_true]
        rw [ix_24 hil, Nat.zero_add]
        try simp only [fa_32_4]
        rw [rd_eq (rl_25 p4)]
        refine cpy_im hei.ev.r (by omega) fun u6 x6 o6 k6 => ?_
        have hki : e.rd[k]? = some e.rd[k] := List.getElem?_eq_getElem hke
        obtain ⟨hh1, hh2⟩ := hrd _ (List.getElem_mem hke)
        generalize e.rd[k] = im at hki hh1 hh2
        obtain ⟨g6, c6, rfl, f61, f62, _, _, f6, _⟩ := o6.at (by omega)
        obtain ⟨m0, m1, m2⟩ := row_at o6 hki
        have sl1 : ∀ {k' : Value → Prop}, pur Try.prog (Instr.sliceAt 9 (.string im.2.2) (some (.int .i64 1)) none none) k' = k' (.string (im.2.2.extract 1 im.2.2.size)) := by
          intro k'
          exact strFrom (n := 1) (fun w => Try.runUnderlying9 w) (by omega)
        have hsa : (ByteArray.mk #[238]).size + (im.2.2.extract 1 im.2.2.size).size ≤ 9223372036854775807 := by rw [ByteArray.size_extract, hh2]; decide
        have hX : hd (⟨#[238]⟩ ++ im.2.2.extract 1 im.2.2.size) = some 238 := hd_app _ _
        rw [ix_25 hke, Nat.zero_add]
        simp only [fa_29_2]
        rw [rd_eq (rl_9 m2), sl1, pur_sadd hsa, ix_25 hke, Nat.zero_add]
        simp only [fa_29_2]
        generalize ByteArray.mk #[238] ++ im.2.2.extract 1 im.2.2.size = X at hX
        rw [st_9 one_str (by rw [m2]; rfl) f6]
        have o7 := o6.setZ (j := k * 3 + 2) (x := .string X) (by omega)
        rw [flat_set (enc := encM) encM_len hki (s' := (im.1, im.2.1, X)) (by omega) rfl] at o7
        rw [ix_24 hil, Nat.zero_add]
        simp only [fa_32_4]
        have hgx : gx < siz u5 := cel_lt p4
        have kA : Keep (fun q => q = g6) u5 (sto u6 g6 (k * 3 + 2) (.string X)) := (k6.mono (F' := fun q => q = g6) fun _ _ h => h.elim).sto (.inl rfl) _ _
        have oA := h4.o.keep kA fun q hq e => by
          have e : q = g6 := e
          have hq : gx = q := Option.some.inj hq
          omega
        have pA := kA.cel p4 (by omega)
        rw [st_25 one_slice (by rw [pA]; rfl) (oA.fre (g := gx) rfl)]
        have hLi : L[i]? = some e := by rw [List.getElem?_eq_getElem hil, hE]
        have oB := oA.setZ (j := i * 6 + 4) (x := .slice (some ⟨g6, 0, none⟩) e.rd.length c6) (by omega)
        rw [flat_set (enc := encE) encE_len hLi (s' := { e with rv := .slice (some ⟨g6, 0, none⟩) e.rd.length c6, rd := e.rd.set k (im.1, im.2.1, X) }) (by omega) rfl] at oB
        rw [List.set_eq_take_append_cons_drop, if_pos hil] at oB
        have kB : Keep (fun q => q = g6 ∨ q = gx) u5 (sto (sto u6 g6 (k * 3 + 2) (.string X)) gx (i * 6 + 4) (.slice (some ⟨g6, 0, none⟩) e.rd.length c6)) := (kA.mono (F' := fun q => q = g6 ∨ q = gx) fun _ _ h => .inl h).sto (.inl (.inr rfl)) _ _
        have hgB := h4.gB
        have fB : ∀ q cs, q ≠ g → Sh.blk u5 q = some (.cells cs tIm) → ¬ (q = g6 ∨ q = gx) := fun q cs _ hc hq => by
          have := blk_lt hc
          rcases hq with hq | hq
          · omega
          · obtain ⟨_, cs2, h2⟩ := h4.o.ty (g := gx) rfl
            rw [← hq, hc] at h2; injection h2 with h2; injection h2 with _ h2; exact absurd h2 (by decide)
        have oX : Sh.Own _ (siz u5) tIm 3 (.slice (some ⟨g6, 0, none⟩) e.rd.length c6) e.rd.length (flat encM (e.rd.set k (im.1, im.2.1, X))) := o7.keep ((Keep.refl (fun q => q = gx) (sto u6 g6 (k * 3 + 2) (.string X))).sto (.inl rfl) (i * 6 + 4) (.slice (some ⟨g6, 0, none⟩) e.rd.length c6)) fun q hq e => by
          have e : q = gx := e
          have hq : g6 = q := Option.some.inj hq
          omega
        have eN := (hei.keepF kB fB).ev
        refine hJ7 _ ⟨L.take i, L.drop (i + 1), e, k, im, X, _, hsplit, hki, hX, h4.k.trans' kB fun q hq e => ?_, oB.rd, fun y hy => ?_⟩
        · have := (h4.o.lt (g := gx) rfl).1
          have := h4.k.size
          rcases e with e | e <;> omega
        · rcases List.mem_append.1 hy with hy | hy
          · exact ((h4.t y (List.mem_of_mem_take hy)).keepF kB fB).ev
          · rcases List.mem_cons.1 hy with rfl | hy
            · exact { eN with r := by rw [List.length_set]; exact oX.rd, lr := by dsimp only; rw [List.length_set]; exact eN.lr }
            · exact ((h4.t y (List.mem_of_mem_drop hy)).keepF kB fB).ev
    · rintro u5 ⟨L1, L2, e, k, i, X, rv', hL, hi, hX, k5, r5, ev5⟩ _j
      have hp := h.p
      rw [hL] at hp hl30
      obtain ⟨j3, j4⟩ := hp.judge2 (rv := rv') (by omega) hi hX
      have hlen : L.length = (L1 ++ { e with rv := rv', rd := e.rd.set k (i.1, i.2.1, X) } :: L2).length := by rw [hL]; simp
      rw [hlen] at r5
      rw [hlen]
      refine judge_c r5 (by rw [← hlen]; omega) ev5 (fun u6 _ k6 => ?_) (fun u6 he => absurd j3 he)
      rw [j4]
      simp only [pur_ext2_0, pur_ext2_1]
      refine alive_c fun u7 k7 => ?_
      simp only [gd_hit, pur_not, Bool.not_false, pur_pick_t, pur_eql, decide_true]
      exact hq _ ((k5.trans k6).trans k7).none
end
end Go.Proofs.Ytmmnifbponhhfaa
