/- A history played, as the document plays it. Conditions: as it says. -/
import Derived.Test.YtmmnifbponhhfaaGreatTHistR
set_option linter.unusedSimpArgs false
set_option linter.unusedVariables false
namespace Go.Proofs.YtmmnifbponhhfaaGreatT
open Go.Sh Go.Sh.Hi
set_option maxRecDepth 100000
section
variable {w w' u u' : World} {Q : Value → World → Prop} {v x : Value} {B : Nat} {L l : List Ev} {e : Ev}
theorem BD.f0 {g : Nat} (h : BD w g e) : Sh.cel w g 0 = some (.int .i64 e.kind) := h.cel 0
theorem BD.f1 {g : Nat} (h : BD w g e) : Sh.cel w g 1 = some (.int .i64 e.node) := h.cel 1
theorem BD.f2 {g : Nat} (h : BD w g e) : Sh.cel w g 2 = some (.int .u64 e.epoch) := h.cel 2
theorem BD.f3 {g : Nat} (h : BD w g e) : Sh.cel w g 3 = some (.int .u64 e.lsn) := h.cel 3
theorem BD.f4 {g : Nat} (h : BD w g e) : Sh.cel w g 4 = some e.rv := h.cel 4
theorem BD.f5 {g : Nat} (h : BD w g e) : Sh.cel w g 5 = some e.wv := h.cel 5
theorem own_ty {t t' : TypeId} {B' z z' n n' q : Nat} {y : Value} {xs ys : List Value} (h : Sh.Own u B t z x n xs) (h' : Sh.Own u B' t' z' y n' ys) (ht : t ≠ t') (hq : x.ownBlock = some q) : y.ownBlock ≠ some q := fun e => by
  obtain ⟨_, cs, h1⟩ := h.ty hq
  obtain ⟨_, cs2, h2⟩ := h'.ty e
  rw [h1] at h2
  injection h2 with h2
  injection h2 with _ h2
  exact ht h2
/-- A guarded look at what an event has read. -/
theorem dread_g {ok : Bool} {D : List Im} {b : Nat} {va : Value} {K : Value → World → Prop} (ha : Rd 3 u va D.length (flat encM D)) (hD : D.length ≤ 100000) (hb : BD u b e) (he : EvR u e) (hK : ∀ u', K0 u u' → K (.bool (ok && readsF Z96 (dOf D) e.rd)) u') :
    gd (.bool ok) true (fun k w_41 => k va w_41) (fun t64_1 w_42 =>
    gd (.bool ok) true (fun k_19 w_43 => pur Tryz.prog (Instr.fieldAt 71 (.pointer (some ⟨b, 0, none⟩)) 4) fun t65 => k_19 t65 w_43) (fun t65_1 w_44 =>
    gd (.bool ok) true (fun k_20 w_45 => rd Tryz.prog (Instr.loadAt 53 t65_1) (fun t66 => k_20 t66 w_45) w_45) (fun t66_1 w_46 =>
    gd (.bool ok) true (fun k_21 w_47 => callS Tryz.prog 33 #[t64_1, t66_1] (fun t67 w_48 => k_21 t67 w_48) w_47) (fun t67_1 w_49 =>
    pur Tryz.prog (pickS (.bool ok) t67_1 (.bool false)) fun t68 => K t68 w_49) w_46) w_44) w_42) u := by
  cases ok with
  | true =>
    simp only [gd_hit, fa_71_4, Nat.zero_add]
    rw [rd_eq (rl_53 hb.f4)]
    refine dreads_c ha hD he.r he.lr fun u' k => ?_
    simp only [pur_pick_t]
    exact hK u' k
  | false =>
    simp only [gd_ft, gd_undef, pur_pick_f]
    exact hK u (K0.refl _)
theorem dread_g2 {ok : Bool} {D : List Im} {b o j : Nat} {va vt : Value} {K : Value → World → Prop} (ha : Rd 3 u va D.length (flat encM D)) (hD : D.length ≤ 100000) (hix : ∀ {k' : Value → Prop}, pur Tryz.prog (Instr.indexAt 44 vt (.int .i64 (j : Int))) k' = k' (.pointer (some ⟨b, o, none⟩))) (hb : Sh.cel u b (o + 4) = some e.rv) (he : EvR u e) (hK : ∀ u', K0 u u' → K (.bool (ok && readsF Z96 (dOf D) e.rd)) u') :
    gd (.bool ok) true (fun k_36 w_95 => k_36 va w_95) (fun t148_1 w_96 =>
    gd (.bool ok) true (fun k_37 w_97 => k_37 vt w_97) (fun t149_1 w_98 =>
    gd (.bool ok) true (fun k_38 w_99 => k_38 (.int .i64 (j : Int)) w_99) (fun t150_1 w_100 =>
    gd (.bool ok) true (fun k_39 w_101 => pur Tryz.prog (Instr.indexAt 44 t149_1 t150_1) fun t151 => k_39 t151 w_101) (fun t151_1 w_102 =>
    gd (.bool ok) true (fun k_40 w_103 => pur Tryz.prog (Instr.fieldAt 71 t151_1 4) fun t152 => k_40 t152 w_103) (fun t152_1 w_104 =>
    gd (.bool ok) true (fun k_41 w_105 => rd Tryz.prog (Instr.loadAt 53 t152_1) (fun t153 => k_41 t153 w_105) w_105) (fun t153_1 w_106 =>
    gd (.bool ok) true (fun k_42 w_107 => callS Tryz.prog 33 #[t148_1, t153_1] (fun t154 w_108 => k_42 t154 w_108) w_107) (fun t154_1 w_109 =>
    pur Tryz.prog (pickS (.bool ok) t154_1 (.bool false)) fun t155 => K t155 w_109) w_106) w_104) w_102) w_100) w_98) w_96) u := by
  cases ok with
  | true =>
    simp only [gd_hit, hix, fa_71_4]
    rw [rd_eq (rl_53 hb)]
    refine dreads_c ha hD he.r he.lr fun u' k => ?_
    simp only [pur_pick_t]
    exact hK u' k
  | false =>
    simp only [gd_ft, gd_undef, pur_pick_f]
    exact hK u (K0.refl _)
theorem allW_len : ∀ l : List Ev, (∀ x ∈ l, x.wr.length ≤ 100) → (allW l).length ≤ 100 * l.length := by
  refine rev_ind (fun _ => by simp [allW]) fun l e ih h => ?_
  rw [allW_snoc, List.length_append]
  have h1 := ih fun x hx => h x (by simp [hx])
  have h2 := h e (by simp)
  have h3 := writeD_len (D := allW l) (l := e.wr)
  simp only [List.length_cons, List.length_nil]
  omega
theorem stillF_mem {e y : Ev} {cut : Int} : ∀ l : List Ev, y ∈ stillF e cut l → y ∈ l := by
  refine rev_ind (fun h => h) fun l z ih h => ?_
  rw [stillF_snoc] at h
  rcases List.mem_append.1 h with h | h
  · exact List.mem_append_left _ (ih h)
  · split at h
    · cases h
    · exact List.mem_append_right _ h
theorem stillF_len {e : Ev} {cut : Int} : ∀ l : List Ev, (stillF e cut l).length ≤ l.length := by
  refine rev_ind (Nat.le_refl _) fun l z ih => ?_
  rw [stillF_snoc, List.length_append, List.length_append]
  split <;> simp <;> omega
/-- What stands between two events. -/
structure PD (w : World) (l : List Ev) (i : Nat) (u : World) (s : DSt) (vt vg va : Value) : Prop where
  k : K0 w u
  t : Sh.Own u (siz w) tDv 6 vt s.there.length (flat encE s.there)
  g : Sh.Own u (siz w) tDv 6 vg s.gone.length (flat encE s.gone)
  a : Sh.Own u (siz w) tIm 3 va s.a.length (flat encM s.a)
  dis : ∀ q, vt.ownBlock = some q → vg.ownBlock ≠ some q
  st : ∀ x ∈ s.there, x ∈ l
  nt : s.there.length ≤ i
  ng : s.gone.length ≤ i
  sa : s.a = allW s.there
variable {i : Nat} {s : DSt} {vt vg va vc : Value} {cuts : List Int}
theorem PD.k0 (h : PD w l i u s vt vg va) (k : K0 u u') : PD w l i u' s vt vg va :=
  { h with k := h.k.trans k, t := h.t.keep k fun _ _ => id, g := h.g.keep k fun _ _ => id, a := h.a.keep k fun _ _ => id }
theorem PD.up (h : PD w l i u s vt vg va) : PD w l (i + 1) u s vt vg va := { h with nt := by have := h.nt; omega, ng := by have := h.ng; omega }
theorem PD.na (h : PD w l i u s vt vg va) (ho : ∀ x ∈ l, x.wr.length ≤ 100) : s.a.length ≤ 100 * i := by
  have := allW_len s.there fun x hx => ho x (h.st x hx)
  rw [h.sa]
  have := h.nt
  omega
set_option maxHeartbeats 8000000 in
theorem dplay_c (hr : Rd 6 w v l.length (flat encE l)) (hl : l.length ≤ 300) (ho : ∀ x ∈ l, EvR w x) (hC : Rd 1 w vc cuts.length (flat encN cuts)) (hcl : cuts.length ≤ 100000)
    (hq : ∀ w' v', K0 w w' → Sh.Own w' (siz w) tIm 3 v' (playD Z96 l cuts).a.length (flat encM (playD Z96 l cuts).a) → (playD Z96 l cuts).a.length ≤ 100 * l.length → Q (.tuple #[.bool (okF Z96 l cuts), v']) w') :
    callS Tryz.prog 13 #[v, vc] Q w := by
  refine ref13 ?_
  unfold S13
  obtain ⟨pa, ca, rfl⟩ := hr.form
  obtain ⟨pc, cc, rfl⟩ := hC.form
  have how : ∀ x ∈ l, x.wr.length ≤ 100 := fun x hx => (ho x hx).lw
  refine lp5 (fun m vt vg va vo vi u => ∃ i : Nat, vi = .int .i64 (i : Int) ∧ i ≤ l.length ∧ m = l.length - i ∧ vo = .bool (playD Z96 (l.take i) cuts).ok ∧ PD w l i u (playD Z96 (l.take i) cuts) vt vg va) l.length
    ⟨0, rfl, Nat.zero_le _, rfl, rfl, ⟨K0.refl _, Sh.Own.nil _ _ _ _, Sh.Own.nil _ _ _ _, Sh.Own.nil _ _ _ _, fun q h => (by cases h), fun x hx => (by cases hx), Nat.le_refl _, Nat.le_refl _, rfl⟩⟩ ?_
  rintro m vt vg va vo vi u ⟨i, rfl, hi, rfl, rfl, h⟩ J hJ _j
  by_cases hil : i < l.length
  · have hi' : ((i : Int) < (l.length : Int)) := by omega
    obtain ⟨g, o, c, ee, _, hc⟩ := (hr.keep0 h.k).at (by omega)
    injection ee with e1 _ e2
    subst e1 e2
    obtain ⟨p0, p1, p2, p3, p4, p5⟩ := ev_at hc (List.getElem?_eq_getElem hil)
    have hx := ho _ (List.getElem_mem hil)
    have hxl := List.getElem_mem hil
    have hsn : playD Z96 (l.take (i + 1)) cuts = stepD Z96 cuts (playD Z96 (l.take i) cuts) l[i] := by rw [List.take_add_one, List.getElem?_eq_getElem hil]; exact playD_snoc
    have hna := h.na how
    simp only [ln_44, pur_lss, hi', decide_true, condS_true]
    refine jn4 (fun vt vg va vo u' => vo = .bool (playD Z96 (l.take (i + 1)) cuts).ok ∧ PD w l (i + 1) u' (playD Z96 (l.take (i + 1)) cuts) vt vg va) (fun J1 hJ1 => ?_) ?_
    rotate_left
    · rintro a b c d u' ⟨rfl, h'⟩ _j
      rw [pur_add, wrap_succ (i := i) (by omega)]
      exact hJ (l.length - (i + 1)) _ _ _ _ _ _ (by omega) ⟨i + 1, rfl, by omega, rfl, rfl, h'⟩
    rw [hsn] at hJ1
    generalize playD Z96 (l.take i) cuts = s at h hJ1 hna
    simp only [ix_44 hil, rd_eq (rlD p0 p1 p2 p3 p4 p5)]
    generalize l[i] = x at p0 p1 p2 p3 p4 p5 hx hxl hJ1
    refine al_dv fun u1 b k1 z1 y1 b1 => ?_
    refine st_dv (e := x) b1 hx.ones.1 hx.ones.2 fun u2 b2 k2 => ?_
    have k02 : K0 u u2 := k1.trans' k2 fun q hq e => by have e : q = b := e; omega
    have h2 := h.k0 k02
    have hx2 := hx.keep0 h2.k
    have hnt := h.nt
    have hng := h.ng
    have hgb : ∀ q, vg.ownBlock = some q → q < siz u := fun q hq => (h.g.lt hq).2
    clear h p0 p1 p2 p3 p4 p5 hc b1 k1 k2
    obtain ⟨pg, cg, hvg⟩ := h2.g.form
    obtain ⟨pt, ct, hvt⟩ := h2.t.form
    have lnG : ∀ {k' : Value → Prop}, pur Tryz.prog (Builtin.len_ #[44] 3 #[vg]) k' = k' (.int .i64 (s.gone.length : Int)) := by intro k'; rw [hvg]; exact ln_44
    have lnT : ∀ {k' : Value → Prop}, pur Tryz.prog (Builtin.len_ #[44] 3 #[vt]) k' = k' (.int .i64 (s.there.length : Int)) := by intro k'; rw [hvt]; exact ln_44
    have hsz := h2.k.size
    simp only [fa_71_0, rd_eq (rl_3 b2.f0)]
    by_cases c1 : x.kind = 1
    · simp only [pur_eql, c1, decide_true, condS_true]
      have hst : stepD Z96 cuts s x = if s.gone.any (fun g => same g x) = true then s else { s with a := writeD s.a x.wr, ok := s.ok && readsF Z96 (dOf s.a) x.rd, there := s.there ++ [x] } := by unfold stepD; rw [if_pos c1]
      rw [hst] at hJ1
      refine lpc2 s.gone.length (by omega) (fun j a u' => a = .bool ((s.gone.take j).any fun g => same g x) ∧ K0 u2 u') ⟨rfl, K0.refl _⟩ (fun j a u3 hj ⟨ha, k3⟩ J3 hJ3 => ?_) (fun a u3 ⟨ha, k3⟩ J3 => ?_)
      · intro _j
        subst ha
        have hj' : ((j : Int) < (s.gone.length : Int)) := by omega
        have kd : K0 u3 u3.drew := (K0.refl u3).drew
        have k3d := k3.trans kd
        obtain ⟨gg, cg', eg, _, _, _, _, _, hcg⟩ := (h2.k0 k3d).g.at (by omega)
        obtain ⟨q0, q1, q2, q3, q4, q5⟩ := ev_at (b := gg) (o := 0) (fun n hn => by rw [Nat.zero_add]; exact hcg n hn) (List.getElem?_eq_getElem hj)
        rw [Nat.zero_add] at q0 q1 q2 q3 q4 q5
        have ixG : ∀ {k' : Value → Prop}, pur Tryz.prog (Instr.indexAt 44 vg (.int .i64 (j : Int))) k' = k' (.pointer (some ⟨gg, j * 6, none⟩)) := by intro k'; rw [eg, ix_44 hj, Nat.zero_add]
        have han : ((s.gone.take (j + 1)).any fun g => same g x) = ((s.gone.take j).any (fun g => same g x) || same s.gone[j] x) := by rw [List.take_add_one, List.getElem?_eq_getElem hj, List.any_append]; simp
        rw [han] at hJ3
        simp only [lnG, pur_lss, hj', decide_true, condS_true]
        have x1 := (b2.keep0 k3d).f1
        have x2 := (b2.keep0 k3d).f2
        cases hb : (s.gone.take j).any fun g => same g x with
        | true =>
          rw [hb] at hJ3
          simp only [gd_tf, gd_undef, pur_pick_t, pur_add]
          exact hJ3 _ _ ⟨rfl, k3d⟩
        | false =>
          rw [hb] at hJ3
          by_cases e1 : s.gone[j].node = x.node
          · by_cases e2 : s.gone[j].epoch = x.epoch
            · simp only [gd_hit, ixG, fa_71_1, fa_71_2, Nat.zero_add, rd_eq (rl_3 q1), rd_eq (rl_3 x1), rd_eq (rl_64 q2), rd_eq (rl_64 x2), pur_eql, e1, e2, decide_true, pur_pick_t, pur_pick_f, pur_add]
              exact hJ3 _ _ ⟨by simp [same, e1, e2], k3d⟩
            · simp only [gd_hit, ixG, fa_71_1, fa_71_2, Nat.zero_add, rd_eq (rl_3 q1), rd_eq (rl_3 x1), rd_eq (rl_64 q2), rd_eq (rl_64 x2), pur_eql, e1, e2, decide_true, decide_false, pur_pick_t, pur_pick_f, pur_add]
              exact hJ3 _ _ ⟨by simp [same, e1, e2], k3d⟩
          · simp only [gd_hit, ixG, fa_71_1, Nat.zero_add, rd_eq (rl_3 q1), rd_eq (rl_3 x1), pur_eql, e1, decide_false, gd_ft, gd_undef, pur_pick_t, pur_pick_f, pur_add]
            exact hJ3 _ _ ⟨by simp [same, e1], k3d⟩
      · intro _j
        subst ha
        have hj' : ¬ ((s.gone.length : Int) < (s.gone.length : Int)) := by omega
        rw [List.take_length]
        simp only [lnG, pur_lss, hj', decide_false, condS_false]
        have h3 := h2.k0 k3
        cases hb : s.gone.any fun g => same g x with
        | true =>
          rw [if_pos hb] at hJ1
          simp only [condS_true]
          exact hJ1 _ _ _ _ _ ⟨rfl, h3.up⟩
        | false =>
          rw [if_neg (by rw [hb]; decide)] at hJ1
          simp only [condS_false]
          refine dread_g h3.a.rd (by omega) (b2.keep0 k3) (hx2.keep0 k3) fun u4 k4 => ?_
          have h4 := h3.k0 k4
          have b4 := b2.keep0 (k3.trans k4)
          have hx4 := hx2.keep0 (k3.trans k4)
          simp only [fa_71_5, Nat.zero_add, rd_eq (rl_53 b4.f5)]
          refine dwrite_c h4.a h4.k.size (by omega) hx4.q hx4.lw fun u5 v5 k5 o5 => ?_
          have h5 := h4.k0 k5
          refine ld_dv (b4.keep0 k5) ?_
          refine push_dv h5.t h5.k hx.ones.1 hx.ones.2 (by omega) fun u6 x6 k6 o6 kk hn => ?_
          refine hJ1 _ _ _ _ _ ⟨rfl, ⟨k6, o6, h5.g.keep kk fun q hq e => h5.dis q e hq, o5.keep kk fun q hq e => own_ty h5.t o5 (by decide) e hq, fun q hq e => ?_, fun y hy => ?_, ?_, ?_, ?_⟩⟩
          · rcases hn q hq with h | h
            · exact h5.dis q h e
            · have := (h5.g.lt e).2; omega
          · rcases List.mem_append.1 hy with hy | hy
            · exact h5.st y hy
            · rw [List.mem_singleton.1 hy]; exact hxl
          · have := h5.nt; simp; omega
          · have := h5.ng; dsimp only; omega
          · dsimp only; rw [allW_snoc, h5.sa]
    · by_cases c3 : x.kind = 3
      · simp only [pur_eql, c1, decide_false, condS_false]
        simp only [c3, decide_true, condS_true]
        have hst : stepD Z96 cuts s x = { s with a := allW (stillF x (cuts.getD s.gone.length 0) s.there), there := stillF x (cuts.getD s.gone.length 0) s.there, gone := s.gone ++ [x] } := by unfold stepD; rw [if_neg c1, if_pos c3]
        rw [hst] at hJ1
        generalize hcut : cuts.getD s.gone.length 0 = cut at hJ1
        refine jn1 (fun y u' => y = .int .u64 cut ∧ u' = u2) (fun J3 hJ3 => ?_) ?_
        · by_cases hgc : s.gone.length < cuts.length
          · have hgc' : ((s.gone.length : Int) < (cuts.length : Int)) := by omega
            obtain ⟨gc, oc, cc', ec, _, hcc⟩ := (hC.keep0 h2.k).at (by omega)
            injection ec with e1 _ e2
            subst e1 e2
            have cell : Sh.cel u2 gc (oc + s.gone.length) = some (.int .u64 cut) := by
              have := flat_get (enc := encN) encN_len (l := cuts) (i := s.gone.length) (s := cuts[s.gone.length]) (List.getElem?_eq_getElem hgc) (j := 0) (by omega)
              rw [Nat.mul_one, Nat.add_zero] at this
              rw [hcc _ (by omega), this, ← hcut]; simp [List.getD_eq_getElem?_getD, List.getElem?_eq_getElem hgc]
            simp only [lnG, ln_23, pur_lss, hgc', decide_true, condS_true, ix_23 hgc, Nat.mul_one, rd_eq (rl_64 cell)]
            exact hJ3 _ _ ⟨rfl, rfl⟩
          · have hgc' : ¬ ((s.gone.length : Int) < (cuts.length : Int)) := by omega
            simp only [lnG, ln_23, pur_lss, hgc', decide_false, condS_false]
            exact hJ3 _ _ ⟨by rw [← hcut, List.getD_eq_getElem?_getD, List.getElem?_eq_none (by omega)]; rfl, rfl⟩
        rintro y u' ⟨rfl, rfl⟩ _j
        refine ld_dv b2 ?_
        refine push_dv h2.g h2.k hx.ones.1 hx.ones.2 (by omega) fun u3 x3 k3 o3 kk hn => ?_
        have b3 := b2.keep kk fun e => by have := hgb b e; omega
        have t3 := h2.t.keep kk fun q hq e => h2.dis q hq e
        have s3 := k3.size
        refine lpc3 s.there.length (by omega) (fun j a c u' => K0 u3 u' ∧ Sh.Own u' (siz u3) tIm 3 a (allW (stillF x cut (s.there.take j))).length (flat encM (allW (stillF x cut (s.there.take j)))) ∧ Sh.Own u' (siz u3) tDv 6 c (stillF x cut (s.there.take j)).length (flat encE (stillF x cut (s.there.take j)))) ⟨K0.refl _, Sh.Own.nil _ _ _ _, Sh.Own.nil _ _ _ _⟩ (fun j a bb u4 hj ⟨k4, oa, ob⟩ J4 hJ4 => ?_) (fun a bb u4 ⟨k4, oa, ob⟩ J4 => ?_)
        · intro _j
          have hj' : ((j : Int) < (s.there.length : Int)) := by omega
          have t4 := t3.keep k4 fun _ _ => id
          have hw4 := k3.trans k4
          obtain ⟨gt, ct', et, _, _, _, _, _, hct⟩ := t4.at (by omega)
          obtain ⟨q0, q1, q2, q3, q4, q5⟩ := ev_at (b := gt) (o := 0) (fun n hn => by rw [Nat.zero_add]; exact hct n hn) (List.getElem?_eq_getElem hj)
          rw [Nat.zero_add] at q0 q1 q2 q3 q4 q5
          have ixT : ∀ {k' : Value → Prop}, pur Tryz.prog (Instr.indexAt 44 vt (.int .i64 (j : Int))) k' = k' (.pointer (some ⟨gt, j * 6, none⟩)) := by intro k'; rw [et, ix_44 hj, Nat.zero_add]
          have hyl := h2.st _ (List.getElem_mem hj)
          have hy := ho _ hyl
          have hss : stillF x cut (s.there.take (j + 1)) = stillF x cut (s.there.take j) ++ if same s.there[j] x = true ∧ cut < countF (s.there.take j) s.there[j] then [] else [s.there[j]] := by rw [List.take_add_one, List.getElem?_eq_getElem hj]; exact stillF_snoc
          rw [hss] at hJ4
          have hSl : (stillF x cut (s.there.take j)).length ≤ i := by have := stillF_len (e := x) (cut := cut) (s.there.take j); rw [List.length_take] at this; omega
          have hSw := allW_len (stillF x cut (s.there.take j)) fun z hz => how z (h2.st z (List.mem_of_mem_take (stillF_mem _ hz)))
          generalize stillF x cut (s.there.take j) = S at oa ob hJ4 hSl hSw
          have dc : ∀ {u5 : World} {K : Value → World → Prop}, K0 u4 u5 → (∀ u6, K0 u5 u6 → K (.int .u64 (countF (s.there.take j) s.there[j])) u6) → callS Tryz.prog 35 #[vt, .int .i64 (j : Int)] K u5 := fun k hK => dcount_c (t4.keep k fun _ _ => id).rd (by omega) hj hK
          generalize countF (s.there.take j) s.there[j] = cn at hJ4 dc
          generalize s.there[j] = y at q0 q1 q2 q3 q4 q5 hyl hy hJ4
          simp only [lnT, pur_lss, hj', decide_true, condS_true]
          refine jn2 (fun a c u' => K0 u3 u' ∧ Sh.Own u' (siz u3) tIm 3 a (allW (S ++ if same y x = true ∧ cut < cn then [] else [y])).length (flat encM (allW (S ++ if same y x = true ∧ cut < cn then [] else [y]))) ∧ Sh.Own u' (siz u3) tDv 6 c (S ++ if same y x = true ∧ cut < cn then [] else [y]).length (flat encE (S ++ if same y x = true ∧ cut < cn then [] else [y]))) (fun J5 hJ5 => ?_) ?_
          rotate_left
          · rintro a' c' u' h' _j
            rw [pur_add]
            exact hJ4 _ _ _ h'
          simp only [ixT, rd_eq (rlD q0 q1 q2 q3 q4 q5)]
          refine al_dv fun u5 bz k5 z5 _ b5 => ?_
          refine st_dv (e := y) b5 hy.ones.1 hy.ones.2 fun u6 b6 k6 => ?_
          have k46 : K0 u4 u6 := k5.trans' k6 fun q hq e => by have e : q = bz := e; omega
          have bx6 := b3.keep0 (k4.trans k46)
          simp only [fa_71_1, Nat.zero_add, rd_eq (rl_3 b6.f1), rd_eq (rl_3 bx6.f1)]
          have add : ∀ u7, K0 u6 u7 → ¬ (same y x = true ∧ cut < cn) → rd Tryz.prog (Instr.loadAt 71 (.pointer (some ⟨bz, 0, none⟩))) (fun t123 => act Tryz.prog (Instr.buildSlice 44 1 #[(0, t123)]) (fun t124 w_80 =>
              act Tryz.prog (Builtin.append_ #[44, 44] 44 #[bb, t124]) (fun t125 w_81 => pur Tryz.prog (Instr.fieldAt 71 (.pointer (some ⟨bz, 0, none⟩)) 5) fun t127 =>
              rd Tryz.prog (Instr.loadAt 53 t127) (fun t128 => callS Tryz.prog 34 #[a, t128] (fun t129 w_82 => J5 t129 t125 w_82) w_81) w_81) w_80) u7) u7 := fun u7 k7 hn7 => by
            rw [if_neg hn7] at hJ5
            have k47 := k46.trans k7
            have ob7 := ob.keep k47 fun _ _ => id
            have oa7 := oa.keep k47 fun _ _ => id
            refine ld_dv (b6.keep0 k7) ?_
            refine push_dv ob7 (k4.trans k47) hy.ones.1 hy.ones.2 (by omega) fun u8 x8 k8 o8 kk8 hn8 => ?_
            have b8 := (b6.keep0 k7).keep kk8 fun e => by have := (ob.lt e).2; omega
            have oa8 := oa7.keep kk8 fun q hq e => own_ty ob7 oa7 (by decide) e hq
            have hy8 := hy.keep0 (k3.trans k8)
            simp only [fa_71_5, Nat.zero_add, rd_eq (rl_53 b8.f5)]
            refine dwrite_c oa8 k8.size (by omega) hy8.q hy8.lw fun u9 x9 k9 o9 => ?_
            refine hJ5 _ _ _ ⟨k8.trans k9, ?_, o8.keep k9 fun _ _ => id⟩
            rw [allW_snoc]; exact o9
          by_cases e1 : y.node = x.node
          · simp only [pur_eql, e1, decide_true, gd_hit, fa_71_2, Nat.zero_add, rd_eq (rl_64 b6.f2), rd_eq (rl_64 bx6.f2)]
            by_cases e2 : y.epoch = x.epoch
            · simp only [pur_eql, e2, decide_true, pur_pick_t, gd_hit]
              refine dc k46 fun u7 k7 => ?_
              have hsm : same y x = true := same_iff.2 ⟨e1, e2⟩
              by_cases hgt : cut < cn
              · simp only [pur_gtr, hgt, decide_true, pur_pick_t, condS_true]
                rw [if_pos ⟨hsm, hgt⟩, List.append_nil] at hJ5
                have k47 := k46.trans k7
                exact hJ5 _ _ _ ⟨k4.trans k47, oa.keep k47 fun _ _ => id, ob.keep k47 fun _ _ => id⟩
              · simp only [pur_gtr, hgt, decide_false, pur_pick_t, condS_false]
                exact add u7 k7 fun h => hgt h.2
            · simp only [pur_eql, e2, decide_false, pur_pick_t, gd_ft, gd_undef, pur_pick_f, condS_false]
              exact add u6 (K0.refl _) fun h => e2 (same_iff.1 h.1).2
          · simp only [pur_eql, e1, decide_false, gd_ft, gd_undef, pur_pick_f, condS_false]
            exact add u6 (K0.refl _) fun h => e1 (same_iff.1 h.1).1
        · intro _j
          have hj' : ¬ ((s.there.length : Int) < (s.there.length : Int)) := by omega
          rw [List.take_length] at oa ob
          simp only [lnT, pur_lss, hj', decide_false, condS_false]
          refine hJ1 _ _ _ _ _ ⟨rfl, ⟨k3.trans k4, ob.le s3, o3.keep k4 fun _ _ => id, oa.le s3, fun q hq e => ?_, fun z hz => h2.st z (stillF_mem _ hz), ?_, ?_, rfl⟩⟩
          · have := (ob.lt hq).1
            have := (o3.lt e).2
            omega
          · have := stillF_len (e := x) (cut := cut) s.there
            dsimp only; omega
          · simp; omega
      · by_cases c4 : x.kind = 4
        · simp only [pur_eql, c1, c3, decide_false, condS_false]
          simp only [c4, decide_true, condS_true]
          refine dread_g h2.a.rd (by omega) b2 hx2 fun u4 k4 => ?_
          refine hJ1 _ _ _ _ _ ⟨?_, ?_⟩
          · unfold stepD; rw [if_neg c1, if_neg c3, if_pos c4]
          · unfold stepD; rw [if_neg c1, if_neg c3, if_pos c4]
            have h4 := (h2.k0 k4).up
            exact { h4 with }
        · simp only [pur_eql, c1, c3, c4, decide_false, condS_false]
          refine hJ1 _ _ _ _ _ ⟨?_, ?_⟩
          · unfold stepD; rw [if_neg c1, if_neg c3, if_neg c4]
          · unfold stepD; rw [if_neg c1, if_neg c3, if_neg c4]
            exact h2.up
  · have hi' : ¬ ((i : Int) < (l.length : Int)) := by omega
    rw [List.take_of_length_le (by omega)] at h
    rw [List.take_of_length_le (by omega)]
    simp only [ln_44, pur_lss, hi', decide_false, condS_false]
    have hno : ∀ x ∈ l, 0 ≤ x.lsn := fun x hx => (ho x hx).ls.1
    have hok := ok_doc (z := Z96) (cuts := cuts) hno
    unfold okD at hok
    rw [hok] at hq
    clear hok
    have hna := h.na how
    generalize playD Z96 l cuts = s at h hq hna
    have hnt := h.nt
    obtain ⟨pt, ct, hvt⟩ := h.t.form
    have lnT : ∀ {k' : Value → Prop}, pur Tryz.prog (Builtin.len_ #[44] 3 #[vt]) k' = k' (.int .i64 (s.there.length : Int)) := by intro k'; rw [hvt]; exact ln_44
    refine lpc3 s.there.length (by omega) (fun j a c u' => K0 u u' ∧ a = .bool (s.ok && (aloneD Z96 (s.there.take j)).2) ∧ Sh.Own u' (siz u) tIm 3 c (aloneD Z96 (s.there.take j)).1.length (flat encM (aloneD Z96 (s.there.take j)).1)) ⟨K0.refl _, by simp [aloneD], Sh.Own.nil _ _ _ _⟩ (fun j a bb u4 hj ⟨k4, ha, ob⟩ J4 hJ4 => ?_) (fun a bb u4 ⟨k4, ha, ob⟩ J4 => ?_)
    · intro _j
      subst ha
      have hj' : ((j : Int) < (s.there.length : Int)) := by omega
      have h4 := h.k0 k4
      obtain ⟨gt, ct', et, _, _, _, _, _, hct⟩ := h4.t.at (by omega)
      obtain ⟨q0, q1, q2, q3, q4, q5⟩ := ev_at (b := gt) (o := 0) (fun n hn => by rw [Nat.zero_add]; exact hct n hn) (List.getElem?_eq_getElem hj)
      rw [Nat.zero_add] at q0 q1 q2 q3 q4 q5
      have ixT : ∀ {k' : Value → Prop}, pur Tryz.prog (Instr.indexAt 44 vt (.int .i64 (j : Int))) k' = k' (.pointer (some ⟨gt, j * 6, none⟩)) := by intro k'; rw [et, ix_44 hj, Nat.zero_add]
      have hyl := h.st _ (List.getElem_mem hj)
      have hy := (ho _ hyl).keep0 h4.k
      have hsn : aloneD Z96 (s.there.take (j + 1)) = (writeD (aloneD Z96 (s.there.take j)).1 s.there[j].wr, (aloneD Z96 (s.there.take j)).2 && readsF Z96 (dOf (aloneD Z96 (s.there.take j)).1) s.there[j].rd) := by rw [List.take_add_one, List.getElem?_eq_getElem hj]; exact aloneD_snoc
      rw [hsn] at hJ4
      have hDl := allW_len (s.there.take j) fun z hz => how z (h.st z (List.mem_of_mem_take hz))
      rw [← alone_allW (z := Z96), List.length_take] at hDl
      generalize aloneD Z96 (s.there.take j) = D at ob hJ4 hDl
      generalize s.there[j] = y at q0 q1 q2 q3 q4 q5 hyl hy hJ4
      simp only [lnT, pur_lss, hj', decide_true, condS_true]
      refine dread_g2 ob.rd (by omega) (by intro k'; exact ixT) q4 hy fun u5 k5 => ?_
      simp only [ixT, fa_71_5, rd_eq (rl_53 (k5.cel q5 id))]
      refine dwrite_c (ob.keep k5 fun _ _ => id) (by have := k4.size; have := k5.size; omega) (by omega) (hy.keep0 k5).q hy.lw fun u6 x6 k6 o6 => ?_
      rw [pur_add]
      exact hJ4 _ _ _ ⟨(k4.trans k5).trans k6, by rw [Bool.and_assoc], o6⟩
    · intro _j
      subst ha
      have hj' : ¬ ((s.there.length : Int) < (s.there.length : Int)) := by omega
      simp only [lnT, pur_lss, hj', decide_false, condS_false]
      rw [List.take_length]
      exact hq u4 va (h.k.trans k4) (h.a.keep k4 fun _ _ => id) (by omega)
end
end Go.Proofs.YtmmnifbponhhfaaGreatT
