/- HistVanish: what it computes: true. Conditions: none. -/
import Derived.Test.YtmmnifbponhhfaaHistJ
import Derived.Test.YtmmnifbponhhfaaHistI
set_option linter.unusedSimpArgs false
set_option linter.unusedVariables false
namespace Go.Proofs.Ytmmnifbponhhfaa
open Go.Sh Go.Sh.Hi
set_option maxRecDepth 100000
section
variable {w u u' : World} {Q : Value → World → Prop} {L : List Ev} {x v : Value} {e : Ev}
/-- An event whose images lie in rows of images. -/
structure EvT (w : World) (e : Ev) : Prop where
  ev : EvR w e
  tr : ∀ g, e.rv.ownBlock = some g → ∃ cs, Sh.blk w g = some (.cells cs tIm)
  tw : ∀ g, e.wv.ownBlock = some g → ∃ cs, Sh.blk w g = some (.cells cs tIm)
theorem EvT.keep0 (h : EvT u e) (k : K0 u u') : EvT u' e :=
  ⟨h.ev.keep0 k, fun g hg => let ⟨cs, hc⟩ := h.tr g hg; ⟨cs, k.blk hc id⟩, fun g hg => let ⟨cs, hc⟩ := h.tw g hg; ⟨cs, k.blk hc id⟩⟩
theorem EvT.keepO {B n : Nat} {xs : List Value} (h : EvT u e) (o : Sh.Own u B tEv 6 x n xs) (k : Keep (fun g => x.ownBlock = some g) u u') : EvT u' e := by
  have ne : ∀ {g : Nat} {cs : Array Value}, Sh.blk u g = some (.cells cs tIm) → ¬ x.ownBlock = some g := fun hc hg => by
    obtain ⟨_, cs2, h2⟩ := o.ty hg
    rw [hc] at h2; injection h2 with h2; injection h2 with _ h2; exact absurd h2 (by decide)
  refine ⟨{ h.ev with r := h.ev.r.keep k fun g hg _ => ?_, q := h.ev.q.keep k fun g hg _ => ?_ }, fun g hg => ?_, fun g hg => ?_⟩
  · obtain ⟨cs, hc⟩ := h.tr g hg; exact ne hc
  · obtain ⟨cs, hc⟩ := h.tw g hg; exact ne hc
  · obtain ⟨cs, hc⟩ := h.tr g hg; exact ⟨cs, k.blk hc (ne hc)⟩
  · obtain ⟨cs, hc⟩ := h.tw g hg; exact ⟨cs, k.blk hc (ne hc)⟩
theorem bld_imT {i : Im} {K : Value → World → Prop} (h : ∀ u' v, K0 u u' → Rd 3 u' v 1 (flat encM [i]) → Go.Sh.one v = true → (∀ g, v.ownBlock = some g → ∃ cs, Sh.blk u' g = some (.cells cs tIm)) → K v u') : act Try.prog (Instr.buildSlice 25 1 #[(0, agI i)]) K u := by
  rw [show agI i = .agg #[.int .i64 i.1, .int .u64 i.2.1, .string i.2.2] from rfl, bs_25]
  exact h _ _ ((K0.refl u).alloc _) ⟨rfl, .inr ⟨siz u, 0, 1, rfl, by omega, fun j hj => by rw [Nat.zero_add, cel_alloc_new]; simp [flat]⟩⟩ rfl fun g hg => by
    have hg : siz u = g := Option.some.inj hg
    subst hg
    exact ⟨_, blk_alloc_new⟩
/-- A row of events of one's own. -/
structure SV (w u : World) (L : List Ev) (x : Value) : Prop where
  k : K0 w u
  o : Sh.Own u (siz w) tEv 6 x L.length (flat encE L)
  t : ∀ e ∈ L, EvT u e
theorem SV.k0 (h : SV w u L x) (k : K0 u u') : SV w u' L x := ⟨h.k.trans k, h.o.keep k fun _ _ => id, fun e he => (h.t e he).keep0 k⟩
theorem SV.nil : SV w w [] NS' := ⟨K0.refl _, Sh.Own.nil _ _ _ _, fun e he => by cases he⟩
theorem SV.app {v1 : Value} {K : Value → World → Prop} (h : SV w u L x) (he : EvT u e) (h1 : Rd 6 u v1 1 (flat encE [e])) (hl : L.length ≤ 1000) (hK : ∀ u' x', SV w u' (L ++ [e]) x' → K x' u') :
    act Try.prog (Builtin.append_ #[24, 24] 24 #[x, v1]) K u := by
  obtain ⟨g, o, c, rfl, _, hc⟩ := h1.at (by omega)
  refine ap_24 h.o (b := g) (o := o) (m := 1) (news := flat encE [e]) rfl hc (encE_ones (l := [e]) fun y hy => by rw [List.mem_singleton.1 hy]; exact he.ev) (by omega) h.k.size fun v' w' ho hg hr => ?_
  have kg := grown_keep hg
  refine hK w' v' ⟨h.k.trans' kg fun q hq e => by have := (h.o.lt e).1; omega, by rw [List.length_append, flat_append]; exact ho, fun y hy => ?_⟩
  rcases List.mem_append.1 hy with hy | hy
  · exact (h.t y hy).keepO h.o kg
  · rw [List.mem_singleton.1 hy]; exact he.keepO h.o kg
/-- One more event. -/
theorem SV.add {K : Value → World → Prop} (h : SV w u L x) (he : EvT u e) (hl : L.length ≤ 1000) (hK : ∀ u' x', SV w u' (L ++ [e]) x' → K x' u') :
    act Try.prog (Instr.buildSlice 24 1 #[(0, agE e)]) (fun t u1 => act Try.prog (Builtin.append_ #[24, 24] 24 #[x, t]) K u1) u :=
  bld_ev fun u1 v1 k1 r1 => (h.k0 k1).app (he.keep0 k1) r1 hl hK
/-- A row of events behind a new row. -/
theorem SV.copy {K : Value → World → Prop} (h : SV w u L x) (hl : L.length ≤ 1000) (hK : ∀ u' x', SV u u' L x' → K x' u') :
    act Try.prog (Builtin.append_ #[24, 24] 24 #[.slice none 0 0, x]) K u := by
  have hn := Sh.Own.nil u (siz u) tEv 6
  by_cases h0 : L.length = 0
  · obtain ⟨pa, ca, e⟩ := h.o.form
    have e2 : L = [] := List.length_eq_zero_iff.1 h0
    subst e e2
    rw [show ([] : List Ev).length = 0 from rfl, ap0_24 hn]
    exact hK _ _ ⟨K0.refl _, hn, fun e he => by cases he⟩
  · obtain ⟨g, o, c, e, _, hc⟩ := h.o.rd.at (by omega)
    subst e
    refine ap_24 hn (b := g) (o := o) (m := L.length) (news := flat encE L) h.o.rd.len hc (encE_ones fun y hy => (h.t y hy).ev) (by omega) (Nat.le_refl _) fun v' w' ho hg hr => ?_
    have kg : K0 u w' := (grown_keep hg).mono fun q _ e => by cases e
    exact hK _ _ ⟨kg, by rw [Nat.zero_add] at ho; exact ho, fun y hy => (h.t y hy).keep0 kg⟩
theorem evT_mk {k n : Int} {e ls : Nat} {rv wv : Value} {rd wr : List Im} (h : EvR u ⟨k, n, (e : Int), (ls : Int), rv, wv, rd, wr⟩) (h1 : ∀ g, rv.ownBlock = some g → ∃ cs, Sh.blk u g = some (.cells cs tIm)) (h2 : ∀ g, wv.ownBlock = some g → ∃ cs, Sh.blk u g = some (.cells cs tIm)) : EvT u ⟨k, n, (e : Int), (ls : Int), rv, wv, rd, wr⟩ := ⟨h, h1, h2⟩
theorem ns_own {P : Nat → Prop} : ∀ g, NS'.ownBlock = some g → P g := fun g h => by cases h
theorem wrap8 {n : Int} (h : 0 ≤ n) (h' : n ≤ 255) : IntKind.u8.wrap n = n := by
  simp only [IntKind.wrap, IntKind.signed, IntKind.bits]
  simp
  omega
set_option maxHeartbeats 2000000 in
theorem vanish_c {n0 s0 : Int} {rd : Bool} (_ : (Lit.int .i64 n0).wf = true) (_ : (Lit.int .i64 s0).wf = true) (hq : ∀ w', Keep (fun b => siz w ≤ b) w w' → Q (.bool true) w') : callS Try.prog 4 #[.int .i64 n0, .int .i64 s0, .bool rd] Q w := by
  refine ref4 ?_
  unfold S4
  by_cases h1 : n0 < 1
  · simp only [stp, Nat.reduceAdd, Int.reduceLT, Int.reduceLE, Int.reduceEq, Int.reduceNe, ne_eq, bne_self_eq_false, beq_self_eq_true, h1]; exact alive_c fun w' k => hq _ k.none
  by_cases h2 : (20 : Int) < n0
  · simp only [stp, Nat.reduceAdd, Int.reduceLT, Int.reduceLE, Int.reduceEq, Int.reduceNe, ne_eq, bne_self_eq_false, beq_self_eq_true, h1, h2]; exact alive_c fun w' k => hq _ k.none
  by_cases h3 : s0 < 0
  · simp only [stp, Nat.reduceAdd, Int.reduceLT, Int.reduceLE, Int.reduceEq, Int.reduceNe, ne_eq, bne_self_eq_false, beq_self_eq_true, h1, h2, h3]; exact alive_c fun w' k => hq _ k.none
  by_cases h4 : n0 < s0
  · simp only [stp, Nat.reduceAdd, Int.reduceLT, Int.reduceLE, Int.reduceEq, Int.reduceNe, ne_eq, bne_self_eq_false, beq_self_eq_true, h1, h2, h3, h4]; exact alive_c fun w' k => hq _ k.none
  obtain ⟨n, rfl⟩ : ∃ n : Nat, n0 = (n : Int) := ⟨n0.toNat, by omega⟩
  obtain ⟨s, rfl⟩ : ∃ s : Nat, s0 = (s : Int) := ⟨s0.toNat, by omega⟩
  simp only [pur_lss, pur_gtr, h1, h2, h3, h4, decide_false, gd_hit, pur_pick_f, condS_false]
  refine lp2 (fun m x y u => ∃ (j : Nat) (f : Nat → Value), y = .int .i64 (((j + 1 : Nat) : Int)) ∧ j ≤ n ∧ m = n - j ∧ SV w u (cms f j) x) n ⟨0, fun _ => NS', rfl, Nat.zero_le _, rfl, SV.nil⟩ ?_
  rintro m x y u ⟨j, f, rfl, hj, rfl, h⟩ J hJ _j
  by_cases hjn : j < n
  · have hle : (((j + 1 : Nat) : Int) ≤ (n : Int)) := by omega
    have hw8 := wrap8 (n := ((j + 1 : Nat) : Int)) (by omega) (by omega)
    have hwu : IntKind.u64.wrap ((j + 1 : Nat) : Int) = ((j + 1 : Nat) : Int) := wrap_u (by omega) (by omega)
    simp only [pur_leq, hle, decide_true, condS_true, cv_3_27, hwu]
    refine one_c fun u1 k1 => ?_
    rw [hw8]
    refine bld_imT fun u2 v2 k2 r2 o2 t2 => ?_
    rw [bd_32_0_1_2_3_5 one_int one_int one_int one_int o2]
    have hf : cms f j = cms (fun k => if k = j + 1 then v2 else f k) j := cms_congr fun k hk => by rw [if_neg (by omega)]
    have h := (h.k0 k1).k0 k2
    rw [hf] at h
    have he : EvT u2 (cmE (fun k => if k = j + 1 then v2 else f k) (j + 1)) := by
      unfold cmE
      simp only [if_true]
      exact evT_mk (e := 4) (EvR.mk' (by omega) (by omega) no_im r2 (by simp) (by simp) fun i hi => by rw [List.mem_singleton.1 hi]; exact ⟨⟨by dsimp only; omega, by dsimp only; omega⟩, by dsimp only; rw [oneD_size]; omega⟩) ns_own t2
    have hag : agE (cmE (fun k => if k = j + 1 then v2 else f k) (j + 1)) = .agg #[.int .i64 1, .int .i64 1, .int .u64 4, .int .u64 ((j + 1 : Nat) : Int), .slice none 0 0, v2] := by unfold cmE agE; simp
    rw [← hag]
    refine h.add he (by rw [cms_len]; omega) fun u3 x3 h3 => ?_
    rw [pur_add, wrap_succ (i := j + 1) (by omega)]
    refine hJ (n - (j + 1)) _ _ _ (by omega) ⟨j + 1, fun k => if k = j + 1 then v2 else f k, rfl, by omega, rfl, ?_⟩
    rw [cms_succ]; exact h3
  have hle : ¬ (((j + 1 : Nat) : Int) ≤ (n : Int)) := by omega
  have hje : j = n := by omega
  subst hje
  simp only [pur_leq, hle, decide_false, condS_false]
  refine jn1 (fun x u => SV w u (cms f j ++ syE s) x) (fun J1 hJ1 => ?_) ?_
  · by_cases hs : 0 < s
    · have hs' : (0 : Int) < (s : Int) := by omega
      have hwu : IntKind.u64.wrap (s : Int) = (s : Int) := wrap_u (by omega) (by omega)
      simp only [pur_gtr, hs', decide_true, condS_true, cv_3_27, hwu]
      rw [bd_32_0_1_2_3 one_int one_int one_int one_int]
      refine h.add (e := ⟨2, 1, 4, (s : Int), NS', NS', [], []⟩) (evT_mk (e := 4) (EvR.mk' (by omega) (by omega) no_im no_im (by simp) (by simp) fun i hi => by cases hi) ns_own ns_own) (by rw [cms_len]; omega) fun u3 x3 h3 => ?_
      refine hJ1 _ _ ?_
      unfold syE; rw [if_pos hs]; exact h3
    · have hs' : ¬ (0 : Int) < (s : Int) := by omega
      simp only [pur_gtr, hs', decide_false, condS_false]
      refine hJ1 _ _ ?_
      unfold syE; rw [if_neg hs, List.append_nil]; exact h
  clear h
  rintro x u h _j
  have l1 : (cms f j ++ syE s).length ≤ 30 := by
    rw [List.length_append, cms_len]; unfold syE; split <;> simp <;> omega
  refine jn1 (fun x u => ∃ rv, SV w u (vanL f j s rd rv) x) (fun J1 hJ1 => ?_) ?_
  · cases rd
    · simp only [condS_false]
      exact hJ1 _ _ ⟨NS', by unfold vanL rdE; simpa using h⟩
    · simp only [condS_true]
      refine one_c fun u1 k1 => ?_
      rw [wrap8 (by omega) (by omega)]
      refine bld_imT fun u2 v2 k2 r2 o2 t2 => ?_
      rw [bd_32_0_1_2_3_4 one_int one_int one_int one_int o2]
      refine ((h.k0 k1).k0 k2).add (e := ⟨1, 2, 5, 1, v2, NS', [((j : Int), 0, oneD (j : Int))], []⟩) (evT_mk (e := 5) (ls := 1) (EvR.mk' (by omega) (by omega) r2 no_im (by simp) (by simp) fun i hi => by cases hi) t2 ns_own) (by omega) fun u3 x3 h3 => ?_
      exact hJ1 _ _ ⟨v2, by unfold vanL rdE; simpa using h3⟩
  clear h
  rintro x u ⟨rv, h⟩ _j
  have l2 : (vanL f j s rd rv).length ≤ 40 := by
    unfold vanL rdE; rw [List.length_append]; split <;> simp only [List.length_cons, List.length_nil] <;> omega
  rw [bd_32_0_1_2 one_int one_int one_int]
  refine h.add (e := gnE) (evT_mk (e := 4) (ls := 0) (EvR.mk' (by omega) (by omega) no_im no_im (by simp) (by simp) fun i hi => by cases hi) ns_own ns_own) (by omega) fun u1 x1 h1 => ?_
  refine mk_zeros fun u2 g k2 hg o2 => ?_
  refine conv_zeros o2 ?_
  have h2 := h1.k0 k2
  have l3 : (vanL f j s rd rv ++ [gnE]).length ≤ 41 := by rw [List.length_append]; simp; omega
  rw [bd_29_0_2 one_int one_str]
  refine al_im fun u3 t9 k3 z9 y9 b9 => ?_
  refine st_im (i := ((j : Int), 0, Z96)) b9 fun u4 c9 k4 => ?_
  have k24 : K0 u2 u4 := k3.trans' k4 fun q hq e => by have e : q = t9 := e; omega
  have h4 := h2.k0 k24
  clear b9 k3 k4
  have j1 : ∀ {rv' : Value} {x : Im}, s ≤ j → j ≤ 20 → errF (vanL f j s rd rv ++ [gnE, fnE rv' x]) = 0 := fun h1 h2 => van_err h1 h2
  have evF : ∀ {u : World} {v : Value} {d : ByteArray}, Rd 3 u v 1 (flat encM [((j : Int), 0, d)]) → (∀ g, v.ownBlock = some g → ∃ cs, Sh.blk u g = some (.cells cs tIm)) → EvT u (fnE v ((j : Int), 0, d)) := fun {u v d} r ty =>
    evT_mk (e := 0) (ls := 0) (EvR.mk' (by omega) (by omega) r no_im (by simp) (by simp) fun i hi => by cases hi) ty ns_own
  have lF : ∀ {v : Value} {i : Im}, (vanL f j s rd rv ++ [gnE] ++ [fnE v i]) = vanL f j s rd rv ++ [gnE, fnE v i] := fun {v i} => by simp
  have jud : ∀ {u : World} {x v : Value} {d : ByteArray} {K : Value → World → Prop} {w0 : World}, SV w0 u (vanL f j s rd rv ++ [gnE] ++ [fnE v ((j : Int), 0, d)]) x → (∀ u', K0 u u' → K (.tuple #[.bool (judgeF Z96 (vanL f j s rd rv ++ [gnE, fnE v ((j : Int), 0, d)])), .int .i64 0]) u') →
      callS Try.prog 8 #[x] K u := fun {u x v d K w0} hs hK => by
    rw [lF] at hs
    have hl : (vanL f j s rd rv ++ [gnE, fnE v ((j : Int), 0, d)]).length ≤ 1000 := by rw [List.length_append]; simp; omega
    exact judge_c hs.o.rd hl (fun y hy => (hs.t y hy).ev) (fun u' _ k => hK u' k) (fun u' he => absurd (j1 (by omega) (by omega)) he)
  refine jn2 (fun x y u => x = .bool (decide (s < j) && !rd) ∧ y = .int .i64 0 ∧ K0 u4 u) (fun J hJ => ?_) ?_
  · have kd : K0 u4 u4.drew := (K0.refl u4).drew
    have hd := h4.k0 kd
    refine ⟨fun u => K0 u4 u, kd, ?_⟩
    refine hld_of (agI ((j : Int), 0, Z96)) (fun u hu => rlI (i := ((j : Int), 0, Z96)) (BI.keep0 c9 hu)) ?_
    have fin : ∀ (u : World) (x5 v1 v5 : Value), (∃ w0, K0 u4 w0 ∧ SV w0 u (vanL f j s rd rv ++ [gnE]) x5) → EvT u (fnE v1 ((j : Int), 0, Z96)) → Rd 6 u v5 1 (flat encE [fnE v1 ((j : Int), 0, Z96)]) →
        act Try.prog (Builtin.append_ #[24, 24] 24 #[x5, v5]) (fun t75 w_38 => K0 u4 w_38 ∧ callS Try.prog 8 #[t75] (fun t76 w_39 => K0 u4 w_39 ∧ pur Try.prog (Instr.extract t76 0) fun t77 => pur Try.prog (Instr.extract t76 1) fun t78 => J t77 t78 w_39) w_38) u := fun u x5 v1 v5 ⟨w0, k0, h5⟩ e5 r5 => by
      refine h5.app e5 r5 (by omega) fun u6 x6 h6 => ⟨k0.trans h6.k, ?_⟩
      refine jud h6 fun u7 k7 => ⟨(k0.trans h6.k).trans k7, ?_⟩
      rw [van_no (by omega) (by omega) (by omega), pur_ext2_0, pur_ext2_1]
      exact hJ _ _ _ ⟨rfl, rfl, (k0.trans h6.k).trans k7⟩
    refine ⟨?_, ?_⟩
    · refine hd.copy (by omega) fun u5 x5 h5 => ⟨kd.trans h5.k, ?_⟩
      refine bld_imT fun u6 v6 k6 r6 o6 t6 => ⟨(kd.trans h5.k).trans k6, ?_⟩
      rw [bd_32_0_4 one_int o6]
      refine bld_ev (e := fnE v6 ((j : Int), 0, Z96)) fun u7 v7 k7 r7 => ⟨((kd.trans h5.k).trans k6).trans k7, ?_⟩
      exact fin u7 x5 v6 v7 ⟨_, kd, (h5.k0 k6).k0 k7⟩ ((evF r6 t6).keep0 k7) r7
    · refine bld_imT fun u6 v6 k6 r6 o6 t6 => ⟨kd.trans k6, ?_⟩
      rw [bd_32_0_4 one_int o6]
      refine ⟨?_, ?_⟩
      · refine (hd.k0 k6).copy (by omega) fun u5 x5 h5 => ⟨(kd.trans k6).trans h5.k, ?_⟩
        refine bld_ev (e := fnE v6 ((j : Int), 0, Z96)) fun u7 v7 k7 r7 => ⟨((kd.trans k6).trans h5.k).trans k7, ?_⟩
        exact fin u7 x5 v6 v7 ⟨_, kd.trans k6, h5.k0 k7⟩ (((evF r6 t6).keep0 h5.k).keep0 k7) r7
      · refine bld_ev (e := fnE v6 ((j : Int), 0, Z96)) fun u7 v7 k7 r7 => ⟨(kd.trans k6).trans k7, ?_⟩
        refine ((hd.k0 k6).k0 k7).copy (by omega) fun u5 x5 h5 => ⟨((kd.trans k6).trans k7).trans h5.k, ?_⟩
        exact fin u5 x5 v6 v7 ⟨_, (kd.trans k6).trans k7, h5⟩ (((evF r6 t6).keep0 k7).keep0 h5.k) (r7.keep0 h5.k)
  · rintro x5 y5 u5 ⟨rfl, rfl, k5⟩ _j
    have h5 := h4.k0 k5
    refine h5.copy (by omega) fun u6 x6 h6 => ?_
    refine one_c fun u7 k7 => ?_
    rw [wrap8 (by omega) (by omega)]
    refine bld_imT fun u8 v8 k8 r8 o8 t8 => ?_
    rw [bd_32_0_4 one_int o8]
    refine ((h6.k0 k7).k0 k8).add (e := fnE v8 ((j : Int), 0, oneD (j : Int))) (evF r8 t8) (by omega) fun u9 x9 h9 => ?_
    refine jud h9 fun u10 k10 => ?_
    rw [van_yes (by omega) (by omega)]
    simp only [pur_ext2_0, pur_ext2_1]
    refine alive_c fun u11 k11 => ?_
    have fin := hq u11 (((h5.k.trans h9.k).trans k10).trans k11).none
    by_cases hsj : s < j
    · have hsj' : ((s : Int) < (j : Int)) := by omega
      cases rd
      · simp only [stp, Nat.reduceAdd, Int.reduceLT, Int.reduceLE, Int.reduceEq, Int.reduceNe, ne_eq, bne_self_eq_false, beq_self_eq_true, stm, hsj, hsj', decide_true, Bool.not_false, Bool.and_true]
        exact fin
      · simp only [stp, Nat.reduceAdd, Int.reduceLT, Int.reduceLE, Int.reduceEq, Int.reduceNe, ne_eq, bne_self_eq_false, beq_self_eq_true, stm, hsj, hsj', decide_true, Bool.not_true, Bool.and_false]
        exact fin
    · have hsj' : ¬ ((s : Int) < (j : Int)) := by omega
      cases rd
      · simp only [stp, Nat.reduceAdd, Int.reduceLT, Int.reduceLE, Int.reduceEq, Int.reduceNe, ne_eq, bne_self_eq_false, beq_self_eq_true, stm, hsj, hsj', decide_false, Bool.not_false, Bool.and_true]
        exact fin
      · simp only [stp, Nat.reduceAdd, Int.reduceLT, Int.reduceLE, Int.reduceEq, Int.reduceNe, ne_eq, bne_self_eq_false, beq_self_eq_true, stm, hsj, hsj', decide_false, Bool.not_true, Bool.and_false]
        exact fin
end
end Go.Proofs.Ytmmnifbponhhfaa
