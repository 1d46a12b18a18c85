/- The table of locks: what is free is granted: the walk. Conditions: as each says. -/
import Derived.Test.YtiomanikpboclaaTableP
set_option linter.unusedSimpArgs false
set_option linter.unusedVariables false
namespace Go.Proofs.Ytiomanikpboclaa
open Go.Sh Go.Proofs.Ytiomanikpboclaa.Mi
set_option maxRecDepth 100000
section
variable {w w' : World} {Q : Value → World → Prop} {B t : Nat} {s : TS}
theorem hld_wait {S : World → Prop} {k : Value → Prop} {g : Nat} {x0 x1 x2 x3 x4 : Value} (h : ∀ w', S w' → blk w' g = some (.cells #[x0, x1, x2, x3, x4] 36)) (hk : k (.agg #[x0, x1, x2, x3, x4])) : hld Try.prog S (Instr.loadAt 36 (.pointer (some ⟨g, 0, none⟩))) k :=
  hld_of _ (fun w' hS => run_of_rd fun _ => by
    have b := h w' hS
    rw [ld_36 (by rw [cel_b b]; rfl) (by rw [cel_b b]; rfl) (by rw [cel_b b]; rfl) (by rw [cel_b b]; rfl) (by rw [cel_b b]; rfl), cel_b b, cel_b b, cel_b b, cel_b b, cel_b b]; rfl) hk
structure GInv (w w' : World) (B t : Nat) (s : TS) (ms : List Nat) (wv : Value) (g : GS) (vo vl vc : Value) : Prop where
  h : TLr w' B t g.1 ms wv
  l : Own w' (siz w) 36 5 vl g.2.1.length (flat enc5 g.2.1)
  c : Own w' (siz w) 36 5 vc g.2.2.1.length (flat enc5 g.2.2.1)
  o : Own w' (siz w) 36 5 vo g.2.2.2.length (flat enc5 g.2.2.2)
  lc : Dj vl vc
  lo : Dj vl vo
  co : Dj vc vo
  k : Keep (fun b => b ∈ ms) w w'
theorem GInv.keep0 {w1 w2 : World} {ms : List Nat} {wv vo vl vc : Value} {g : GS} (h : GInv w w1 B t s ms wv g vo vl vc) (k : K0 w1 w2) : GInv w w2 B t s ms wv g vo vl vc :=
  { h := h.h.keep0 k, l := h.l.keep k fun _ _ e => e, c := h.c.keep k fun _ _ e => e, o := h.o.keep k fun _ _ e => e, lc := h.lc, lo := h.lo, co := h.co, k := h.k.trans k.none }
/-- A row gets one more: what stands. -/
theorem push_wait {A n ty : Nat} {v : Value} {xs : List Value} {k : I5} {J : Value → World → Prop} (ho : Own w A 36 5 v n xs) (hn : n ≤ 1000000) (hA : A ≤ siz w)
    (hk : ∀ v' w', Own w' A 36 5 v' (n + 1) (xs ++ enc5 k) → Keep (fun b => v.ownBlock = some b) w w' → (∀ g, v'.ownBlock = some g → v.ownBlock = some g ∨ siz w ≤ g) → J v' w') :
    act Try.prog (Builtin.append_ #[32, 32] ty #[v, .slice (some ⟨siz w, 0, none⟩) 1 1]) J (w.alloc (.cells #[.int .i64 k.1, .int .i64 k.2.1, .int .i64 k.2.2.1, .int .i64 k.2.2.2.1, .int .i64 k.2.2.2.2] 36)) :=
  pu_32 ho (by intro u hu; simp only [List.mem_cons, List.not_mem_nil, or_false] at hu; rcases hu with rfl | rfl | rfl | rfl | rfl <;> exact one_int) (by omega) hA hk
theorem grant_c (h : TL w B t s) (hok : WsOk s.ws) (hwn : WsN s) (hB : B ≤ siz w)
    (hq : ∀ w' v', TL w' B t s.granted → Own w' (siz w) 36 5 v' (grantOut s).length (flat enc5 (grantOut s)) → KO B tp w w' → Q v' w') :
    callS Try.prog 31 #[.pointer (some ⟨t, 0, none⟩)] Q w := by
  refine ref31 ?_
  unfold S31
  obtain ⟨ms, wv, h⟩ := h
  have hwr := h.wr
  have hwl : ∀ g, wv.ownBlock = some g → g < siz w := fun g hg => (hwr.lt hg).2
  have htw : t < siz w := blk_lt h.b
  obtain ⟨pa, ca, rfl⟩ := hwr.form
  have c18 := h.c18
  have hW := hok.1
  have hng : ∀ n : Nat, 0 ≤ (grantG s (s.ws.take n)).1.nodes := fun n => by
    rw [(grantG_ws s _ (s.ws.take n) rfl).2.1]
    have := h.nn.1
    omega
  simp only [stp, Nat.reduceAdd, Int.reduceLT, Int.reduceLE, Int.reduceEq, Int.reduceNe, ne_eq, bne_self_eq_false, beq_self_eq_true, stm, c18]
  refine lp4 (fun mm xo xl xc y w' => ∃ i : Nat, y = .int .i64 (i : Int) ∧ i ≤ s.ws.length ∧ mm = s.ws.length - i ∧ GInv w w' B t s ms (.slice pa s.ws.length ca) (grantG s (s.ws.take i)) xo xl xc) s.ws.length
    ⟨0, rfl, Nat.zero_le _, by omega, { h := h, l := Own.nil _ _ _ _, c := Own.nil _ _ _ _, o := Own.nil _ _ _ _, lc := Dj.nil _, lo := Dj.nil _, co := Dj.nil _, k := Keep.refl _ _ }⟩ ?_
  rintro mm xo xl xc y w1 ⟨i, rfl, hi, rfl, g1⟩ J hJ _j
  have hwi := wrap_succ (i := i) (by omega)
  have s01 := g1.k.size
  by_cases hlt : i < s.ws.length
  case neg =>
    have hil : i = s.ws.length := by omega
    have hlt' : ¬ ((i : Int) < (s.ws.length : Int)) := by omega
    subst hil
    rw [List.take_length] at g1
    have c18' := g1.h.c18
    obtain ⟨pl, cl, rfl⟩ := g1.l.form
    simp only [stp, Nat.reduceAdd, Int.reduceLT, Int.reduceLE, Int.reduceEq, Int.reduceNe, ne_eq, bne_self_eq_false, beq_self_eq_true, hlt']
    rw [st_32 one_slice (by rw [c18']; rfl) (fre_b g1.h.b)]
    have b9 := blk_sto (o := 18) (v := .slice pl (grantG s s.ws).2.1.length cl) g1.h.b
    have hset9 : (tcells (grantG s s.ws).1.nodes (ptrs ms) (.slice pa s.ws.length ca) (grantG s s.ws).1.last).setIfInBounds 18 (.slice pl (grantG s s.ws).2.1.length cl) = tcells (grantG s s.ws).1.nodes (ptrs ms) (.slice pl (grantG s s.ws).2.1.length cl) (grantG s s.ws).1.last := by
      unfold tcells
      rw [List.setIfInBounds_toArray, show (18 : Nat) = 17 + 1 from rfl, List.set_cons_succ, List.set_append_right _ _ (by simp [ptrs, g1.h.n])]
      simp [ptrs, g1.h.n]
    rw [hset9] at b9
    have k9 : Keep (fun b => b = t) w1 (sto w1 t 18 (.slice pl (grantG s s.ws).2.1.length cl)) := (Keep.refl (fun b => b = t) w1).sto (.inl rfl) _ _
    have o9 := own_keepT g1.l k9 fun g cs hg e => ne_of_ty hg g1.h.b (by decide) e
    have r9 := own_keepT g1.o k9 fun g cs hg e => ne_of_ty hg g1.h.b (by decide) e
    refine hq _ _ ⟨ms, .slice pl (grantG s s.ws).2.1.length cl, ?_⟩ r9 ?_
    · exact g1.h.rest (ws' := (grantG s s.ws).2.1) (last' := (grantG s s.ws).1.last) (k9.mono fun b _ e => .inl e) b9 (o9.le hB)
    · refine KO.ofB (F := fun b => b ∈ ms ∨ b = t) ((g1.k.mono fun b _ e => .inl e).trans' k9 fun b _ e => .inr e) fun b e => ?_
      rcases e with e | rfl
      · obtain ⟨j, hj, rfl⟩ := List.getElem_of_mem e
        obtain ⟨m0, l0, e1, _, _, hm0, _⟩ := h.node (i := j) (by rw [← h.n]; exact hj)
        rw [List.getElem?_eq_getElem hj] at e1
        injection e1 with e1
        obtain ⟨cs, hb0⟩ := im_blk hm0
        exact ⟨h.Bm _ e, _, by rw [e1]; exact hb0, rfl⟩
      · exact ⟨h.Bt, _, h.b, rfl⟩
  have hlt' : ((i : Int) < (s.ws.length : Int)) := by omega
  obtain ⟨b0, o, rfl, q0, q1, q2, q3, q4⟩ := ws_at (by rw [← (grantG_ws s _ (s.ws.take i) rfl).1]; have := g1.h.wr.rd; rw [(grantG_ws s _ (s.ws.take i) rfl).1] at this ⊢; exact this) hlt
  have hst : grantG s (s.ws.take (i + 1)) = gr1 (grantG s (s.ws.take i)) s.ws[i] := by
    rw [List.take_add_one, List.getElem?_eq_getElem hlt, Option.toList_some, grantG_snoc]
  have hln := grantG_len s _ (s.ws.take i) rfl
  have hle : (s.ws.take i).length ≤ i := by rw [List.length_take]; omega
  have hws := grantG_ws s _ (s.ws.take i) rfl
  have hng := hng i
  obtain ⟨hr1, hr2, hr3⟩ := hok.2 _ (List.getElem_mem hlt)
  have hkn := hwn _ (List.getElem_mem hlt)
  simp only [stp, Nat.reduceAdd, Int.reduceLT, Int.reduceLE, Int.reduceEq, Int.reduceNe, ne_eq, bne_self_eq_false, beq_self_eq_true, hlt']
  refine jn3 (fun xo xl xc w' => GInv w w' B t s ms (.slice (some ⟨b0, o, none⟩) s.ws.length ca) (grantG s (s.ws.take (i + 1))) xo xl xc) (fun J3 hJ3 => ?_) ?_
  · rw [ix_32 hlt]
    simp only [stp, Nat.reduceAdd, Int.reduceLT, Int.reduceLE, Int.reduceEq, Int.reduceNe, ne_eq, bne_self_eq_false, beq_self_eq_true, stm, q0, q1, q2, q3, q4]
    rw [hst] at hJ3
    generalize grantG s (s.ws.take i) = g at *
    generalize hk : s.ws[i] = k at *
    have k2 : K0 w1 (w1.alloc (.cells #[.int .i64 k.1, .int .i64 k.2.1, .int .i64 k.2.2.1, .int .i64 k.2.2.2.1, .int .i64 k.2.2.2.2] 36)) := (K0.refl w1).alloc _
    have b2 : blk (w1.alloc (.cells #[.int .i64 k.1, .int .i64 k.2.1, .int .i64 k.2.2.1, .int .i64 k.2.2.2.1, .int .i64 k.2.2.2.2] 36)) (siz w1) = some (.cells #[.int .i64 k.1, .int .i64 k.2.1, .int .i64 k.2.2.1, .int .i64 k.2.2.2.1, .int .i64 k.2.2.2.2] 36) := blk_alloc_new
    generalize w1.alloc (.cells #[.int .i64 k.1, .int .i64 k.2.1, .int .i64 k.2.2.1, .int .i64 k.2.2.2.1, .int .i64 k.2.2.2.2] 36) = w2 at k2 b2
    have g2 := g1.keep0 k2
    have hnl : xl.ownBlock ≠ some (siz w1) := fun e => by have := (g1.l.lt e).2; omega
    have hnc : xc.ownBlock ≠ some (siz w1) := fun e => by have := (g1.c.lt e).2; omega
    have hno : xo.ownBlock ≠ some (siz w1) := fun e => by have := (g1.o.lt e).2; omega
    obtain ⟨pc, cc, rfl⟩ := g1.c.form
    refine hinders_c (A := g.2.2.1) ⟨_, _, g2.h⟩ g2.c.rd (by omega) fun w3 k3 => ?_
    have g3 := g2.keep0 k3
    have b3 := k3.blk b2 (by exact fun h => h)
    have hf : gr1 g k = if hindF g.1 g.2.2.1 k.2.1 k.2.2.1 k.2.2.2.1 k.2.2.2.2 < k.2.2.2.1 then
      (g.1, g.2.1 ++ [k], g.2.2.1 ++ [claimOf k (hindF g.1 g.2.2.1 k.2.1 k.2.2.1 k.2.2.2.1 k.2.2.2.2)], g.2.2.2)
      else (g.1.raise k.2.1.toNat k.2.2.1 k.2.2.2.1 k.2.2.2.2, g.2.1, g.2.2.1, g.2.2.2 ++ [k]) := rfl
    by_cases hh : hindF g.1 g.2.2.1 k.2.1 k.2.2.1 k.2.2.2.1 k.2.2.2.2 < k.2.2.2.1
    · rw [if_pos hh] at hf
      have hpos := hindF_pos (s := g.1) (A := g.2.2.1) (node := k.2.1) (a := k.2.2.1) (b := k.2.2.2.1) (md := k.2.2.2.2) hr1.1 (by have := hr1.2; have := hr1.1; dsimp only at *; omega)
      have hr2 : k.2.2.2.1 ≤ 4096 := hr2
      generalize hindF g.1 g.2.2.1 k.2.1 k.2.2.1 k.2.2.2.1 k.2.2.2.2 = hv at *
      simp only [stp, Nat.reduceAdd, Int.reduceLT, Int.reduceLE, Int.reduceEq, Int.reduceNe, ne_eq, bne_self_eq_false, beq_self_eq_true, hh]
      refine ⟨fun w' => blk w' (siz w1) = some (.cells #[.int .i64 k.1, .int .i64 k.2.1, .int .i64 k.2.2.1, .int .i64 k.2.2.2.1, .int .i64 k.2.2.2.2] 36), b3, ?_⟩
      refine hld_wait (fun w' hS => hS) ?_
      simp only [stp, Nat.reduceAdd, Int.reduceLT, Int.reduceLE, Int.reduceEq, Int.reduceNe, ne_eq, bne_self_eq_false, beq_self_eq_true, stm]
      have g3d := g3.keep0 ((K0.refl w3).drew)
      refine ⟨(((K0.refl w3).drew).alloc _).blk b3 (by exact fun h => h), ?_⟩
      have s3 := g3d.k.size
      refine push_wait (w := w3.drew) g3d.l (by omega) s3 fun vl w4 ol k4 hrl => ?_
      have b4 : blk w4 (siz w1) = _ := k4.blk (w := w3.drew) b3 hnl
      have c4 := g3d.c.keep k4 fun g hg e => g1.lc g e hg
      have o4 := g3d.o.keep k4 fun g hg e => g1.lo g e hg
      have h4 := g3d.h.keepRow g3d.l k4 fun g hg e => by have := hwl g hg; have := (g3d.l.lt e).1; omega
      have kk4 : Keep (fun b => b ∈ ms) w w4 := g3d.k.trans' k4 fun b hb e => by have := (g3d.l.lt e).1; omega
      have lc4 : Dj vl (.slice pc g.2.2.1.length cc) := (g1.lc.symm.grow (n := siz w3.drew) (fun g hg => (g3d.c.lt hg).2) hrl).symm
      have lo4 : Dj vl xo := (g1.lo.symm.grow (n := siz w3.drew) (fun g hg => (g3d.o.lt hg).2) hrl).symm
      refine ⟨b4, hld_wait (fun w' hS => hS) ?_⟩
      refine claim_c ⟨by omega, by omega⟩ fun w5 k5 => ⟨k5.blk b4 (by exact fun h => h), ?_⟩
      simp only [stp, Nat.reduceAdd, Int.reduceLT, Int.reduceLE, Int.reduceEq, Int.reduceNe, ne_eq, bne_self_eq_false, beq_self_eq_true, stm]
      have b5 := k5.blk b4 (by exact fun h => h)
      refine ⟨((K0.refl w5).alloc _).blk b5 (by exact fun h => h), ?_⟩
      have kk5 := kk4.trans k5.none
      refine push_wait (k := claimOf k hv) (w := w5) (c4.keep k5 fun _ _ e => e) (by omega) kk5.size fun vc w6 oc k6 hrc => ?_
      have c5 := c4.keep k5 fun _ _ e => e
      have b6 : blk w6 (siz w1) = _ := k6.blk b5 hnc
      refine ⟨b6, hJ3 _ _ _ _ ?_⟩
      rw [hf]
      exact {
        h := (h4.keep0 k5).keepRow c5 k6 fun g hg e => by have := hwl g hg; have := (c5.lt e).1; omega
        l := by
          rw [List.length_append, flat_append, flat_one]
          exact (ol.keep k5 fun _ _ e => e).keep k6 fun g hg e => lc4 g hg e
        c := by
          rw [List.length_append, flat_append, flat_one]
          exact oc
        o := (o4.keep k5 fun _ _ e => e).keep k6 fun g hg e => g1.co g e hg
        lc := lc4.grow (n := siz w5) (fun g hg => ((ol.keep k5 fun _ _ e => e).lt hg).2) hrc
        lo := lo4
        co := (g1.co.symm.grow (n := siz w5) (fun g hg => ((o4.keep k5 fun _ _ e => e).lt hg).2) hrc).symm
        k := kk5.trans' k6 fun b hb e => by have := (c5.lt e).1; omega }
    · rw [if_neg hh] at hf
      obtain ⟨u, hu⟩ : ∃ u : Nat, k.2.1 = (u : Int) := ⟨k.2.1.toNat, by omega⟩
      have hu17 : u < 17 := by have := h.nn.2; omega
      obtain ⟨m, l, e1, e2, e3, hm, hd⟩ := g3.h.node hu17
      obtain ⟨z0, z1, z2, z3, z4⟩ := wait_cells b3
      simp only [stp, Nat.reduceAdd, Int.reduceLT, Int.reduceLE, Int.reduceEq, Int.reduceNe, ne_eq, bne_self_eq_false, beq_self_eq_true, stm, hh, z1]
      rw [hu, ixa hu17]
      simp only [stp, Nat.reduceAdd, Int.reduceLT, Int.reduceLE, Int.reduceEq, Int.reduceNe, ne_eq, bne_self_eq_false, beq_self_eq_true, stm, e3, z2, z3, z4]
      have g3d := g3.keep0 ((K0.refl w3).drew)
      refine traise_c (i := u) g3d.h e1 hr1.1 hr2 fun w4 h4 k4 => ?_
      obtain ⟨cs, hmb⟩ := im_blk (hm.keep0 ((K0.refl w3).drew))
      have nw : ∀ g cs, blk w3.drew g = some (.cells cs 36) → ¬ g = m := fun g cs hg e => ne_of_ty hg hmb (by decide) e
      have l4 := own_keepT g3d.l k4 nw
      have c4 := own_keepT g3d.c k4 nw
      have o4 := own_keepT g3d.o k4 nw
      have b4 : blk w4 (siz w1) = _ := k4.blk (w := w3.drew) b3 (nw _ _ b3)
      obtain ⟨z0, z1, z2, z3, z4⟩ := wait_cells b4
      simp only [stp, Nat.reduceAdd, Int.reduceLT, Int.reduceLE, Int.reduceEq, Int.reduceNe, ne_eq, bne_self_eq_false, beq_self_eq_true, stm, z0, z1, z2, z3, z4]
      have kk4 : Keep (fun b => b ∈ ms) w w4 := g3d.k.trans (k4.mono fun b _ e => by subst e; exact List.mem_of_getElem? e1)
      refine push_wait (w := w4) o4 (by omega) kk4.size fun vo w5 oo k5 hro => ?_
      refine hJ3 _ _ _ _ ?_
      rw [hf, hu, show (u : Int).toNat = u from rfl]
      exact {
        h := h4.keepRow o4 k5 fun g hg e => by have := hwl g hg; have := (o4.lt e).1; omega
        l := l4.keep k5 fun g hg e => g1.lo g hg e
        c := c4.keep k5 fun g hg e => g1.co g hg e
        o := by
          rw [List.length_append, flat_append, flat_one]
          exact oo
        lc := g1.lc
        lo := g1.lo.grow (n := siz w4) (fun g hg => (l4.lt hg).2) hro
        co := g1.co.grow (n := siz w4) (fun g hg => (c4.lt hg).2) hro
        k := kk4.trans' k5 fun b hb e => by have := (o4.lt e).1; omega }
  · rintro xo xl xc w2 g2 _j
    simp only [stp, Nat.reduceAdd, Int.reduceLT, Int.reduceLE, Int.reduceEq, Int.reduceNe, ne_eq, bne_self_eq_false, beq_self_eq_true, hwi]
    exact hJ (s.ws.length - (i + 1)) _ _ _ _ _ (by omega) ⟨i + 1, rfl, by omega, rfl, g2⟩
end
end Go.Proofs.Ytiomanikpboclaa
