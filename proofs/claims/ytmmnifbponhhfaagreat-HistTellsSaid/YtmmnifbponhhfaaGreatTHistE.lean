/- Histories in memory: a history played. Conditions: as each says. -/
import Derived.Test.YtmmnifbponhhfaaGreatTHistD
set_option linter.unusedSimpArgs false
set_option linter.unusedVariables false
namespace Go.Proofs.YtmmnifbponhhfaaGreatT
open Go.Sh Go.Sh.Hi
set_option maxRecDepth 100000
section
variable {w w' : World} {Q : Value → World → Prop} {e : Ev} {A : Ar} {m B g : Nat} {v : Value} {l : List Ev} {cuts : List Int}
theorem own_map {base z n q : Nat} {e : TypeId} {v : Value} {xs : List Value} {l : List (Value × Value)} (h : Sh.Own w base e z v n xs) (hq : v.ownBlock = some q) (hm : Sh.mp w m = some l) : q ≠ m := fun e' => by
  subst e'
  obtain ⟨_, cs, hc⟩ := h.ty hq
  rw [Sh.mp, hc] at hm
  cases hm
theorem rd_take {b o c n i : Nat} (hn : n = l.length) (hc : ∀ j, j < n * 6 → Sh.cel w b (o + j) = (flat encE l)[j]?) (hi : i ≤ n) (hnc : n ≤ c) : Rd 6 w (.slice (some ⟨b, o, none⟩) i c) (l.take i).length (flat encE (l.take i)) := by
  subst hn
  have hl : (l.take i).length = i := by rw [List.length_take]; omega
  rw [hl]
  refine ⟨by rw [flat_len encE_len, hl], .inr ⟨b, o, c, rfl, by omega, fun j hj => ?_⟩⟩
  rw [hc j (by omega), ← flat_take encE_len, List.getElem?_take, if_pos hj]
theorem Rd.cell {z b o c n : Nat} {xs : List Value} (h : Rd z w (.slice (some ⟨b, o, none⟩) n c) n xs) (hn : 0 < n) : n ≤ c ∧ ∀ j, j < n * z → Sh.cel w b (o + j) = xs[j]? := by
  obtain ⟨b', o', c', e, h1, h2⟩ := h.at hn
  injection e with e1 _ e2
  subst e2
  injection e1 with e1
  injection e1 with e1 e3
  subst e1 e3
  exact ⟨h1, h2⟩
/-- What stands between two events. -/
structure PI (w : World) (g m : Nat) (u : World) (s : PSt) (vc vs : Value) : Prop where
  k : K0 w u
  c : Rd 1 w vc s.cuts.length (flat encN s.cuts)
  a : AM u m s.a
  mB : siz w ≤ m
  mg : m ≠ g
  t : Sh.Own u (siz w) tEv 6 vs s.stay.length (flat encE s.stay)
  sr : ∀ x ∈ s.stay, EvR w x
  gm : GM u g s.gone
  gB : siz w ≤ g
variable {u u' : World} {s : PSt} {vc vs : Value}
theorem PI.k0 (h : PI w g m u s vc vs) (k : K0 u u') : PI w g m u' s vc vs :=
  { h with k := h.k.trans k, a := h.a.keep0 k, t := h.t.keep k fun _ _ => id, gm := h.gm.keep0 k }
/-- The array turns. -/
theorem PI.arr {A : Ar} (h : PI w g m u s vc vs) (k : Keep (fun b => b = m) u u') (ha : AM u' m A) : PI w g m u' { s with a := A } vc vs where
  k := h.k.trans' k fun q hq e => by have e : q = m := e; have := h.mB; omega
  c := h.c
  a := ha
  mB := h.mB
  mg := h.mg
  t := h.t.keep k fun q hq e => own_map h.t hq h.a.mp e
  sr := h.sr
  gm := h.gm.keep k fun e => h.mg e.symm
  gB := h.gB
theorem getD_ar (x : Int) (A : Ar) : ((arGet x A).map Value.string).getD (.string ⟨#[]⟩) = .string ((arGet x A).getD ⟨#[]⟩) := by cases arGet x A <;> rfl
set_option maxHeartbeats 8000000 in
theorem play_c (hr : Rd 6 w v l.length (flat encE l)) (hl : l.length ≤ 1000) (ho : ∀ x ∈ l, EvR w x) (hC : Rd 1 w vc cuts.length (flat encN cuts))
    (hq : ∀ w' v' (ks : List Int), K0 w w' → ks.Perm ((aloneF Z96 (playF Z96 l cuts).stay).1.map (·.1)) → ks.Pairwise (· ≤ ·) →
      Sh.Own w' (siz w) tIm 3 v' ks.length (flat encM (ks.map fun k => (k, 0, (arGet k (aloneF Z96 (playF Z96 l cuts).stay).1).getD ⟨#[]⟩))) → Q (.tuple #[.bool (okF Z96 l cuts), v']) w') :
    callS Tryz.prog 12 #[v, vc] Q w := by
  refine ref12 ?_
  unfold S12
  obtain ⟨pa, ca, rfl⟩ := hr.form
  rw [act_makeMap, act_makeMap]
  have k1 := (K0.refl w).alloc (.map #[] 0)
  have a1 := AM.new (w := w)
  have s1 : siz (w.alloc (.map #[] 0)) = siz w + 1 := siz_alloc
  generalize w.alloc (.map #[] 0) = w1 at k1 a1 s1
  have k2 := (K0.refl w1).alloc (.map #[] 0)
  have g2 := GM.new (w := w1)
  generalize w1.alloc (.map #[] 0) = w2 at k2 g2
  have h0 : PI w (siz w1) (siz w) w2 (playF Z96 [] cuts) vc (.slice none 0 0) :=
    { k := k1.trans k2, c := hC, a := a1.keep0 k2, mB := Nat.le_refl _, mg := by omega, t := Sh.Own.nil _ _ _ _, sr := fun x hx => (by cases hx), gm := g2, gB := (by omega) }
  generalize siz w1 = g at h0
  generalize hm0 : siz w = m0 at h0
  rw [← hm0] at h0
  simp only [stp, Nat.reduceAdd, Int.reduceLT, Int.reduceLE, Int.reduceEq, Int.reduceNe, ne_eq, bne_self_eq_false, beq_self_eq_true]
  refine lp5 (fun mm x1 x2 x3 x4 x5 u => ∃ (i m : Nat), x5 = .int .i64 (i : Int) ∧ i ≤ l.length ∧ mm = l.length - i ∧ x2 = .map (some m) ∧ x3 = .bool (playF Z96 (l.take i) cuts).ok ∧ PI w g m u (playF Z96 (l.take i) cuts) x1 x4 ∧ (playF Z96 (l.take i) cuts).stay.length ≤ i) l.length
    ⟨0, m0, rfl, Nat.zero_le _, by omega, rfl, rfl, hm0 ▸ h0, Nat.le_refl _⟩ ?_
  rintro mm x1 x2 x3 x4 x5 u ⟨i, m, rfl, hi, rfl, rfl, rfl, h, hsl⟩ J hJ _j
  by_cases hlt : i < l.length
  · have hlt' : ((i : Int) < (l.length : Int)) := by omega
    have hwi := wrap_succ (i := i) (by omega)
    have hpt := playF_take (z := Z96) (cuts := cuts) hlt
    generalize playF Z96 (l.take i) cuts = s at h hsl hpt ⊢
    obtain ⟨b0, o0, c0, e0, hnc, hcw⟩ := hr.at (by omega)
    injection e0 with e1 _ e2
    subst e1 e2
    have hic : i ≤ ca := by omega
    have hcu : ∀ {u' : World}, K0 w u' → ∀ j, j < l.length * 6 → Sh.cel u' b0 (o0 + j) = (flat encE l)[j]? := fun {u'} k j hj => by
      have := hcw j hj
      rw [List.getElem?_eq_getElem (by rw [flat_len encE_len]; exact hj)] at this ⊢
      exact k.cel this id
    obtain ⟨p0, p1, p2, p3, p4, p5⟩ := ev_at (hcu h.k) (List.getElem?_eq_getElem hlt)
    have hoi := ho _ (List.getElem_mem hlt)
    have ho1 := hoi.ones
    generalize he : l[i] = e at p0 p1 p2 p3 p4 p5 hoi ho1 hpt
    simp only [stp, Nat.reduceAdd, Int.reduceLT, Int.reduceLE, Int.reduceEq, Int.reduceNe, ne_eq, bne_self_eq_false, beq_self_eq_true, hlt']
    refine jn4 (fun y1 y2 y3 y4 u' => ∃ m', y2 = .map (some m') ∧ y3 = .bool (stepF Z96 (l.take i) e s).ok ∧ PI w g m' u' (stepF Z96 (l.take i) e s) y1 y4 ∧ (stepF Z96 (l.take i) e s).stay.length ≤ i + 1) (fun J1 hJ1 => ?_) ?_
    · rw [ix_22 hlt]
      simp only [stp, Nat.reduceAdd, Int.reduceLT, Int.reduceLE, Int.reduceEq, Int.reduceNe, ne_eq, bne_self_eq_false, beq_self_eq_true, stm, p0, p1, p2, p3, p4, p5, ho1.1, ho1.2, Option.isSome_some, Option.getD_some]
      have k3 := (K0.refl u).alloc (.cells #[.int .i64 e.kind, .int .i64 e.node, .int .u64 e.epoch, .int .u64 e.lsn, e.rv, e.wv] tEv)
      have bb : Sh.blk (u.alloc (.cells #[.int .i64 e.kind, .int .i64 e.node, .int .u64 e.epoch, .int .u64 e.lsn, e.rv, e.wv] tEv)) (siz u) = some (.cells #[.int .i64 e.kind, .int .i64 e.node, .int .u64 e.epoch, .int .u64 e.lsn, e.rv, e.wv] tEv) := blk_alloc_new
      have s3 : siz (u.alloc (.cells #[.int .i64 e.kind, .int .i64 e.node, .int .u64 e.epoch, .int .u64 e.lsn, e.rv, e.wv] tEv)) = siz u + 1 := siz_alloc
      generalize u.alloc (.cells #[.int .i64 e.kind, .int .i64 e.node, .int .u64 e.epoch, .int .u64 e.lsn, e.rv, e.wv] tEv) = u1 at k3 bb s3
      have hmu : m < siz u := mp_lt h.a.mp
      have htu : ∀ {q}, x4.ownBlock = some q → q < siz u := fun hq => (h.t.lt hq).2
      have hwu := h.k.size
      have h := h.k0 k3
      generalize siz u = bx at bb s3 hmu htu hwu
      have c1 : Sh.cel u1 bx 1 = some (.int .i64 e.node) := cel_b bb 1
      have c2 : Sh.cel u1 bx 2 = some (.int .u64 e.epoch) := cel_b bb 2
      try simp only [stp, Nat.reduceAdd, Int.reduceLT, Int.reduceLE, Int.reduceEq, Int.reduceNe, ne_eq, bne_self_eq_false, beq_self_eq_true, stm, c1, c2, Option.isSome_some, Option.getD_some]
      have k4 := (K0.refl u1).alloc (.cells #[.int .i64 e.node, .int .u64 e.epoch] 78)
      have bw : Sh.blk (u1.alloc (.cells #[.int .i64 e.node, .int .u64 e.epoch] 78)) (siz u1) = some (.cells #[.int .i64 e.node, .int .u64 e.epoch] 78) := blk_alloc_new
      have s4 : siz (u1.alloc (.cells #[.int .i64 e.node, .int .u64 e.epoch] 78)) = siz u1 + 1 := siz_alloc
      generalize u1.alloc (.cells #[.int .i64 e.node, .int .u64 e.epoch] 78) = u2 at k4 bw s4
      have h := h.k0 k4
      have bb := k4.blk bb id
      generalize hbw : siz u1 = bw0 at bw s4 s3
      clear k3 k4 c1 c2
      have d0 : Sh.cel u2 bx 0 = some (.int .i64 e.kind) := cel_b bb 0
      have w0 : Sh.cel u2 bw0 0 = some (.int .i64 e.node) := cel_b bw 0
      have w1' : Sh.cel u2 bw0 1 = some (.int .u64 e.epoch) := cel_b bw 1
      by_cases e1 : e.kind = 1
      · simp only [stp, Nat.reduceAdd, Int.reduceLT, Int.reduceLE, Int.reduceEq, Int.reduceNe, ne_eq, bne_self_eq_false, beq_self_eq_true, stm, d0, w0, w1', e1, Option.isSome_some, Option.getD_some]
        obtain ⟨gl, g1, g2, g3⟩ := h.gm.ex
        rw [rd_eq (luS_76 g1 g2 (who_ok _ _) true), g3]
        by_cases hgone : (e.node, e.epoch) ∈ s.gone
        · simp only [if_true, stp, Nat.reduceAdd, Int.reduceLT, Int.reduceLE, Int.reduceEq, Int.reduceNe, ne_eq, bne_self_eq_false, beq_self_eq_true, stm, hgone, decide_true]
          have hst : stepF Z96 (l.take i) e s = s := by unfold Hi.stepF; rw [if_pos e1, if_pos hgone]
          rw [hst] at hJ1
          exact hJ1 _ _ _ _ _ ⟨m, rfl, rfl, h, by omega⟩
        · simp only [if_true, stp, Nat.reduceAdd, Int.reduceLT, Int.reduceLE, Int.reduceEq, Int.reduceNe, ne_eq, bne_self_eq_false, beq_self_eq_true, stm, hgone, decide_false]
          have hst : stepF Z96 (l.take i) e s = { s with a := writeF s.a e.wr, ok := s.ok && readsF Z96 s.a e.rd, stay := s.stay ++ [greatF e (l.take i)] } := by unfold Hi.stepF; rw [if_pos e1, if_neg hgone]
          rw [hst] at hJ1
          have c4 : Sh.cel u2 bx 4 = some e.rv := cel_b bb 4
          have c5 : Sh.cel u2 bx 5 = some e.wv := cel_b bb 5
          have hoi2 := hoi.keep0 h.k
          have hok : s.ok = false ∨ s.ok = true := by cases s.ok <;> simp
          rcases hok with hok | hok
          case' inl =>
            simp only [stp, Nat.reduceAdd, Int.reduceLT, Int.reduceLE, Int.reduceEq, Int.reduceNe, ne_eq, bne_self_eq_false, beq_self_eq_true, stm, hok, c4, c5, Option.isSome_some, Option.getD_some]
            obtain ⟨u3, rfl⟩ : ∃ x, x = u2 := ⟨u2, rfl⟩
            have k5 : K0 u3 u3 := K0.refl _
          case' inr =>
            simp only [stp, Nat.reduceAdd, Int.reduceLT, Int.reduceLE, Int.reduceEq, Int.reduceNe, ne_eq, bne_self_eq_false, beq_self_eq_true, stm, hok, c4, c5, Option.isSome_some, Option.getD_some]
            refine areads_c h.a hoi2.r hoi2.lr fun u3 k5 => ?_
            have c5 := k5.cel c5 id
            simp only [stp, Nat.reduceAdd, Int.reduceLT, Int.reduceLE, Int.reduceEq, Int.reduceNe, ne_eq, bne_self_eq_false, beq_self_eq_true, stm, c5, Option.isSome_some, Option.getD_some]
          all_goals
            have h3 := h.k0 k5
            have hoi3 := hoi2.keep0 k5
            refine awrite_c h3.a hoi3.q hoi3.lw fun u4 a4 k6 => ?_
            have h4 := h3.arr k6 a4
            have bb4 : Sh.blk u4 bx = some (.cells #[.int .i64 e.kind, .int .i64 e.node, .int .u64 e.epoch, .int .u64 e.lsn, e.rv, e.wv] tEv) := k6.blk (k5.blk bb id) (by omega)
            have h4 := h4.k0 ((K0.refl u4).drew)
            have q0 : Sh.cel u4 bx 0 = some (.int .i64 e.kind) := cel_b bb4 0
            have q1 : Sh.cel u4 bx 1 = some (.int .i64 e.node) := cel_b bb4 1
            have q2 : Sh.cel u4 bx 2 = some (.int .u64 e.epoch) := cel_b bb4 2
            have q3 : Sh.cel u4 bx 3 = some (.int .u64 e.lsn) := cel_b bb4 3
            have q4 : Sh.cel u4 bx 4 = some e.rv := cel_b bb4 4
            have q5 : Sh.cel u4 bx 5 = some e.wv := cel_b bb4 5
            simp only [stp, Nat.reduceAdd, Int.reduceLT, Int.reduceLE, Int.reduceEq, Int.reduceNe, ne_eq, bne_self_eq_false, beq_self_eq_true, stm, cel_drew, q0, q1, q2, q3, q4, q5, hic, Option.isSome_some, Option.getD_some]
            refine great_c (hoi.keep0 h4.k) (rd_take rfl (hcu h4.k) (by omega) hnc) (by rw [List.length_take]; omega) (fun x hx => (ho x (List.mem_of_mem_take hx)).keep0 h4.k) fun u5 k7 => ?_
            have h5 := h4.k0 k7
            have gok := great_ok hoi (fun x hx => ho x (List.mem_of_mem_take hx) : ∀ x ∈ l.take i, EvR w x)
            try simp only [stp, Nat.reduceAdd, Int.reduceLT, Int.reduceLE, Int.reduceEq, Int.reduceNe, ne_eq, bne_self_eq_false, beq_self_eq_true, stm]
            have s5 := h5.k.size
            refine pu_22 h5.t (fun y hy => by
              simp only [List.mem_cons, List.not_mem_nil, or_false] at hy
              rcases hy with rfl | rfl | rfl | rfl | rfl | rfl
              · rfl
              · rfl
              · rfl
              · rfl
              · exact gok.ones.1
              · exact gok.ones.2) (by dsimp only; omega) s5 fun v' u6 o6 k8 _ => ?_
            refine hJ1 _ _ _ _ _ ⟨m, rfl, by simp [hok], ?_, by simp; omega⟩
            have nm : ∀ q, x4.ownBlock = some q → ∀ {L : List (Value × Value)} {z : Nat}, Sh.mp u5 z = some L → q ≠ z := fun q hq L z hz => own_map h5.t hq hz
            exact { k := h5.k.trans' k8 fun q hq e => by have := (h5.t.lt e).1; omega
                    c := h5.c
                    a := h5.a.keep k8 fun e => nm _ e h5.a.mp rfl
                    mB := h5.mB, mg := h5.mg
                    t := by rw [List.length_append, flat_append]; exact o6
                    sr := fun x hx => by
                      rcases List.mem_append.1 hx with hx | hx
                      · exact h5.sr x hx
                      · rw [List.mem_singleton.1 hx]; exact gok
                    gm := h5.gm.keep k8 fun e => by obtain ⟨gl', g1', _⟩ := h5.gm.ex; exact nm _ e g1' rfl
                    gB := h5.gB }
      by_cases e3 : e.kind = 3
      · have hst : Hi.stepF Z96 (l.take i) e s = { s with a := (aloneF Z96 (s.stay.filter (keepB e (s.cuts.headD 0)))).1, stay := s.stay.filter (keepB e (s.cuts.headD 0)), gone := s.gone ++ [(e.node, e.epoch)], cuts := s.cuts.tail } := by unfold Hi.stepF; rw [if_neg e1, if_pos e3]
        rw [hst] at hJ1
        simp only [stp, Nat.reduceAdd, Int.reduceLT, Int.reduceLE, Int.reduceEq, Int.reduceNe, ne_eq, bne_self_eq_false, beq_self_eq_true, stm, d0, e1, e3, Option.isSome_some, Option.getD_some]
        have k5 := (K0.refl u2).alloc (.cells #[.int .u64 0] 64)
        have bc : Sh.blk (u2.alloc (.cells #[.int .u64 0] 64)) (siz u2) = some (.cells #[.int .u64 0] 64) := blk_alloc_new
        generalize u2.alloc (.cells #[.int .u64 0] 64) = u3 at k5 bc
        have h3 := h.k0 k5
        generalize hbq : siz u2 = bq at bc
        refine jn1 (fun y u' => K0 u2 u' ∧ Rd 1 w y s.cuts.tail.length (flat encN s.cuts.tail) ∧ Sh.blk u' bq = some (.cells #[.int .u64 (s.cuts.headD 0)] 64)) (fun J2 hJ2 => ?_) ?_
        · obtain ⟨pc, cc, rfl⟩ := h.c.form
          have hcw := h.c
          generalize s.cuts = cs at hcw hJ2 ⊢
          cases cs with
          | nil =>
            have hz : ¬ ((0 : Int) < (([] : List Int).length : Int)) := by simp
            simp only [stp, Nat.reduceAdd, Int.reduceLT, Int.reduceLE, Int.reduceEq, Int.reduceNe, ne_eq, bne_self_eq_false, beq_self_eq_true, stm, hz]
            exact hJ2 _ _ ⟨k5, hcw, bc⟩
          | cons x0 cr =>
            have hz : (0 : Int) < ((x0 :: cr).length : Int) := by simp only [List.length_cons]; omega
            have hlp : 0 < (x0 :: cr).length := by simp
            obtain ⟨b1, o1, c1, ee, _, _⟩ := hcw.at hlp
            injection ee with e5 _ e6
            subst e5 e6
            obtain ⟨hcc, hcel⟩ := Rd.cell hcw hlp
            have hx0 : Sh.cel u3 b1 o1 = some (.int .u64 x0) := by
              have := hcel 0 (by omega)
              rw [Nat.add_zero] at this
              exact k5.cel (h.k.cel this id) id
            have ix0 : ∀ {k' : Value → Prop}, pur Tryz.prog (Instr.indexAt 23 (.slice (some ⟨b1, o1, none⟩) (x0 :: cr).length cc) (.int .i64 0)) k' = k' (.pointer (some ⟨b1, o1, none⟩)) := by
              intro k'
              have := ix_23 (i := 0) (b := b1) (o := o1) (c := cc) (k := k') (kd := .i64) hlp
              rw [Nat.add_zero] at this
              exact this
            have sl1 : ∀ {k' : Value → Prop}, pur Tryz.prog (Instr.sliceAt 23 (.slice (some ⟨b1, o1, none⟩) (x0 :: cr).length cc) (some (.int .i64 1)) none none) k' = k' (.slice (some (if cc = 1 then ⟨b1, o1, none⟩ else ⟨b1, o1 + 1 * 1, none⟩)) ((x0 :: cr).length - 1) (cc - 1)) := by
              intro k'
              exact slf_23 (i := 1) (kd := .i64) (by omega) hcc
            simp only [stp, Nat.reduceAdd, Int.reduceLT, Int.reduceLE, Int.reduceEq, Int.reduceNe, ne_eq, bne_self_eq_false, beq_self_eq_true, stm, hz, ix0, cel_drew, hx0, sl1, Option.isSome_some, Option.getD_some, fre_drew]
            rw [st_64 one_int (by rw [cel_drew, cel_b bc]; rfl) (by rw [fre_drew]; exact fre_b bc)]
            refine hJ2 _ _ ⟨(k5.drew).sto (.inr (by omega)) _ _, ?_, ?_⟩
            · have := Rd.from (z := 1) (w := w) (b := b1) (o := o1) (c := cc) (n := (x0 :: cr).length) (i := 1) (xs := flat encN (x0 :: cr)) (flat_len encN_len _) hcel (by omega) hcc
                (a := if cc = 1 then ⟨b1, o1, none⟩ else ⟨b1, o1 + 1 * 1, none⟩) (fun h => by rw [if_neg (by omega)])
              exact this
            · rw [blk_sto (show Sh.blk u3.drew bq = _ from bc)]; rfl
        · rintro y u4 ⟨k6, hy, bq4⟩ _j
          have h4 := h.k0 k6
          have w04 := k6.cel w0 id
          have w14 := k6.cel w1' id
          have bb4 := k6.blk bb id
          have q4 : Sh.cel u4 bq 0 = some (.int .u64 (s.cuts.headD 0)) := cel_b bq4 0
          generalize hcut : s.cuts.headD 0 = cut at hJ1 bq4 q4
          simp only [stp, Nat.reduceAdd, Int.reduceLT, Int.reduceLE, Int.reduceEq, Int.reduceNe, ne_eq, bne_self_eq_false, beq_self_eq_true, stm, w04, w14, q4, Option.isSome_some, Option.getD_some]
          obtain ⟨gl, g1, g2, g3⟩ := h4.gm.ex
          refine muS_76 g1 g2 (who_ok _ _) fun u5 hm5 => ?_
          have G5 := GM.put g2 g3 hm5
          have kg := hm5.keep
          have gne : ∀ {b : Nat} {c : Array Value} {t : TypeId}, Sh.blk u4 b = some (.cells c t) → ¬ b = g := fun hb e => by
            subst e; rw [Sh.mp, hb] at g1; cases g1
          have o5 := h4.t.keep kg fun q hq e => own_map h4.t hq g1 e
          have bb5 := kg.blk bb4 (gne bb4)
          have bq5 := kg.blk bq4 (gne bq4)
          have hsz2 := h4.k.size
          try simp only [stp, Nat.reduceAdd, Int.reduceLT, Int.reduceLE, Int.reduceEq, Int.reduceNe, ne_eq, bne_self_eq_false, beq_self_eq_true, stm]
          try rw [pur_pure]
          have hbx2 : bx < siz u2 := blk_lt bb
          refine ev_delete (P := fun x => keepB e cut x = false) o5 (by omega) (fun x hx => (h4.sr x hx).ones) (fun w1 x Q k hx hQ => ?_) fun u6 v6 l6 hl6 o6 k6' hs6 => ?_
          · rw [callF_cap2]
            have nx : ¬ x4.ownBlock = some bx := fun e => by have := htu e; omega
            have nq : ¬ x4.ownBlock = some bq := fun e => by have := htu e; omega
            have bb7 := k.blk bb5 nx
            have bq7 := k.blk bq5 nq
            exact thin_c (h4.sr x hx).ones (cel_b bb7 1) (cel_b bb7 2) (cel_b bq7 0) hQ
          · have hl6' : l6 = s.stay.filter (keepB e cut) := by
              rw [hl6]
              refine List.filter_congr fun x _ => ?_
              cases keepB e cut x <;> rfl
            rw [hl6'] at o6
            have k46 : K0 w u6 := (h4.k.trans' kg fun q hq e => by have e : q = g := e; have := h4.gB; omega).trans' k6' fun q hq e => by have := (o5.lt e).1; omega
            have hfl : (s.stay.filter (keepB e cut)).length ≤ s.stay.length := List.length_filter_le _ _
            have hsr : ∀ x ∈ s.stay.filter (keepB e cut), EvR w x := fun x hx => h4.sr x (List.mem_filter.1 hx).1
            refine alone_c o6.rd (by omega) (fun x hx => (hsr x hx).keep0 k46) fun u7 k7 a7 => ?_
            simp only [stp, Nat.reduceAdd, Int.reduceLT, Int.reduceLE, Int.reduceEq, Int.reduceNe, ne_eq, bne_self_eq_false, beq_self_eq_true, stm]
            have hg7 := mp_lt g1
            have z45 := kg.size
            have z56 := k6'.size
            refine hJ1 _ _ _ _ _ ⟨_, rfl, rfl, { k := k46.trans k7, c := hy, a := a7, mB := k46.size, mg := (by omega), t := o6.keep k7 fun _ _ => id, sr := hsr, gm := (G5.keep k6' fun e => own_map o5 e hm5.map rfl).keep0 k7, gB := h4.gB }, by dsimp only; omega⟩
      by_cases e4 : e.kind = 4
      · have hst : stepF Z96 (l.take i) e s = { s with ok := s.ok && readsF Z96 s.a e.rd } := by unfold Hi.stepF; rw [if_neg e1, if_neg e3, if_pos e4]
        rw [hst] at hJ1
        have c4 : Sh.cel u2 bx 4 = some e.rv := cel_b bb 4
        have hoi2 := hoi.keep0 h.k
        have hok : s.ok = false ∨ s.ok = true := by cases s.ok <;> simp
        rcases hok with hok | hok
        · simp only [stp, Nat.reduceAdd, Int.reduceLT, Int.reduceLE, Int.reduceEq, Int.reduceNe, ne_eq, bne_self_eq_false, beq_self_eq_true, stm, d0, e1, e3, e4, hok, Option.isSome_some, Option.getD_some]
          refine hJ1 _ _ _ _ _ ⟨m, rfl, by simp [hok], { h with }, by dsimp only; omega⟩
        · simp only [stp, Nat.reduceAdd, Int.reduceLT, Int.reduceLE, Int.reduceEq, Int.reduceNe, ne_eq, bne_self_eq_false, beq_self_eq_true, stm, d0, e1, e3, e4, hok, c4, Option.isSome_some, Option.getD_some]
          refine areads_c h.a hoi2.r hoi2.lr fun u3 k5 => ?_
          have h3 := h.k0 k5
          try simp only [stp, Nat.reduceAdd, Int.reduceLT, Int.reduceLE, Int.reduceEq, Int.reduceNe, ne_eq, bne_self_eq_false, beq_self_eq_true, stm]
          refine hJ1 _ _ _ _ _ ⟨m, rfl, by simp [hok], { h3 with }, by dsimp only; omega⟩
      · have hst : stepF Z96 (l.take i) e s = s := by unfold Hi.stepF; rw [if_neg e1, if_neg e3, if_neg e4]
        rw [hst] at hJ1
        simp only [stp, Nat.reduceAdd, Int.reduceLT, Int.reduceLE, Int.reduceEq, Int.reduceNe, ne_eq, bne_self_eq_false, beq_self_eq_true, stm, d0, e1, e3, e4, Option.isSome_some, Option.getD_some]
        exact hJ1 _ _ _ _ _ ⟨m, rfl, rfl, h, by omega⟩
    · rintro y1 y2 y3 y4 u' ⟨m', rfl, rfl, h', hs'⟩ _j
      simp only [stp, Nat.reduceAdd, Int.reduceLT, Int.reduceLE, Int.reduceEq, Int.reduceNe, ne_eq, bne_self_eq_false, beq_self_eq_true, hwi]
      refine hJ (l.length - (i + 1)) _ _ _ _ _ _ (by omega) ⟨i + 1, m', rfl, by omega, rfl, rfl, ?_, ?_, ?_⟩
      · rw [hpt]
      · rw [hpt]; exact h'
      · rw [hpt]; exact hs'
  · have hlt' : ¬ ((i : Int) < (l.length : Int)) := by omega
    have hie : i = l.length := by omega
    subst hie
    simp only [stp, Nat.reduceAdd, Int.reduceLT, Int.reduceLE, Int.reduceEq, Int.reduceNe, ne_eq, bne_self_eq_false, beq_self_eq_true, hlt']
    rw [List.take_length] at h hsl ⊢
    generalize hps : playF Z96 l cuts = s at h hsl hq ⊢
    refine alone_c h.t.rd (by omega) (fun x hx => (h.sr x hx).keep0 h.k) fun u1 k5 a5 => ?_
    have kw1 := h.k.trans k5
    have hA : ∀ p ∈ (aloneF Z96 s.stay).1, (Lit.int .i64 p.1).wf = true ∧ p.2.size ≤ 1000000 := aloneF_all s.stay fun x hx i hi => (h.sr x hx).wf i hi
    have hAl := aloneF_len (z := Z96) s.stay fun x hx => (h.sr x hx).lw
    have hokF : okF Z96 l cuts = (s.ok && (aloneF Z96 s.stay).2) := by unfold Hi.okF; rw [hps]
    rw [hokF] at hq
    generalize aloneF Z96 s.stay = R at a5 hA hAl hq
    obtain ⟨A, right⟩ := R
    dsimp only at a5 hA hAl hq
    generalize siz u = m1 at a5
    simp only [stp, Nat.reduceAdd, Int.reduceLT, Int.reduceLE, Int.reduceEq, Int.reduceNe, ne_eq, bne_self_eq_false, beq_self_eq_true, stm]
    refine ref31 ?_
    unfold S31
    rw [act_box]
    have k6 := (K0.refl u1).alloc (.cells (Value.map (some m1)).cells tAr)
    have b6 : Sh.cel (u1.alloc (.cells (Value.map (some m1)).cells tAr)) (siz u1) 0 = some (.map (some m1)) := cel_alloc_new
    generalize u1.alloc (.cells (Value.map (some m1)).cells tAr) = u2 at k6 b6
    generalize siz u1 = bx at b6
    rw [pur_pure]
    have a6 := a5.keep0 k6
    refine sorted_c b6 a6 (by omega) (fun p hp => (hA p hp).1) fun u3 vk ks hp hsort ok k7 => ?_
    have a7 := a6.keep0 k7
    have hkl : ks.length = A.length := by have := hp.length_eq; simpa using this
    obtain ⟨pk, ck, rfl⟩ := ok.form
    have kw3 := (kw1.trans k6).trans k7
    have z3 := kw3.size
    simp only [stp, Nat.reduceAdd, Int.reduceLT, Int.reduceLE, Int.reduceEq, Int.reduceNe, ne_eq, bne_self_eq_false, beq_self_eq_true]
    have hsz : ∀ k, ((arGet k A).getD ⟨#[]⟩).size ≤ 1000000 := fun k => by
      cases hg : arGet k A with
      | none => exact Nat.zero_le _
      | some d =>
        have gen : ∀ {B : Ar}, arGet k B = some d → (k, d) ∈ B := by
          intro B
          induction B with
          | nil => intro h; cases h
          | cons p B ih =>
            intro h
            unfold arGet at h
            split at h
            · rename_i hk
              injection h with h
              subst hk h; exact List.mem_cons_self ..
            · exact List.mem_cons_of_mem _ (ih h)
        exact (hA _ (gen hg)).2
    refine lpc2 ks.length (by omega) (fun j y u4 => K0 u3 u4 ∧ Sh.Own u4 (siz u3) tIm 3 y j (flat encM ((ks.map fun k => (k, 0, (arGet k A).getD ⟨#[]⟩)).take j))) ⟨K0.refl _, Sh.Own.nil _ _ _ _⟩ (fun j y u4 hj ⟨k8, o8⟩ J5 hJ5 => ?_) (fun y u4 ⟨k8, o8⟩ J5 => ?_)
    · intro _j
      have hj' : ((j : Int) < (ks.length : Int)) := by omega
      obtain ⟨gk, ck', ee, _, _, _, _, _, hck⟩ := (ok.keep k8 fun _ _ => id).at (by omega)
      injection ee with e1 _ e2
      subst e1 e2
      have hkj : Sh.cel u4 gk j = some (.int .i64 ks[j]) := by rw [hck j (by omega), List.getElem?_map, List.getElem?_eq_getElem hj]; rfl
      have ixj : ∀ {k' : Value → Prop}, pur Tryz.prog (Instr.indexAt 86 (.slice (some ⟨gk, 0, none⟩) ks.length ck) (.int .i64 (j : Int))) k' = k' (.pointer (some ⟨gk, j, none⟩)) := by
        intro k'; rw [ix_86 hj, Nat.zero_add]; try rw [Nat.mul_one]
      simp only [stp, Nat.reduceAdd, Int.reduceLT, Int.reduceLE, Int.reduceEq, Int.reduceNe, ne_eq, bne_self_eq_false, beq_self_eq_true, stm, hj', ixj, hkj, Option.isSome_some, Option.getD_some]
      rw [rd_eq (lu_75 (a7.keep0 k8).mp (kv_ok A) ⟨_, rfl⟩ false), aget_ar, getD_ar]
      simp only [Bool.false_eq_true, if_false, stp, Nat.reduceAdd, Int.reduceLT, Int.reduceLE, Int.reduceEq, Int.reduceNe, ne_eq, bne_self_eq_false, beq_self_eq_true, stm]
      refine cloneT_c (hsz _) fun u5 k9 => ?_
      simp only [stp, Nat.reduceAdd, Int.reduceLT, Int.reduceLE, Int.reduceEq, Int.reduceNe, ne_eq, bne_self_eq_false, beq_self_eq_true, stm]
      have z4 := kw3.trans (k8.trans k9)
      refine pu_53 (o8.keep k9 fun _ _ => id) (fun y hy => by
        simp only [List.mem_cons, List.not_mem_nil, or_false] at hy
        rcases hy with rfl | rfl | rfl <;> rfl) (by omega) (k8.trans k9).size fun v' u6 o6 k10 _ => ?_
      try simp only [stp, Nat.reduceAdd, Int.reduceLT, Int.reduceLE, Int.reduceEq, Int.reduceNe, ne_eq, bne_self_eq_false, beq_self_eq_true]
      refine hJ5 _ _ ⟨(k8.trans k9).trans' k10 fun q hq e => ?_, ?_⟩
      · have := (o8.lt e).1
        omega
      · rw [List.take_add_one, List.getElem?_map, List.getElem?_eq_getElem hj, flat_append]
        exact o6
    · intro _j
      have hj' : ¬ ((ks.length : Int) < (ks.length : Int)) := by omega
      rw [List.take_of_length_le (by simp)] at o8
      have fin := hq u4 y ks (kw3.trans k8) hp hsort (o8.le z3)
      have hok : s.ok = false ∨ s.ok = true := by cases s.ok <;> simp
      rcases hok with hok | hok
      · simp only [stp, Nat.reduceAdd, Int.reduceLT, Int.reduceLE, Int.reduceEq, Int.reduceNe, ne_eq, bne_self_eq_false, beq_self_eq_true, stm, hj', hok]
        rw [hok] at fin
        exact fin
      · simp only [stp, Nat.reduceAdd, Int.reduceLT, Int.reduceLE, Int.reduceEq, Int.reduceNe, ne_eq, bne_self_eq_false, beq_self_eq_true, stm, hj', hok]
        rw [hok] at fin
        exact fin
end
end Go.Proofs.YtmmnifbponhhfaaGreatT
