/- The table of locks: what is to be let go for one request. Conditions: as each says. -/
import Derived.Test.YtiomanikpboclaaTableT
set_option linter.unusedSimpArgs false
set_option linter.unusedVariables false
namespace Go.Proofs.Ytiomanikpboclaa
open Go.Sh Go.Proofs.Ytiomanikpboclaa.Mi
set_option maxRecDepth 100000
section
variable {w w' : World} {Q : Value → World → Prop} {B t : Nat} {s : TS}
theorem revB_val {held told : Int → Option Int} {sp : Sp} {md x v : Int} (h : revB held told sp md x = some v) : (v = 0 ∨ v = 1) ∧ hasB sp x ∧ ∃ u, held x = some u := by
  unfold revB at h
  by_cases hx : hasB sp x
  · rw [if_pos hx] at h
    cases hv : held x with
    | none => rw [hv] at h; cases h
    | some u =>
      rw [hv] at h
      dsimp only at h
      refine ⟨?_, hx, u, rfl⟩
      split at h
      · cases h
      · have hk : keepsF md u = 0 ∨ keepsF md u = 1 := by unfold keepsF; split <;> omega
        unfold revV at h
        cases ht : told x with
        | none => rw [ht] at h; injection h with h; omega
        | some q =>
          rw [ht] at h
          dsimp only at h
          split at h
          · cases h
          · injection h with h; omega
  · rw [if_neg hx] at h; cases h
/-- What the telling turns. -/
abbrev rp : Obj → Bool := tys [77, 58]
def stepT (_ : Option Int) (v : Int) : Option Int := some (v + 1)
theorem push_rev {A n ty : Nat} {v : Value} {xs : List Value} {k : R4} {J : Value → World → Prop} (ho : Own w A 58 4 v n xs) (hn : n ≤ 1000000000) (hA : A ≤ siz w)
    (hk : ∀ v' w', Own w' A 58 4 v' (n + 1) (xs ++ encR k) → Keep (fun b => v.ownBlock = some b) w w' → (∀ g, v'.ownBlock = some g → v.ownBlock = some g ∨ siz w ≤ g) → J v' w') :
    act Try.prog (Builtin.append_ #[54, 54] ty #[v, .slice (some ⟨siz w, 0, none⟩) 1 1]) J (w.alloc (.cells #[.int .i64 k.1, .int .i64 k.2.1, .int .i64 k.2.2.1, .int .i64 k.2.2.2] 58)) :=
  pu_54 ho (by intro u hu; simp only [List.mem_cons, List.not_mem_nil, or_false] at hu; rcases hu with rfl | rfl | rfl | rfl <;> exact one_int) (by omega) hA hk
theorem asR_len (n : Nat) (l : List (Pt Int)) : (asR n l).length = l.length := by simp [asR]
theorem rev_nodes {J1 : Cur 2} {iv xo : Value} {ta t7 : Nat} {tms : List Nat} {k : I5} {g : RS} {w0 : World} (h0 : TL w0 B t s) (k0 : K0 w0 w) (hA : TA w (siz w0) ta tms g.1)
    (hb7 : blk w t7 = some (.cells #[.int .i64 k.1, .int .i64 k.2.1, .int .i64 k.2.2.1, .int .i64 k.2.2.2.1, .int .i64 k.2.2.2.2] 36)) (ho : Own w (siz w0) 58 4 xo g.2.length (flat encR g.2)) (hl : g.2.length ≤ 800000000)
    (hJ : ∀ xo' w', K0 w0 w' → TA w' (siz w0) ta tms (revK s k g s.nodes.toNat).1 → Own w' (siz w0) 58 4 xo' (revK s k g s.nodes.toNat).2.length (flat encR (revK s k g s.nodes.toNat).2) → (revK s k g s.nodes.toNat).2.length ≤ g.2.length + 80000 →
      KO (siz w0) rp w w' → pur Try.prog (binS .add 3 false true iv (.int .i64 1)) fun t70 => J1 xo' t70 w') :
    P18_2 J1 iv (.pointer (some ⟨ta, 0, none⟩)) (.pointer (some ⟨t7, 0, none⟩)) xo (.pointer (some ⟨t, 0, none⟩)) w := by
  unfold P18_2
  obtain ⟨ms, wv, hs⟩ := id (h0.keep0 k0)
  have hnn := hs.nn
  have toK : ∀ {w'}, KO (siz w0) rp w w' → K0 w0 w' := fun k => k0.trans' (k.below (Nat.le_refl _)) fun b hb e => by omega
  refine lp2 (fun mm x y w' => ∃ n : Nat, (n : Int) ≤ s.nodes ∧ y = .int .i64 ((n + 1 : Nat) : Int) ∧ mm = 17 - n ∧ TA w' (siz w0) ta tms (revK s k g n).1 ∧ Own w' (siz w0) 58 4 x (revK s k g n).2.length (flat encR (revK s k g n).2) ∧ (revK s k g n).2.length ≤ g.2.length + 5000 * n ∧ KO (siz w0) rp w w') 17
    ⟨0, by omega, rfl, rfl, hA, ho, Nat.le_refl _, KO.refl _ _ _⟩ ?_
  rintro mm x y w1 ⟨n, hn, rfl, rfl, a1, o1, hl1, k1⟩ J hJ2 _j
  have h1 := h0.keep0 (toK k1)
  obtain ⟨_, _, h1r⟩ := id h1
  have c0 := h1r.c0
  by_cases hle : ((n + 1 : Nat) : Int) ≤ s.nodes
  case neg =>
    simp only [stp, Nat.reduceAdd, Int.reduceLT, Int.reduceLE, Int.reduceEq, Int.reduceNe, ne_eq, bne_self_eq_false, beq_self_eq_true, stm, c0, hle]
    have e : s.nodes.toNat = n := by omega
    rw [e] at hJ
    exact hJ x w1 (toK k1) a1 o1 (by omega) k1
  have hlt : n + 1 < 17 := by omega
  have hwr : IntKind.i64.wrap (((n + 1 : Nat) : Int) + 1) = ((n + 1 + 1 : Nat) : Int) := wrap_succ (by omega)
  have b17 := k1.blk hb7 rfl
  obtain ⟨z0, z1, z2, z3, z4⟩ := wait_cells b17
  simp only [stp, Nat.reduceAdd, Int.reduceLT, Int.reduceLE, Int.reduceEq, Int.reduceNe, ne_eq, bne_self_eq_false, beq_self_eq_true, stm, c0, hle]
  refine jn1 (fun x' w' => TA w' (siz w0) ta tms (revK s k g (n + 1)).1 ∧ Own w' (siz w0) 58 4 x' (revK s k g (n + 1)).2.length (flat encR (revK s k g (n + 1)).2) ∧ (revK s k g (n + 1)).2.length ≤ g.2.length + 5000 * (n + 1) ∧ KO (siz w0) rp w w') (fun J3 hJ3 => ?_) ?_
  · have hst : revK s k g (n + 1) = rev1 s k (revK s k g n) (n + 1) := rfl
    rw [hst] at hJ3
    generalize revK s k g n = g1 at *
    by_cases hon : ((n + 1 : Nat) : Int) = k.2.1
    · simp only [stp, Nat.reduceAdd, Int.reduceLT, Int.reduceLE, Int.reduceEq, Int.reduceNe, ne_eq, bne_self_eq_false, beq_self_eq_true, stm, z1, hon]
      refine hJ3 _ _ ?_
      unfold rev1
      rw [if_pos hon]
      exact ⟨a1, o1, by omega, k1⟩
    have hst1 : rev1 s k g1 (n + 1) = (g1.1.set (n + 1) (canonL (toldN (revN s k g1.1 (n + 1)) (toldB g1.1 (n + 1)))), g1.2 ++ asR (n + 1) (canonL (revN s k g1.1 (n + 1)))) := by unfold rev1; rw [if_neg hon]
    rw [hst1] at hJ3
    simp only [stp, Nat.reduceAdd, Int.reduceLT, Int.reduceLE, Int.reduceEq, Int.reduceNe, ne_eq, bne_self_eq_false, beq_self_eq_true, stm, z1, hon, z2, z3, z4]
    obtain ⟨m, l, e1, e2, e3, hm, hd, hmA⟩ := a1.node hlt
    rw [ixa hlt, Nat.zero_add]
    simp only [stp, Nat.reduceAdd, Int.reduceLT, Int.reduceLE, Int.reduceEq, Int.reduceNe, ne_eq, bne_self_eq_false, beq_self_eq_true, stm, e3]
    have k1d : K0 w1 w1.drew := (K0.refl w1).drew
    refine revoked_c (i := n + 1) (h1.keep0 k1d) (by omega) hle (hm.keep0 k1d) hd fun w2 v2 lm hcm hdm hvm o2 k2 => ?_
    have k2 : K0 w1 w2 := k1d.trans k2
    have hT : toldB g1.1 (n + 1) = valB l := by unfold toldB; rw [e2]; rfl
    have hfl : canonL (revN s k g1.1 (n + 1)) = lm := canonL_eq hcm hdm fun x => by rw [hvm]; unfold revN; rw [hT]
    rw [hfl] at hJ3
    have hlm := canon_len (n := 4096) hcm hdm
    have hlL := asLocks_len lm
    have a2 := a1.keep0 k2
    have o12 := o1.keep k2 fun _ _ e => e
    have kk2 := k1.trans (KO.of0 k2)
    rw [hlL] at o2
    obtain ⟨p2, c2, rfl⟩ := o2.form
    have hset0 : g1.1.set (n + 1) l = g1.1 := by
      have hi' : n + 1 < g1.1.length := by rw [a1.tn]; exact hlt
      have : g1.1[n + 1] = l := by rw [List.getElem?_eq_getElem hi'] at e2; injection e2
      rw [← this, List.set_getElem_self]
    simp only [stp, Nat.reduceAdd, Int.reduceLT, Int.reduceLE, Int.reduceEq, Int.reduceNe, ne_eq, bne_self_eq_false, beq_self_eq_true]
    refine lpc2 lm.length (by omega) (fun j x w' => ∃ lj, TA w' (siz w0) ta tms (g1.1.set (n + 1) lj) ∧ (∀ y, valB lj y = overB stepT (valB l) (valB (lm.take j)) y) ∧ Own w' (siz w0) 58 4 x (g1.2.length + j) (flat encR (g1.2 ++ asR (n + 1) (lm.take j))) ∧ KO (siz w0) rp w2 w')
      ⟨l, by rw [hset0]; exact a2, fun y => rfl, by rw [List.take_zero, show asR (n + 1) [] = [] from rfl, List.append_nil]; exact o12, KO.refl _ _ _⟩ ?_ ?_
    · rintro j x2 w3 hj ⟨lj, a3, hv3, o3, k3⟩ J4 hJ4 _j
      have hj' : (j : Int) < (lm.length : Int) := by omega
      have o23 := k3.own o2 fun cs => rfl
      have hjL : j < (asLocks lm).length := by rw [hlL]; exact hj
      obtain ⟨gg, cg, e, _, _, _, _, _, hcel⟩ := o23.at (by omega)
      injection e with e1' _ e2'
      subst e1' e2'
      have hLj : (asLocks lm)[j]? = some (lm[j].1.1, lm[j].1.2, lm[j].2) := by
        unfold asLocks
        rw [List.getElem?_map, List.getElem?_eq_getElem hj]; rfl
      obtain ⟨u0, u1, u2⟩ := locks_at (b := gg) (o := 0) (L := asLocks lm) (fun i hi => by rw [Nat.zero_add]; exact hcel i (by rw [hlL] at hi; exact hi)) hLj
      rw [Nat.zero_add] at u0 u1 u2
      have hpok := hcm.1 _ (List.getElem_mem hj)
      have hT3 := fun y => over_take (F := stepT) (H := valB l) hcm.apart hj y
      have hp2 : lm[j].2 = 0 ∨ lm[j].2 = 1 := by
        have hv := valB_mem hcm.apart (List.getElem_mem hj) (x := lm[j].1.1) ⟨hpok, Int.le_refl _, hpok.2⟩
        rw [hvm] at hv
        exact (revB_val hv).1
      simp only [stp, Nat.reduceAdd, Int.reduceLT, Int.reduceLE, Int.reduceEq, Int.reduceNe, ne_eq, bne_self_eq_false, beq_self_eq_true, hj']
      rw [ix_43 hj, Nat.zero_add]
      simp only [stp, Nat.reduceAdd, Int.reduceLT, Int.reduceLE, Int.reduceEq, Int.reduceNe, ne_eq, bne_self_eq_false, beq_self_eq_true, stm, u0, u1, u2]
      have htk : asR (n + 1) (lm.take (j + 1)) = asR (n + 1) (lm.take j) ++ [(((n + 1 : Nat) : Int), lm[j].1.1, lm[j].1.2, lm[j].2)] := by
        rw [List.take_add_one, List.getElem?_eq_getElem hj, Option.toList_some]; unfold asR; rw [List.map_append]; rfl
      have hjl : lm[j] ∈ lm := List.getElem_mem hj
      have hpd := hdm _ hjl
      generalize lm[j] = p at *
      have k4 : K0 w3 (w3.alloc (.cells #[.int .i64 p.1.1, .int .i64 p.1.2, .int .i64 p.2] 31)) := (K0.refl w3).alloc _
      have b4 : blk (w3.alloc (.cells #[.int .i64 p.1.1, .int .i64 p.1.2, .int .i64 p.2] 31)) (siz w3) = some (.cells #[.int .i64 p.1.1, .int .i64 p.1.2, .int .i64 p.2] 31) := blk_alloc_new
      generalize w3.alloc (.cells #[.int .i64 p.1.1, .int .i64 p.1.2, .int .i64 p.2] 31) = w4 at k4 b4
      have kk4 := k3.trans (KO.of0 k4)
      have a4 := a3.keep0 k4
      have s4 : siz w0 ≤ siz w4 := by
        have := (toK (kk2.trans kk4)).size
        exact this
      refine push_rev (k := (((n + 1 : Nat) : Int), p.1.1, p.1.2, p.2)) (o3.keep k4 fun _ _ e => e) (by omega) s4 fun v5 w5 o5 k5 hr5 => ?_
      have o34 := o3.keep k4 fun _ _ e => e
      have hF5 : ∀ b, x2.ownBlock = some b → ∃ cs, blk w4 b = some (.cells cs 58) := fun b e => (own_ty o34 e).2
      have a5 := a4.keepF k5 fun b e => by obtain ⟨cs, hc⟩ := hF5 b e; exact ⟨_, _, hc, by decide, by decide, by decide⟩
      have ko5 : KO (siz w0) rp w4 w5 := KO.ofB k5 fun b e => by obtain ⟨h1, cs, hc⟩ := own_ty o34 e; exact ⟨h1, _, hc, rfl⟩
      have b5 := ko5.blk b4 rfl
      obtain ⟨m5, l5, f1, f2, f3, hm5, hd5, hmA5⟩ := a5.node hlt
      rw [List.getElem?_set_self (by rw [a1.tn]; exact hlt)] at f2
      injection f2 with f2
      subst f2
      have hl5 := canon_len (n := 4096) hm5.canon hd5
      have y0 : cel w5 (siz w3) 0 = some (.int .i64 p.1.1) := by rw [cel_b b5]; rfl
      have y1 : cel w5 (siz w3) 1 = some (.int .i64 p.1.2) := by rw [cel_b b5]; rfl
      have y2 : cel w5 (siz w3) 2 = some (.int .i64 p.2) := by rw [cel_b b5]; rfl
      rw [ixa hlt, Nat.zero_add]
      have hwp : IntKind.i64.wrap (p.2 + 1) = p.2 + 1 := wrap_id (by omega) (by omega)
      simp only [stp, Nat.reduceAdd, Int.reduceLT, Int.reduceLE, Int.reduceEq, Int.reduceNe, ne_eq, bne_self_eq_false, beq_self_eq_true, stm, f3, y0, y1, y2, hwp]
      have k5d : K0 w5 w5.drew := (K0.refl w5).drew
      refine set_any (v := p.2 + 1) (hm5.keep0 k5d) (by omega) fun w6 l6 r6 m6 hv6 hl6 k6 => ?_
      have hd6 : Bd 4096 l6 := bd_of_val m6.canon fun y hy => by
        rw [hv6]; split
        · rename_i hxx
          have h1 := hxx.2.2
          dsimp only at h1
          omega
        · exact val_of_bd hd5 hy
      have a6 := (a5.keep0 k5d).turn f1 k6 m6 hd6
      rw [List.set_set] at a6
      obtain ⟨cs5, hcs5⟩ := im_blk (hm5.keep0 k5d)
      have ko6 : KO (siz w0) rp w5.drew w6 := KO.ofB k6 fun b e => by
        have e : b = m5 := e
        subst e
        exact ⟨hmA5, _, hcs5, rfl⟩
      refine hJ4 _ _ ⟨l6, a6, fun y => ?_, ?_, ((kk4.trans ko5).trans (KO.of0 k5d)).trans ko6⟩
      · rw [hT3, hv6, hv3]
        rfl
      · have o6 : Own w6 (siz w0) 58 4 v5 (g1.2.length + j + 1) (flat encR (g1.2 ++ asR (n + 1) (lm.take j)) ++ encR (((n + 1 : Nat) : Int), p.1.1, p.1.2, p.2)) :=
          own_keepT (o5.keep k5d fun _ _ e => e) k6 fun g' cs hg e => ne_of_ty hg hcs5 (by decide) e
        rw [htk, ← List.append_assoc, flat_append, flat_one]
        exact o6
    · rintro x2 w3 ⟨lj, a3, hv3, o3, k3⟩ J4 _j
      have hn' : ¬ ((lm.length : Int) < (lm.length : Int)) := by omega
      rw [List.take_length] at o3 hv3
      simp only [stp, Nat.reduceAdd, Int.reduceLT, Int.reduceLE, Int.reduceEq, Int.reduceNe, ne_eq, bne_self_eq_false, beq_self_eq_true, hn']
      obtain ⟨m5, l5, f1, f2, f3, hm5, hd5, hmA5⟩ := a3.node hlt
      rw [List.getElem?_set_self (by rw [a1.tn]; exact hlt)] at f2
      injection f2 with f2
      subst f2
      have htN : canonL (toldN (revN s k g1.1 (n + 1)) (toldB g1.1 (n + 1))) = lj := canonL_eq hm5.canon hd5 fun y => by
        rw [hv3]
        unfold overB toldN
        rw [show revN s k g1.1 (n + 1) y = valB lm y by rw [hvm]; unfold revN; rw [hT], hT]
        cases valB lm y <;> rfl
      rw [htN] at hJ3
      refine hJ3 _ _ ⟨a3, ?_, ?_, kk2.trans k3⟩
      · rw [List.length_append, asR_len]
        exact o3
      · rw [List.length_append, asR_len]
        omega
  · rintro x' w2 ⟨a2, o2, hl2, k2⟩ _j
    show J x' (.int .i64 (IntKind.i64.wrap (((n + 1 : Nat) : Int) + 1))) w2
    exact hJ2 (17 - (n + 1)) _ _ _ (by omega) ⟨n + 1, hle, by rw [hwr], rfl, a2, o2, by omega, k2⟩
end
end Go.Proofs.Ytiomanikpboclaa
