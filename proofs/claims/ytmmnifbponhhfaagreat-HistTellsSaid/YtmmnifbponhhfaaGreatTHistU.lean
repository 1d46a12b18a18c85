/- What is judged, as the document judges. Conditions: as it says. -/
import Derived.Test.YtmmnifbponhhfaaGreatTHistT
set_option linter.unusedSimpArgs false
set_option linter.unusedVariables false
namespace Go.Proofs.YtmmnifbponhhfaaGreatT
open Go.Sh Go.Sh.Hi
set_option maxRecDepth 100000
section
variable {w w' : World} {Q : Value → World → Prop} {l : List Ev} {v : Value}
set_option maxHeartbeats 8000000 in
theorem djudge_c (hr : Rd 6 w v l.length (flat encE l)) (hl : l.length ≤ 300) (ho : ∀ x ∈ l, EvR w x)
    (hq0 : ∀ w', errF l = 0 → K0 w w' → Q (.tuple #[.bool (judgeF Z96 l), .int .i64 0]) w') (hq1 : ∀ w', errF l ≠ 0 → K0 w w' → Q (.tuple #[.bool false, .int .i64 (errF l)]) w') :
    callS Tryz.prog 19 #[v] Q w := by
  refine ref19 ?_
  unfold S19
  obtain ⟨pa, ca, rfl⟩ := hr.form
  refine dcuts_c hr (by omega) ho (fun w1 vt vs he k1 rc => ?_) (fun w1 he k1 => ?_)
  rotate_left
  · simp only [stp, Nat.reduceAdd, Int.reduceLT, Int.reduceLE, Int.reduceEq, Int.reduceNe, ne_eq, bne_self_eq_false, beq_self_eq_true, stm, he]
    exact hq1 w1 he k1
  obtain ⟨pt, ct, hvt⟩ := rc.o.form
  have hnl : vs.length = (lensF l).length := by rw [rc.n]; unfold lensF; rw [List.length_map]
  have hlen200 : (lensF l).length ≤ 1000 := by
    unfold lensF choicesF
    rw [List.length_map, List.length_map]
    have gen : ∀ (l' pre : List Ev), (cutsR pre l').length ≤ l'.length := by
      intro l'
      induction l' with
      | nil => intro pre; simp [cutsR]
      | cons x l' ih => intro pre; have := ih (pre ++ [x]); simp only [cutsR, List.length_append, List.length_cons]; split <;> simp <;> omega
    have := gen l []
    omega
  have lnT : ∀ {k' : Value → Prop}, pur Tryz.prog (Builtin.len_ #[29] 3 #[vt]) k' = k' (.int .i64 ((lensF l).length : Int)) := by intro k'; rw [hvt, ← hnl]; exact ln_29
  simp only [stp, Nat.reduceAdd, Int.reduceLT, Int.reduceLE, Int.reduceEq, Int.reduceNe, ne_eq, bne_self_eq_false, beq_self_eq_true, stm, lnT]
  have z1 := k1.size
  refine mk_86 (base := siz w) (by omega) z1 fun w2 o2 k2 _ => ?_
  have hd0 : List.replicate (lensF l).length (Value.int .i64 0) = dg (dig (lensF l) 0) := by rw [dig_zero]; simp [dg]
  have dl := dig_len (lensF l)
  generalize hgx : siz w1 = g at o2
  have j2 : JI w l g vs vt w2 (dig (lensF l) 0) := ⟨k1.trans k2, rc.keep0 k2, by rw [dl, ← hd0]; exact o2⟩
  have hpos := lensF_pos l
  have lnc : (lensF l).length = (choicesF l).length := by unfold lensF; rw [List.length_map]
  have lnk : ∀ i (h : i < (lensF l).length) (h' : i < (choicesF l).length), (lensF l)[i] = (choicesF l)[i].length := fun i h h' => by simp [lensF]
  refine lp0 (fun mm u => ∃ N, N < prodL (lensF l) ∧ mm = prodL (lensF l) - N ∧ (∀ N', N' < N → okF Z96 l (cutsAt l N') = false) ∧ JI w l g vs vt u (dig (lensF l) N)) (prodL (lensF l)) ⟨0, prodL_pos hpos, rfl, fun _ h => by omega, j2⟩ ?_
  rintro mm u ⟨N, hN, rfl, hno, hj⟩ J hJ _j
  have dN := dl N
  have hdlt : ∀ i (hi : i < (lensF l).length) (hi' : i < (dig (lensF l) N).length), (dig (lensF l) N)[i] < (lensF l)[i] := fun i hi _ => dig_lt (lensF l) N hpos i hi
  try simp only [stp, Nat.reduceAdd, Int.reduceLT, Int.reduceLE, Int.reduceEq, Int.reduceNe, ne_eq, bne_self_eq_false, beq_self_eq_true, lnT]
  generalize hD : dig (lensF l) N = D at hj dN hdlt
  have hcut : cutsAt l N = pickF (choicesF l) D := by unfold cutsAt; rw [hD]
  refine lpc2 (lensF l).length (by omega) (fun j y u' => K0 u u' ∧ Sh.Own u' (siz u) 64 1 y j (flat encN (pickF ((choicesF l).take j) (D.take j)))) ⟨K0.refl _, by simp [pickF, flat]; exact Sh.Own.nil _ _ _ _⟩ (fun j y u1 hj1 ⟨k3, o3⟩ J1 hJ1 => ?_) (fun y u1 ⟨k3, o3⟩ J1 => ?_)
  · intro _j
    have hj' : ((j : Int) < ((lensF l).length : Int)) := by omega
    have h1 := hj.k0 k3
    have hjv : j < vs.length := by omega
    have hjc : j < (choicesF l).length := by omega
    obtain ⟨gt, ct', et, _, _, _, _, _, hct⟩ := h1.rc.o.at (by omega)
    have ct1 : Sh.cel u1 gt j = some vs[j] := by rw [hct j (by omega), List.getElem?_eq_getElem hjv]
    have ixt : ∀ {k' : Value → Prop}, pur Tryz.prog (Instr.indexAt 29 vt (.int .i64 (j : Int))) k' = k' (.pointer (some ⟨gt, j, none⟩)) := by
      intro k'; rw [et, ix_29 hjv, Nat.zero_add]; try rw [Nat.mul_one]
    obtain ⟨gp, cp', ep, _, _, _, _, _, hcp⟩ := h1.p.at (by omega)
    injection ep with ep1 _ _
    injection ep1 with ep1
    injection ep1 with ep1
    subst ep1
    have cp1 : Sh.cel u1 g j = some (.int .i64 (D[j]'(by omega) : Int)) := by rw [hcp j (by omega), List.getElem?_map, List.getElem?_eq_getElem (by omega)]; rfl
    have ixp : ∀ {k' : Value → Prop}, pur Tryz.prog (Instr.indexAt 86 (.slice (some ⟨g, 0, none⟩) (lensF l).length (lensF l).length) (.int .i64 (j : Int))) k' = k' (.pointer (some ⟨g, j, none⟩)) := by
      intro k'; rw [ix_86 hj1, Nat.zero_add]; try rw [Nat.mul_one]
    have hdj : D[j]'(by omega) < (choicesF l)[j].length := by
      rw [← lnk j hj1 hjc]
      exact hdlt j hj1 (by omega)
    obtain ⟨gc, cc', ec, _, _, _, _, _, hcc⟩ := (h1.rc.each j hjv hjc).at (by omega)
    have hce : (flat encN (choicesF l)[j])[D[j]'(by omega)]? = some (.int .u64 ((choicesF l)[j].getD (D.getD j 0) 0)) := by
      have := flat_get (enc := encN) encN_len (l := (choicesF l)[j]) (i := D[j]'(by omega)) (s := (choicesF l)[j][D[j]'(by omega)]) (List.getElem?_eq_getElem hdj) (j := 0) (by omega)
      rw [Nat.mul_one, Nat.add_zero] at this
      rw [this]
      simp [List.getD_eq_getElem?_getD, List.getElem?_eq_getElem (show j < D.length by omega), List.getElem?_eq_getElem hdj]
    have cc1 : Sh.cel u1 gc (D[j]'(by omega)) = some (.int .u64 ((choicesF l)[j].getD (D.getD j 0) 0)) := by rw [hcc _ (by omega)]; exact hce
    have ixc : ∀ {k' : Value → Prop}, pur Tryz.prog (Instr.indexAt 23 vs[j] (.int .i64 (D[j]'(by omega) : Int))) k' = k' (.pointer (some ⟨gc, D[j]'(by omega), none⟩)) := by
      intro k'; rw [ec, ix_23 hdj, Nat.zero_add]; try rw [Nat.mul_one]
    simp only [stp, Nat.reduceAdd, Int.reduceLT, Int.reduceLE, Int.reduceEq, Int.reduceNe, ne_eq, bne_self_eq_false, beq_self_eq_true, stm, hj', ixt, ct1, ixp, cp1, ixc, cc1, Option.isSome_some, Option.getD_some]
    have kd1 : K0 u1 u1.drew := (K0.refl u1).drew
    have k3d := k3.trans kd1
    refine pu_23 (w := u1.drew) (o3.keep kd1 fun _ _ => id) (fun y hy => by rw [List.mem_singleton.1 hy]; rfl) (by omega) k3d.size fun v' u2 o4 k4 _ => ?_
    refine hJ1 _ _ ⟨k3d.trans' k4 fun q hq e => by have := (o3.lt e).1; omega, ?_⟩
    rw [pickF_take (by rw [dN, lnc]) hjc, flat_append]
    exact o4
  · intro _j
    have hj' : ¬ (((lensF l).length : Int) < ((lensF l).length : Int)) := by omega
    rw [List.take_of_length_le (by omega), List.take_of_length_le (by omega), ← hcut] at o3
    have hcl : (cutsAt l N).length = (lensF l).length := by rw [hcut, pickF_len (by rw [dN, lnc]), lnc]
    have h1 := hj.k0 k3
    simp only [stp, Nat.reduceAdd, Int.reduceLT, Int.reduceLE, Int.reduceEq, Int.reduceNe, ne_eq, bne_self_eq_false, beq_self_eq_true, stm, hj']
    refine dplay_c (vc := y) (cuts := cutsAt l N) (hr.keep0 h1.k) hl (fun x hx => (ho x hx).keep0 h1.k) (by rw [hcl]; exact o3.rd) (by omega) fun u2 v2 k4 _ _ => ?_
    have h2 := h1.k0 k4
    cases hok : okF Z96 l (cutsAt l N) with
    | true =>
      simp only [stp, Nat.reduceAdd, Int.reduceLT, Int.reduceLE, Int.reduceEq, Int.reduceNe, ne_eq, bne_self_eq_false, beq_self_eq_true, stm]
      have := hq0 u2 he h2.k
      rw [judge_yes hN hok] at this
      exact this
    | false =>
      simp only [stp, Nat.reduceAdd, Int.reduceLT, Int.reduceLE, Int.reduceEq, Int.reduceNe, ne_eq, bne_self_eq_false, beq_self_eq_true, stm]
      have hno' : ∀ N', N' < N + 1 → okF Z96 l (cutsAt l N') = false := fun N' h => by
        by_cases e : N' = N
        · rw [e]; exact hok
        · exact hno N' (by omega)
      obtain ⟨cd1, cd2⟩ := carry_dig (lensF l) N hpos hN
      rw [hD] at cd1 cd2
      refine lp1 (fun mm x u' => ∃ i : Nat, x = .int .i64 (i : Int) ∧ i ≤ (lensF l).length ∧ mm = (lensF l).length - i ∧ (∀ t (h : t < i) (h1 : t < D.length) (h2 : t < (lensF l).length), D[t] = (lensF l)[t] - 1) ∧ JI w l g vs vt u' (List.replicate i 0 ++ D.drop i)) (lensF l).length
        ⟨0, rfl, Nat.zero_le _, rfl, fun t h => by omega, h2⟩ ?_
      rintro mm x u3 ⟨i, rfl, hi, rfl, hmax, h3⟩ J2 hJ2 _j
      have hwi := wrap_succ (i := i) (by omega)
      have hrl : (List.replicate i 0 ++ D.drop i).length = (lensF l).length := by rw [List.length_append, List.length_replicate, List.length_drop]; omega
      by_cases hil : i < (lensF l).length
      · have hil' : ((i : Int) < ((lensF l).length : Int)) := by omega
        have hiv : i < vs.length := by omega
        have hic : i < (choicesF l).length := by omega
        have hri : (List.replicate i 0 ++ D.drop i)[i]'(by omega) = D[i]'(by omega) := by
          rw [List.getElem_append_right (by simp)]
          simp
        obtain ⟨gp, cp', ep, _, _, _, _, fp, hcp⟩ := h3.p.at (by omega)
        injection ep with ep1 _ _
        injection ep1 with ep1
        injection ep1 with ep1
        subst ep1
        have cp1 : Sh.cel u3 g i = some (.int .i64 (D[i]'(by omega) : Int)) := by
          rw [hcp i (by omega), List.getElem?_map, List.getElem?_eq_getElem (by omega), hri]; rfl
        have ixp : ∀ {k' : Value → Prop}, pur Tryz.prog (Instr.indexAt 86 (.slice (some ⟨g, 0, none⟩) (lensF l).length (lensF l).length) (.int .i64 (i : Int))) k' = k' (.pointer (some ⟨g, i, none⟩)) := by
          intro k'; rw [ix_86 hil, Nat.zero_add]; try rw [Nat.mul_one]
        obtain ⟨gt, ct', et, _, _, _, _, _, hct⟩ := h3.rc.o.at (by omega)
        have ct1 : Sh.cel u3 gt i = some vs[i] := by rw [hct i (by omega), List.getElem?_eq_getElem hiv]
        have ixt : ∀ {k' : Value → Prop}, pur Tryz.prog (Instr.indexAt 29 vt (.int .i64 (i : Int))) k' = k' (.pointer (some ⟨gt, i, none⟩)) := by
          intro k'; rw [et, ix_29 hiv, Nat.zero_add]; try rw [Nat.mul_one]
        obtain ⟨pe, ce, ee⟩ := (h3.rc.each i hiv hic).form
        have lnE : ∀ {k' : Value → Prop}, pur Tryz.prog (Builtin.len_ #[23] 3 #[vs[i]]) k' = k' (.int .i64 ((choicesF l)[i].length : Int)) := by intro k'; rw [ee]; exact ln_23
        have hlp : 0 < (choicesF l)[i].length := by rw [← lnk i hil hic]; exact hpos _ (List.getElem_mem hil)
        have hlm : (choicesF l)[i].length ≤ 1000000 := by
          have := hdlt
          obtain ⟨p, hp, e⟩ := List.mem_map.1 (show (choicesF l)[i] ∈ (cutsR [] l).map rangeF from List.getElem_mem hic)
          rw [← e]
          have hw : waysF (cutsR [] l) ≠ none := by
            intro h
            unfold errF at he
            rw [h] at he
            simp at he
            try (split at he <;> cases he)
          obtain ⟨n, hn⟩ := Option.ne_none_iff_exists'.1 hw
          have := (waysF_pos _ (cutsR_le _ _) hn).2.2 p hp
          simp only [rangeF, List.length_map, List.length_range]
          omega
        have hwp : IntKind.i64.wrap (((choicesF l)[i].length : Int) - 1) = (((choicesF l)[i].length - 1 : Nat) : Int) := wrap_pred hlp (by omega)
        by_cases heq : D[i]'(by omega) = (choicesF l)[i].length - 1
        · have h3 := h3.k0 ((K0.refl u3).drew)
          have heq' : ((D[i]'(by omega) : Nat) : Int) = (((choicesF l)[i].length - 1 : Nat) : Int) := by rw [heq]
          have h4 := h3.set (i := i) (x := 0) (by omega)
          have e4 : (List.replicate i 0 ++ D.drop i).set i 0 = List.replicate (i + 1) 0 ++ D.drop (i + 1) := by
            rw [List.set_append_right _ _ (by simp)]
            simp only [List.length_replicate, Nat.sub_self]
            rw [show D.drop i = D[i]'(by omega) :: D.drop (i + 1) from (List.getElem_cons_drop (by omega)).symm, List.set_cons_zero, List.replicate_succ', List.append_assoc]
            try rfl
          rw [e4] at h4
          simp only [stp, Nat.reduceAdd, Int.reduceLT, Int.reduceLE, Int.reduceEq, Int.reduceNe, ne_eq, bne_self_eq_false, beq_self_eq_true, stm, hil', ixp, cel_drew, fre_drew, cp1, ixt, ct1, lnE, hwp, heq', hwi, fp, Option.isSome_some, Option.getD_some]
          refine hJ2 ((lensF l).length - (i + 1)) _ _ (by omega) ⟨i + 1, rfl, by omega, rfl, fun t h h1 h2 => ?_, h4⟩
          by_cases e : t = i
          · subst e; rw [heq, lnk t hil hic]
          · exact hmax t (by omega) h1 h2
        · have h3 := h3.k0 ((K0.refl u3).drew)
          have heq' : ¬ (((D[i]'(by omega) : Nat) : Int) = (((choicesF l)[i].length - 1 : Nat) : Int)) := by omega
          have hne : ¬ ((i : Int) = ((lensF l).length : Int)) := by omega
          have hwd : IntKind.i64.wrap (((D[i]'(by omega) : Nat) : Int) + 1) = ((D[i]'(by omega) + 1 : Nat) : Int) := wrap_succ (by have := hdlt i hil (by omega); rw [lnk i hil hic] at this; omega)
          have h4 := h3.set (i := i) (x := D[i]'(by omega) + 1) (by omega)
          have e4 : (List.replicate i 0 ++ D.drop i).set i (D[i]'(by omega) + 1) = List.replicate i 0 ++ (D[i]'(by omega) + 1) :: D.drop (i + 1) := by
            rw [List.set_append_right _ _ (by simp)]
            simp only [List.length_replicate, Nat.sub_self]
            rw [show D.drop i = D[i]'(by omega) :: D.drop (i + 1) from (List.getElem_cons_drop (by omega)).symm, List.set_cons_zero]
          rw [e4] at h4
          have hca := carry_at (lensF l) D dN i hil (fun t h => hmax t h (by omega) (by omega)) (by rw [lnk i hil hic]; exact heq)
          obtain ⟨hds, hN1⟩ := cd2 _ hca
          rw [hds] at h4
          simp only [stp, Nat.reduceAdd, Int.reduceLT, Int.reduceLE, Int.reduceEq, Int.reduceNe, ne_eq, bne_self_eq_false, beq_self_eq_true, stm, hil', ixp, cel_drew, fre_drew, cp1, ixt, ct1, lnE, hwp, heq', hne, hwd, fp, Option.isSome_some, Option.getD_some]
          exact hJ _ _ (by omega) ⟨N + 1, hN1, rfl, hno', h4⟩
      · have hil' : ¬ ((i : Int) < ((lensF l).length : Int)) := by omega
        have hie : i = (lensF l).length := by omega
        have hie' : ((i : Int) = ((lensF l).length : Int)) := by omega
        have hcf := carry_full (lensF l) D dN fun t h => hmax t (by omega) (by omega) h
        have hNe := cd1 hcf
        have hlz : ¬ (((lensF l).length : Int) < ((lensF l).length : Int)) := by omega
        simp only [stp, Nat.reduceAdd, Int.reduceLT, Int.reduceLE, Int.reduceEq, Int.reduceNe, ne_eq, bne_self_eq_false, beq_self_eq_true, stm, hil', hie', hlz]
        have h3 := h3.k0 ((K0.refl u3).drew)
        have := hq0 _ he h3.k
        rw [judge_no (fun N' h => hno' N' (by omega))] at this
        exact this
end
end Go.Proofs.YtmmnifbponhhfaaGreatT
