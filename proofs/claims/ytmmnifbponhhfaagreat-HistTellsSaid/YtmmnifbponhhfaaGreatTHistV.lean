/- Events that came in: how they are read, whether they are few, the document's copies. Conditions: as each says. -/
import Derived.Test.YtmmnifbponhhfaaGreatTHistU
import Derived.Test.YtmmnifbponhhfaaGreatTShV
set_option linter.unusedSimpArgs false
set_option linter.unusedVariables false
namespace Go.Proofs.YtmmnifbponhhfaaGreatT
open Go.Sh Go.Sh.Hi
set_option maxRecDepth 100000
section
variable {w w' u u' : World} {Q : Value → World → Prop} {v x : Value} {L : List Ev}
theorem u64_wf {n : Int} (h : (Lit.int .u64 n).wf = true) : 0 ≤ n ∧ n ≤ 18446744073709551615 := by
  simpa [Lit.wf, IntKind.min, IntKind.max, IntKind.signed, IntKind.bits] using h
/-- An event that came in, however great. -/
structure EvA (w : World) (e : Ev) : Prop where
  r : Rd 3 w e.rv e.rd.length (flat encM e.rd)
  q : Rd 3 w e.wv e.wr.length (flat encM e.wr)
  lr : e.rd.length ≤ maxLen
  lw : e.wr.length ≤ maxLen
  ep : 0 ≤ e.epoch ∧ e.epoch ≤ 18446744073709551615
  ls : 0 ≤ e.lsn ∧ e.lsn ≤ 18446744073709551615
  wf : ∀ i ∈ e.wr, (Lit.int .i64 i.1).wf = true
theorem EvA.toR {e : Ev} (h : EvA w e) (h1 : e.rd.length ≤ 12) (h2 : e.wr.length ≤ 12) (h3 : ∀ i ∈ e.wr, i.2.2.size ≤ 1500) : EvR w e :=
  ⟨h.r, h.q, by omega, by omega, h.ep, h.ls, fun i hi => ⟨h.wf i hi, by have := h3 i hi; omega⟩⟩
abbrev imK : List LK := [.int .i64, .int .u64, .str]
abbrev evK : List LW := [.b (.int .i64), .b (.int .i64), .b (.int .u64), .b (.int .u64), .rows imK, .rows imK]
theorem ims_of {v : Value} (h : RowsOk w imK v) : ∃ l : List Im, Rd 3 w v l.length (flat encM l) ∧ l.length ≤ maxLen ∧ ∀ i ∈ l, (Lit.int .i64 i.1).wf = true := by
  obtain ⟨a, n, c, xs, rfl, hl, hrd, hm, ho⟩ := h
  have gen : ∀ xs : List (List Value), (∀ x ∈ xs, AllOk imK x) → ∃ l : List Im, l.length = xs.length ∧ xs.flatten = flat encM l ∧ ∀ i ∈ l, (Lit.int .i64 i.1).wf = true := by
    intro xs
    induction xs with
    | nil => intro _; exact ⟨[], rfl, rfl, fun i hi => by cases hi⟩
    | cons x xs ih =>
      intro h
      obtain ⟨l, h1, h2, h3⟩ := ih fun y hy => h y (by simp [hy])
      have hx := h x (by simp)
      cases x with
      | nil => exact hx.elim
      | cons a r =>
        obtain ⟨⟨n, rfl, hn⟩, hr⟩ := hx
        cases r with
        | nil => exact hr.elim
        | cons b r =>
          obtain ⟨⟨m, rfl, _⟩, hr⟩ := hr
          cases r with
          | nil => exact hr.elim
          | cons s r =>
            obtain ⟨⟨d, rfl, _⟩, hr⟩ := hr
            cases r with
            | cons b r => exact hr.elim
            | nil =>
              refine ⟨(n, m, d) :: l, by simp [h1], by rw [List.flatten_cons, h2]; rfl, fun i hi => ?_⟩
              rcases List.mem_cons.1 hi with rfl | hi
              · exact hn
              · exact h3 i hi
  obtain ⟨l, h1, h2, h3⟩ := gen xs ho
  refine ⟨l, ?_, by omega, h3⟩
  rw [h1, hl, ← h2]; exact hrd
theorem evs_of : ∀ {xs : List (List Value)}, (∀ x ∈ xs, AllOkW w evK x) → ∃ L : List Ev, L.length = xs.length ∧ xs.flatten = flat encE L ∧ ∀ e ∈ L, EvA w e
  | [], _ => ⟨[], rfl, rfl, fun e he => by cases he⟩
  | x :: xs, h => by
    obtain ⟨L, h1, h2, h3⟩ := evs_of (xs := xs) fun y hy => h y (List.mem_cons_of_mem _ hy)
    obtain ⟨v0, r0, rfl, k0, hr0⟩ := (h x (by simp)).cons
    obtain ⟨v1, r1, rfl, k1, hr1⟩ := hr0.cons
    obtain ⟨v2, r2, rfl, k2, hr2⟩ := hr1.cons
    obtain ⟨v3, r3, rfl, k3, hr3⟩ := hr2.cons
    obtain ⟨v4, r4, rfl, k4, hr4⟩ := hr3.cons
    obtain ⟨v5, r5, rfl, k5, hr5⟩ := hr4.cons
    rw [hr5.nil] at h ⊢
    obtain ⟨n0, rfl, _⟩ := k0
    obtain ⟨n1, rfl, _⟩ := k1
    obtain ⟨n2, rfl, w2⟩ := k2
    obtain ⟨n3, rfl, w3⟩ := k3
    obtain ⟨l4, a4, b4, c4⟩ := ims_of k4
    obtain ⟨l5, a5, b5, c5⟩ := ims_of k5
    have b2 := u64_wf w2
    have b3 := u64_wf w3
    refine ⟨⟨n0, n1, n2, n3, v4, v5, l4, l5⟩ :: L, by simp [h1], by rw [List.flatten_cons, h2]; rfl, fun e he => ?_⟩
    rcases List.mem_cons.1 he with rfl | he
    · exact ⟨a4, a5, b4, b5, b2, b3, c5⟩
    · exact h3 e he
theorem room_c {left n : Int} {v : Value} (hr : Rd 1 w v 1 [.int .i64 n]) (h0 : 0 ≤ left ∧ left ≤ 100000) (hn : 0 ≤ n) (hq : ∀ w', K0 w w' → Q (.int .i64 (if left < n then -1 else left - n)) w') :
    callS Tryz.prog 97 #[.int .i64 left, v] Q w := by
  refine ref97 ?_
  unfold S97
  obtain ⟨g, o, c, rfl, _, hc⟩ := hr.at (by omega)
  have c0 : Sh.cel w g o = some (.int .i64 n) := by have := hc 0 (by omega); simpa using this
  have i0 : ∀ {k' : Value → Prop}, pur Tryz.prog (Instr.indexAt 86 (.slice (some ⟨g, o, none⟩) 1 c) (.int .i64 0)) k' = k' (.pointer (some ⟨g, o, none⟩)) := by
    intro k'
    exact ix_86 (i := 0) (by omega)
  refine lp2 (fun m a b u => u = w ∧ ((a = .int .i64 left ∧ b = .int .i64 0 ∧ m = 1) ∨ (a = .int .i64 (left - n) ∧ b = .int .i64 1 ∧ m = 0 ∧ ¬ left < n))) 1 ⟨rfl, .inl ⟨rfl, rfl, rfl⟩⟩ ?_
  rintro m a b u ⟨rfl, ⟨rfl, rfl, rfl⟩ | ⟨rfl, rfl, rfl, hlt⟩⟩ J hJ _j
  · have e1 : ((0 : Int) < ((1 : Nat) : Int)) := by omega
    have e2 : ¬ (left < 0) := by omega
    simp only [ln_86, pur_lss, e1, e2, decide_true, decide_false, condS_true, gd_hit, i0, rd_eq (rl_3 c0), pur_gtr]
    by_cases hlt : left < n
    · simp only [hlt, decide_true, pur_pick_f, condS_true]
      have := hq u (K0.refl _)
      rw [if_pos hlt] at this
      exact this
    · simp only [hlt, decide_false, pur_pick_f, condS_false, pur_sub, pur_add]
      refine hJ 0 _ _ _ (by omega) ⟨rfl, .inr ⟨by rw [wrap_id (by omega) (by omega)], by rw [wrap_id (by omega) (by omega)]; rfl, rfl, hlt⟩⟩
  · have e1 : ¬ ((1 : Int) < ((1 : Nat) : Int)) := by omega
    simp only [ln_86, pur_lss, e1, decide_false, condS_false]
    have := hq u (K0.refl _)
    rw [if_neg hlt] at this
    exact this
theorem light_c {l : List Im} {v : Value} (hr : Rd 3 w v l.length (flat encM l)) (hq : ∀ w' b, K0 w w' → (b = true → l.length ≤ 12 ∧ ∀ i ∈ l, i.2.2.size ≤ 1500) → Q (.bool b) w') :
    callS Tryz.prog 20 #[.int .i64 12, .int .i64 1500, v] Q w := by
  refine ref20 ?_
  unfold S20
  obtain ⟨pa, ca, rfl⟩ := hr.form
  by_cases hb : (12 : Int) < (l.length : Int)
  · simp only [ln_53, pur_gtr, hb, decide_true, condS_true]
    exact hq w false (K0.refl _) fun h => by cases h
  simp only [ln_53, pur_gtr, hb, decide_false, condS_false]
  refine lp2 (fun m a b u => ∃ (i : Nat) (room : Int), b = .int .i64 (i : Int) ∧ a = .int .i64 room ∧ i ≤ l.length ∧ m = l.length - i ∧ K0 w u ∧ -1 ≤ room ∧ room ≤ 1500 ∧ (0 ≤ room → ∀ z ∈ l.take i, z.2.2.size ≤ 1500)) l.length
    ⟨0, 1500, rfl, rfl, Nat.zero_le _, rfl, K0.refl _, by omega, by omega, fun _ z hz => by simp at hz⟩ ?_
  rintro m a b u ⟨i, room, rfl, rfl, hi, rfl, ku, hr1, hr2, hsz⟩ J hJ _j
  by_cases hil : i < l.length
  · have hi' : ((i : Int) < (l.length : Int)) := by omega
    by_cases hrm : (0 : Int) ≤ room
    · simp only [pur_lss, hi', decide_true, gd_hit, pur_geq, hrm, pur_pick_t, condS_true]
      obtain ⟨g, o, c, ee, _, hc⟩ := (hr.keep0 ku).at (by omega)
      injection ee with e1 _ e2
      subst e1 e2
      obtain ⟨p0, p1, p2⟩ := im_at hc (List.getElem?_eq_getElem hil)
      simp only [ix_53 hil, fa_69_2, rd_eq (rl_9 p2), ln_9]
      rw [bs_86 one_int]
      have ka := (K0.refl u).alloc (.cells #[.int .i64 (l[i].2.2.size : Int)] 3)
      have ra : Rd 1 (u.alloc (.cells #[.int .i64 (l[i].2.2.size : Int)] 3)) (.slice (some ⟨siz u, 0, none⟩) 1 1) 1 [.int .i64 (l[i].2.2.size : Int)] := ⟨rfl, .inr ⟨siz u, 0, 1, rfl, by omega, fun j hj => by rw [Nat.zero_add, cel_alloc_new]; simp⟩⟩
      refine room_c ra ⟨hrm, by omega⟩ (by omega) fun u2 k2 => ?_
      rw [pur_add, wrap_succ (i := i) (by omega)]
      refine hJ (l.length - (i + 1)) _ _ _ (by omega) ⟨i + 1, _, rfl, rfl, by omega, rfl, (ku.trans ka).trans k2, ?_, ?_, fun h0 z hz => ?_⟩
      · split <;> omega
      · split <;> omega
      · split at h0
        · omega
        · rw [List.take_add_one, List.getElem?_eq_getElem hil] at hz
          rcases List.mem_append.1 hz with hz | hz
          · exact hsz hrm z hz
          · rw [List.mem_singleton.1 hz]; omega
    · simp only [pur_lss, hi', decide_true, gd_hit, pur_geq, hrm, decide_false, pur_pick_t, condS_false]
      exact hq u _ ku fun h => by cases h
  · have hi' : ¬ ((i : Int) < (l.length : Int)) := by omega
    simp only [pur_lss, hi', decide_false, gd_ft, gd_undef, pur_pick_f, condS_false, pur_geq]
    refine hq u _ ku fun h => ⟨by omega, fun z hz => hsz (of_decide_eq_true h) z (by rw [List.take_of_length_le (by omega)]; exact hz)⟩
theorem small_c (hr : Rd 6 w v L.length (flat encE L)) (ho : ∀ e ∈ L, EvA w e) (hq : ∀ w' b, K0 w w' → (b = true → L.length ≤ 210 ∧ ∀ e ∈ L, (e.rd.length ≤ 12 ∧ e.wr.length ≤ 12) ∧ ∀ i ∈ e.wr, i.2.2.size ≤ 1500) → Q (.bool b) w') :
    callS Tryz.prog 4 #[v] Q w := by
  refine ref4 ?_
  unfold S4
  obtain ⟨pa, ca, rfl⟩ := hr.form
  refine lpc1 (min L.length 300) (by omega) (fun i u => K0 w u ∧ ∀ e ∈ L.take i, (e.rd.length ≤ 12 ∧ e.wr.length ≤ 12) ∧ ∀ i ∈ e.wr, i.2.2.size ≤ 1500) ⟨K0.refl _, fun e he => by simp at he⟩ (fun i u hi ⟨ku, hall⟩ J hJ => ?_) (fun u ⟨ku, hall⟩ J => ?_)
  · intro _j
    have hil : i < L.length := by omega
    have h1 : (i : Int) < (L.length : Int) := by omega
    have h2 : (i : Int) < 300 := by omega
    obtain ⟨g, o, c, ee, _, hc⟩ := (hr.keep0 ku).at (by omega)
    injection ee with e1 _ e2
    subst e1 e2
    obtain ⟨p0, p1, p2, p3, p4, p5⟩ := ev_at hc (List.getElem?_eq_getElem hil)
    have he := ho _ (List.getElem_mem hil)
    simp only [ln_22, pur_lss, h1, h2, decide_true, gd_hit, pur_pick_t, condS_true, ix_22 hil, fa_66_4, rd_eq (rl_53 p4)]
    refine light_c (he.r.keep0 ku) fun u2 b k2 hb => ?_
    cases b with
    | false =>
      simp only [pur_not, Bool.not_false, gd_tf, gd_undef, pur_pick_t, condS_true]
      exact hq u2 false (ku.trans k2) fun h => by cases h
    | true =>
      simp only [pur_not, Bool.not_true, gd_hit, ix_22 hil, fa_66_5, rd_eq (rl_53 (k2.cel p5 id))]
      refine light_c (he.q.keep0 (ku.trans k2)) fun u3 b k3 hb2 => ?_
      have k23 := (ku.trans k2).trans k3
      cases b with
      | false =>
        simp only [pur_not, Bool.not_false, pur_pick_f, condS_true]
        exact hq u3 false k23 fun h => by cases h
      | true =>
        simp only [pur_not, Bool.not_true, pur_pick_f, condS_false, pur_add]
        refine hJ _ ⟨k23, fun e hm => ?_⟩
        rw [List.take_add_one, List.getElem?_eq_getElem hil] at hm
        rcases List.mem_append.1 hm with hm | hm
        · exact hall e hm
        · rw [List.mem_singleton.1 hm]
          exact ⟨⟨(hb rfl).1, (hb2 rfl).1⟩, (hb2 rfl).2⟩
  · intro _j
    have fin : Q (.bool (decide ((L.length : Int) ≤ 210))) u := by
      refine hq u _ ku fun h => ?_
      have h := of_decide_eq_true h
      refine ⟨by omega, fun e he => hall e ?_⟩
      rw [List.take_of_length_le (by omega)]; exact he
    by_cases h1 : min L.length 300 < L.length
    · have h1' : (((min L.length 300 : Nat) : Int) < (L.length : Int)) := by omega
      have h2' : ¬ (((min L.length 300 : Nat) : Int) < 300) := by omega
      simp only [ln_22, pur_lss, h1', h2', decide_true, decide_false, gd_hit, pur_pick_t, condS_false, pur_leq]
      exact fin
    · have h1' : ¬ (((min L.length 300 : Nat) : Int) < (L.length : Int)) := by omega
      simp only [ln_22, pur_lss, h1', decide_false, gd_ft, gd_undef, pur_pick_f, condS_false, pur_leq]
      exact fin
theorem copies_c (hr : Rd 6 w v L.length (flat encE L)) (hl : L.length ≤ 300) (ho : ∀ e ∈ L, EvR w e) (hq : ∀ w' v', K0 w w' → Sh.Own w' (siz w) tDv 6 v' L.length (flat encE L) → Q v' w') :
    callS Tryz.prog 6 #[v] Q w := by
  refine ref6 ?_
  unfold S6
  obtain ⟨pa, ca, rfl⟩ := hr.form
  refine lpc2 L.length (by omega) (fun i x u => K0 w u ∧ Sh.Own u (siz w) tDv 6 x (L.take i).length (flat encE (L.take i))) ⟨K0.refl _, Sh.Own.nil _ _ _ _⟩ (fun i x u hi ⟨ku, ox⟩ J hJ => ?_) (fun x u ⟨ku, ox⟩ J => ?_)
  · intro _j
    have hi' : (i : Int) < (L.length : Int) := by omega
    have kd : K0 u u.drew := (K0.refl u).drew
    obtain ⟨g, o, c, ee, _, hc⟩ := (hr.keep0 (ku.trans kd)).at (by omega)
    injection ee with e1 _ e2
    subst e1 e2
    obtain ⟨p0, p1, p2, p3, p4, p5⟩ := ev_at hc (List.getElem?_eq_getElem hi)
    have he := (ho _ (List.getElem_mem hi)).ones
    have ht : L.take (i + 1) = L.take i ++ [L[i]] := by rw [List.take_add_one, List.getElem?_eq_getElem hi]; rfl
    rw [ht] at hJ
    simp only [ln_22, pur_lss, hi', decide_true, condS_true, ix_22 hi, fa_66_0, fa_66_1, fa_66_2, fa_66_3, fa_66_4, fa_66_5,
      rd_eq (rl_3 p0), rd_eq (rl_3 p1), rd_eq (rl_64 p2), rd_eq (rl_64 p3), rd_eq (rl_53 p4), rd_eq (rl_53 p5)]
    rw [bd_71_0_1_2_3_4_5 one_int one_int one_int one_int he.1 he.2]
    refine push_dv (e := L[i]) (B0 := w) (ox.keep kd fun _ _ => id) (ku.trans kd) he.1 he.2 (by rw [List.length_take]; omega) fun u2 x2 k2 o2 _ _ => ?_
    rw [pur_add]
    exact hJ _ _ ⟨k2, o2⟩
  · intro _j
    have hi' : ¬ ((L.length : Int) < (L.length : Int)) := by omega
    simp only [ln_22, pur_lss, hi', decide_false, condS_false]
    rw [List.take_length] at ox
    exact hq u x ku ox
end
end Go.Proofs.YtmmnifbponhhfaaGreatT
