/- Cuts, as the document tells them. Conditions: as it says. -/
import Derived.Test.YtmmnifbponhhfaaGreatTHistS
set_option linter.unusedSimpArgs false
set_option linter.unusedVariables false
namespace Go.Proofs.YtmmnifbponhhfaaGreatT
open Go.Sh Go.Sh.Hi
set_option maxRecDepth 100000
section
variable {w w' u u' : World} {Q : Value → World → Prop} {v x : Value} {l : List Ev}
theorem quo_lt {n d : Int} (hn : 1 ≤ n) (h : Int.tdiv 3000 n < d) : 3000 < n * d := by
  rw [Int.tdiv_eq_ediv_of_nonneg (by omega)] at h
  have h1 := Int.mul_ediv_add_emod 3000 n
  have h2 := Int.emod_lt_of_pos 3000 (show 0 < n by omega)
  have h3 : n * (3000 / n + 1) ≤ n * d := Int.mul_le_mul_of_nonneg_left (by omega) (by omega)
  rw [Int.mul_add, Int.mul_one] at h3
  omega
theorem quo_ge {n d : Int} (hn : 1 ≤ n) (h : ¬ Int.tdiv 3000 n < d) : n * d ≤ 3000 := by
  rw [Int.tdiv_eq_ediv_of_nonneg (by omega)] at h
  have h1 := Int.mul_ediv_add_emod 3000 n
  have h2 := Int.emod_nonneg 3000 (show n ≠ 0 by omega)
  have h3 : n * d ≤ n * (3000 / n) := Int.mul_le_mul_of_nonneg_left (by omega) (by omega)
  omega
theorem quo_b {n : Int} (hn : 1 ≤ n) : 0 ≤ Int.tdiv 3000 n ∧ Int.tdiv 3000 n ≤ 3000 := by
  rw [Int.tdiv_eq_ediv_of_nonneg (by omega)]
  exact ⟨Int.ediv_nonneg (by omega) (by omega), Int.ediv_le_self _ (by omega)⟩
theorem cutsR_len : ∀ (l pre : List Ev), (cutsR pre l).length ≤ l.length
  | [], pre => by simp [cutsR]
  | x :: l, pre => by have := cutsR_len l (pre ++ [x]); simp only [cutsR, List.length_append, List.length_cons]; split <;> simp <;> omega
set_option maxHeartbeats 8000000 in
theorem dcuts_c (hr : Rd 6 w v l.length (flat encE l)) (hl : l.length ≤ 100000) (ho : ∀ x ∈ l, EvR w x)
    (hq0 : ∀ w' v' vs, errF l = 0 → K0 w w' → RC w' (siz w) v' vs (choicesF l) → Q (.tuple #[v', .int .i64 0]) w') (hq1 : ∀ w', errF l ≠ 0 → K0 w w' → Q (.tuple #[.slice none 0 0, .int .i64 (errF l)]) w') :
    callS Tryz.prog 9 #[v] Q w := by
  refine ref9 ?_
  unfold S9
  obtain ⟨pa, ca, rfl⟩ := hr.form
  have hlsn : ∀ x ∈ l, x.lsn < 18446744073709551616 := fun x hx => by have := (ho x hx).ls; omega
  have hb : ∀ k (hk : k < l.length), 0 ≤ leastF (l.take k) l[k] ∧ leastF (l.take k) l[k] ≤ mostF (l.take k) l[k] ∧ mostF (l.take k) l[k] ≤ 18446744073709551615 := fun k hk => by
    have hs : ∀ x ∈ l.take k, x.lsn < 18446744073709551616 := fun x hx => hlsn x (List.mem_of_mem_take hx)
    have h1 := leastF_b (g := l[k]) (by omega) hs
    have h2 := mostF_b (g := l[k]) (by omega) hs
    omega
  by_cases hbig : (200 : Int) < (l.length : Int)
  · have he : errF l = 2 := if_pos (by omega)
    simp only [ln_44, pur_gtr, hbig, decide_true, condS_true]
    have := hq1 w (by rw [he]; decide) (K0.refl _)
    rw [he] at this
    exact this
  have hbig2 : ¬ 200 < l.length := by omega
  have toolong : waysF (cutsR [] l) = none → ∀ u, K0 w u → Q (.tuple #[.slice none 0 0, .int .i64 2]) u := fun h u ku => by
    have he : errF l = 2 := by unfold errF; rw [if_neg hbig2, if_pos h]
    have := hq1 u (by rw [he]; decide) ku
    rw [he] at this
    exact this
  have badkind : waysF (cutsR [] l) ≠ none → kindsF l = false → ∀ u, K0 w u → Q (.tuple #[.slice none 0 0, .int .i64 1]) u := fun h h2 u ku => by
    have he : errF l = 1 := by unfold errF; rw [if_neg hbig2, if_neg h, h2]; rfl
    have := hq1 u (by rw [he]; decide) ku
    rw [he] at this
    exact this
  have good : waysF (cutsR [] l) ≠ none → kindsF l = true → errF l = 0 := fun h h2 => by unfold errF; rw [if_neg hbig2, if_neg h, h2]; rfl
  clear hq1
  simp only [ln_44, pur_gtr, hbig, decide_false, condS_false]
  refine lpc3 l.length (by omega) (fun i x y u => ∃ n vs, y = .int .i64 n ∧ waysF (cutsR [] (l.take i)) = some n ∧ K0 w u ∧ RC u (siz w) x vs (choicesF (l.take i))) ⟨1, [], rfl, rfl, K0.refl _, RC.nil⟩ (fun i x y u hi ⟨n, vs, hy, hn, ku, hrc⟩ J hJ => ?_) (fun x y u ⟨n, vs, hy, hn, ku, hrc⟩ J => ?_)
  · intro _j
    subst hy
    have hi' : ((i : Int) < (l.length : Int)) := by omega
    obtain ⟨g, o, c, ee, _, hc⟩ := (hr.keep0 ku).at (by omega)
    injection ee with e1 _ e2
    subst e1 e2
    obtain ⟨p0, p1, p2, p3, p4, p5⟩ := ev_at hc (List.getElem?_eq_getElem hi)
    have hct := cutsR_take hi
    have hbi := hb i hi
    obtain ⟨n1, n2, _⟩ := waysF_pos _ (cutsR_le _ _) hn
    have hvl : vs.length ≤ 200 := by
      rw [hrc.n]; unfold choicesF; rw [List.length_map]
      have := cutsR_len (l.take i) []
      rw [List.length_take] at this
      omega
    simp only [pur_lss, hi', decide_true, condS_true]
    refine jn2 (fun x y u' => ∃ n vs, y = .int .i64 n ∧ waysF (cutsR [] (l.take (i + 1))) = some n ∧ K0 w u' ∧ RC u' (siz w) x vs (choicesF (l.take (i + 1)))) (fun J1 hJ1 => ?_) ?_
    rotate_left
    · rintro x' y' u' h' _j
      rw [pur_add]
      exact hJ _ _ _ h'
    simp only [ix_44 hi, fa_71_0, rd_eq (rl_3 p0)]
    by_cases e3 : l[i].kind = 3
    · simp only [pur_neq, e3, ne_eq, not_true_eq_false, decide_false, condS_false]
      refine lpc3 i (by omega) (fun k x y u' => K0 u u' ∧ x = .int .u64 (leastF (l.take k) l[i]) ∧ y = .int .u64 (maxL (fun x => same x l[i] && decide (x.kind = 1)) 0 (l.take k))) ⟨K0.refl _, rfl, rfl⟩ (fun k x y u1 hk ⟨k1, hx, hy⟩ J2 hJ2 => ?_) (fun x y u1 ⟨k1, hx, hy⟩ J2 => ?_)
      · intro _j
        subst hx hy
        have hk' : ((k : Int) < (i : Int)) := by omega
        have hkl : k < l.length := by omega
        obtain ⟨q0, q1, q2, q3, q4, q5⟩ := ev_at hc (List.getElem?_eq_getElem hkl)
        have ht : l.take (k + 1) = l.take k ++ [l[k]] := by rw [List.take_add_one, List.getElem?_eq_getElem hkl]; rfl
        have hls : leastF (l.take (k + 1)) l[i] = if (same l[k] l[i] && decide (l[k].kind = 2)) = true then max (leastF (l.take k) l[i]) l[k].lsn else leastF (l.take k) l[i] := by unfold leastF; rw [ht, maxL_snoc]
        have hms : maxL (fun x => same x l[i] && decide (x.kind = 1)) 0 (l.take (k + 1)) = if (same l[k] l[i] && decide (l[k].kind = 1)) = true then max (maxL (fun x => same x l[i] && decide (x.kind = 1)) 0 (l.take k)) l[k].lsn else maxL (fun x => same x l[i] && decide (x.kind = 1)) 0 (l.take k) := by rw [ht, maxL_snoc]
        rw [hls, hms] at hJ2
        simp only [pur_lss, hk', decide_true, condS_true]
        refine jn2 (fun x y u' => K0 u u' ∧ x = .int .u64 (if (same l[k] l[i] && decide (l[k].kind = 2)) = true then max (leastF (l.take k) l[i]) l[k].lsn else leastF (l.take k) l[i]) ∧ y = .int .u64 (if (same l[k] l[i] && decide (l[k].kind = 1)) = true then max (maxL (fun x => same x l[i] && decide (x.kind = 1)) 0 (l.take k)) l[k].lsn else maxL (fun x => same x l[i] && decide (x.kind = 1)) 0 (l.take k))) (fun J3 hJ3 => ?_) ?_
        rotate_left
        · rintro x' y' u' h' _j
          rw [pur_add]
          exact hJ2 _ _ _ h'
        have kd := k1.trans ((K0.refl u1).drew)
        simp only [ix_44 hkl, ix_44 hi, fa_71_1, rd_eq (rl_3 (kd.cel q1 id)), rd_eq (rl_3 (kd.cel p1 id))]
        by_cases e1 : l[k].node = l[i].node
        · simp only [pur_neq, e1, ne_eq, not_true_eq_false, decide_false, gd_hit, ix_44 hkl, ix_44 hi, fa_71_2, rd_eq (rl_64 (kd.cel q2 id)), rd_eq (rl_64 (kd.cel p2 id))]
          by_cases e2 : l[k].epoch = l[i].epoch
          · simp only [pur_neq, e2, ne_eq, not_true_eq_false, decide_false, pur_pick_f, condS_false]
            refine jn1 (fun x u' => x = .int .u64 (if (same l[k] l[i] && decide (l[k].kind = 2)) = true then max (leastF (l.take k) l[i]) l[k].lsn else leastF (l.take k) l[i]) ∧ u' = u1.drew) (fun J4 hJ4 => ?_) ?_
            · simp only [ix_44 hkl, fa_71_0, rd_eq (rl_3 (kd.cel q0 id))]
              by_cases e4 : l[k].kind = 2
              · simp only [pur_eql, e4, decide_true, condS_true, ix_44 hkl, fa_71_3, rd_eq (rl_64 (kd.cel q3 id)), pur_max]
                exact hJ4 _ _ ⟨by simp [same, e1, e2, e4], rfl⟩
              · simp only [pur_eql, e4, decide_false, condS_false]
                exact hJ4 _ _ ⟨by simp [same, e1, e2, e4], rfl⟩
            · rintro x' u' ⟨rfl, rfl⟩ _j
              simp only [ix_44 hkl, fa_71_0, rd_eq (rl_3 (kd.cel q0 id))]
              by_cases e4 : l[k].kind = 1
              · simp only [pur_eql, e4, decide_true, condS_true, ix_44 hkl, fa_71_3, rd_eq (rl_64 (kd.cel q3 id)), pur_max]
                exact hJ3 _ _ _ ⟨kd, by simp [same, e1, e2, e4], by simp [same, e1, e2, e4]⟩
              · simp only [pur_eql, e4, decide_false, condS_false]
                exact hJ3 _ _ _ ⟨kd, rfl, by simp [same, e1, e2, e4]⟩
          · simp only [pur_neq, e2, ne_eq, not_false_eq_true, decide_true, pur_pick_f, condS_true]
            exact hJ3 _ _ _ ⟨kd, by simp [same, e1, e2], by simp [same, e1, e2]⟩
        · simp only [pur_neq, e1, ne_eq, not_false_eq_true, decide_true, gd_tf, gd_undef, pur_pick_t, condS_true]
          exact hJ3 _ _ _ ⟨kd, by simp [same, e1], by simp [same, e1]⟩
      · intro _j
        subst hx hy
        have hk' : ¬ ((i : Int) < (i : Int)) := by omega
        have hBm : max (maxL (fun x => same x l[i] && decide (x.kind = 1)) 0 (l.take i)) (leastF (l.take i) l[i]) = mostF (l.take i) l[i] := Int.max_comm _ _
        simp only [pur_lss, hk', decide_false, condS_false, pur_max, hBm]
        rw [if_pos e3] at hct
        generalize leastF (l.take i) l[i] = a at hbi hct
        generalize mostF (l.take i) l[i] = b at hbi hct
        have hws : IntKind.u64.wrap (b - a) = b - a := wrap_u (by omega) (by omega)
        have hw := waysF_snoc (l := cutsR [] (l.take i)) (p := (a, b))
        rw [hn, ← hct] at hw
        dsimp only at hw
        by_cases hg : 3000 ≤ b - a
        · simp only [pur_sub, hws, pur_geq, hg, decide_true, gd_tf, gd_undef, pur_pick_t, condS_true]
          rw [if_pos (.inl hg)] at hw
          exact toolong (ways_take hw) u1 (ku.trans k1)
        have hm3 : IntKind.i64.wrap (b - a) = b - a := wrap_id (by omega) (by omega)
        have hm4 : IntKind.i64.wrap (b - a + 1) = b - a + 1 := wrap_id (by omega) (by omega)
        have hqb := quo_b n1
        have hm5 : IntKind.i64.wrap (Int.tdiv 3000 n) = Int.tdiv 3000 n := wrap_id (by omega) (by omega)
        have hn0 : n ≠ 0 := by omega
        by_cases hg2 : Int.tdiv 3000 n < b - a + 1
        · simp only [pur_sub, hws, pur_geq, hg, decide_false, gd_hit, cv_64_3, pur_add, hm3, hm4, pur_quo hn0, hm5, pur_gtr, hg2, decide_true, pur_pick_f, condS_true]
          rw [if_pos (.inr (quo_lt n1 hg2))] at hw
          exact toolong (ways_take hw) u1 (ku.trans k1)
        have hpr := quo_ge n1 hg2
        have hpr0 : 0 ≤ n * (b - a + 1) := Int.mul_nonneg (by omega) (by omega)
        have hm6 : IntKind.i64.wrap (n * (b - a + 1)) = n * (b - a + 1) := wrap_id (by omega) (by omega)
        simp only [pur_sub, hws, pur_geq, hg, decide_false, gd_hit, cv_64_3, pur_add, hm3, hm4, pur_quo hn0, hm5, pur_gtr, hg2, pur_pick_f, condS_false, pur_mul, hm6]
        rw [if_neg (by omega)] at hw
        have hrl : rangeF (a, b) = (List.range ((b - a).toNat + 1)).map fun k => a + (k : Nat) := by
          unfold rangeF
          rw [show (b - a + 1).toNat = (b - a).toNat + 1 by omega]
        have hrn : (rangeF (a, b)).length = (b - a).toNat + 1 := by rw [hrl]; simp
        have hrc1 := hrc.keep0 k1
        refine lp2 (fun m c v u' => ∃ j : Nat, (j : Int) ≤ b - a ∧ m = (b - a).toNat - j ∧ v = .int .u64 (a + j) ∧ K0 u1 u' ∧ Sh.Own u' (siz u1) 64 1 c j (flat encN ((rangeF (a, b)).take j))) (b - a).toNat ⟨0, by omega, by omega, by simp, K0.refl _, Sh.Own.nil _ _ _ _⟩ ?_
        rintro m cv v u2 ⟨j, hj, rfl, rfl, k2, oc⟩ J5 hJ5 _j
        have s1 := (ku.trans k1).size
        have s2 := k2.size
        rw [bs_23 one_int]
        refine pu_23 oc (fun y hy => by rw [List.mem_singleton.1 hy]; rfl) (by omega) s2 fun c' u3 oc' k3' _ => ?_
        have k3 : K0 u1 u3 := k2.trans' k3' fun q hq e => by have := (oc.lt e).1; omega
        have htk : flat encN ((rangeF (a, b)).take (j + 1)) = flat encN ((rangeF (a, b)).take j) ++ [.int .u64 (a + j)] := by
          rw [List.take_add_one, hrl, List.getElem?_map, List.getElem?_range (by omega), flat_append]; rfl
        rw [← htk] at oc'
        by_cases he : a + (j : Int) = b
        · have hjn : j + 1 = (rangeF (a, b)).length := by rw [hrn]; omega
          rw [List.take_of_length_le (by omega), hjn] at oc'
          obtain ⟨pv, cv', rfl⟩ := oc'.form
          simp only [pur_eql, he, decide_true, condS_true]
          rw [bs_29 one_slice]
          have hy5 := hrc1.keep0 k3
          have s3 := k3.size
          refine pu_29 hy5.o (fun y hy => by rw [List.mem_singleton.1 hy]; rfl) (by omega) (by omega) fun v' u6 o6 k6 _ => ?_
          have hch : choicesF (l.take (i + 1)) = choicesF (l.take i) ++ [rangeF (a, b)] := by unfold choicesF; rw [hct]; simp
          have hne : ∀ {n : Nat} {z : Value} {xs : List Value} {B' : Nat}, Sh.Own u3 B' 64 1 z n xs → Sh.Own u6 B' 64 1 z n xs := fun {n z xs B'} oz => oz.keep k6 fun q hq e => by
            obtain ⟨_, cs1, h1⟩ := oz.ty hq
            obtain ⟨_, cs2, h2⟩ := hy5.o.ty e
            rw [h1] at h2
            injection h2 with h2
            injection h2 with _ h2
            exact absurd h2 (by decide)
          refine hJ1 _ _ _ ⟨_, vs ++ [.slice pv (rangeF (a, b)).length cv'], rfl, hw, ((ku.trans k1).trans k3).trans' k6 fun q hq e => by have := (hy5.o.lt e).1; omega, ⟨by rw [List.length_append]; exact o6, by rw [hch]; simp [hy5.n], fun j h1 h2 => ?_, fun j j' h1 h2 q hjj hq => ?_⟩⟩
          · simp only [hch]
            rcases Nat.lt_or_ge j vs.length with hjv | hjv
            · rw [List.getElem_append_left hjv, List.getElem_append_left (by rw [← hy5.n]; exact hjv)]
              exact hne (hy5.each j hjv (by rw [← hy5.n]; exact hjv))
            · have hje : j = vs.length := by simp at h1; omega
              subst hje
              rw [List.getElem_append_right (Nat.le_refl _), List.getElem_append_right (by rw [hy5.n]; exact Nat.le_refl _)]
              simp only [Nat.sub_self, hy5.n, List.getElem_cons_zero]
              exact (hne oc').le (by omega)
          · rcases Nat.lt_or_ge j' vs.length with hjv | hjv
            · rw [List.getElem_append_left (by omega)] at hq
              rw [List.getElem_append_left hjv]
              exact hy5.dis j j' (by omega) hjv q hjj hq
            · have hje : j' = vs.length := by simp at h2; omega
              subst hje
              rw [List.getElem_append_left (by omega)] at hq
              rw [List.getElem_append_right (Nat.le_refl _)]
              simp only [Nat.sub_self, List.getElem_cons_zero]
              intro e
              have h7 := (hrc1.each j (by omega) (by rw [← hy5.n]; omega)).lt hq
              have h8 := (oc'.lt e).1
              omega
        · have hwa : IntKind.u64.wrap (a + (j : Int) + 1) = a + ((j + 1 : Nat) : Int) := by rw [wrap_u (by omega) (by omega)]; omega
          simp only [pur_eql, he, decide_false, condS_false, pur_add, hwa]
          exact hJ5 ((b - a).toNat - (j + 1)) _ _ _ (by omega) ⟨j + 1, by omega, rfl, rfl, k3, oc'⟩
    · simp only [pur_neq, e3, ne_eq, not_false_eq_true, decide_true, condS_true]
      rw [if_neg e3, List.append_nil] at hct
      refine hJ1 _ _ _ ⟨n, vs, rfl, by rw [hct]; exact hn, ku, ?_⟩
      unfold choicesF at hrc ⊢
      rw [hct]; exact hrc
  · intro _j
    subst hy
    have hi' : ¬ ((l.length : Int) < (l.length : Int)) := by omega
    rw [List.take_length] at hn hrc
    have hwn : waysF (cutsR [] l) ≠ none := by rw [hn]; exact fun h => by cases h
    simp only [pur_lss, hi', decide_false, condS_false]
    refine lpc1 l.length (by omega) (fun i u' => u' = u ∧ kindsF (l.take i) = true) ⟨rfl, rfl⟩ (fun i u' hi ⟨hu, hk⟩ J hJ => ?_) (fun u' ⟨hu, hk⟩ J => ?_)
    · intro _j
      subst hu
      have hi' : ((i : Int) < (l.length : Int)) := by omega
      obtain ⟨g, o, c, ee, _, hc⟩ := (hr.keep0 ku).at (by omega)
      injection ee with e1 _ e2
      subst e1 e2
      obtain ⟨p0, p1, p2, p3, p4, p5⟩ := ev_at hc (List.getElem?_eq_getElem hi)
      have ht : l.take (i + 1) = l.take i ++ [l[i]] := by rw [List.take_add_one, List.getElem?_eq_getElem hi]; rfl
      have hk1 : kindsF (l.take (i + 1)) = (decide (1 ≤ l[i].kind) && decide (l[i].kind ≤ 4)) := by
        rw [ht]; unfold kindsF at hk ⊢; rw [List.all_append, hk]; simp
      have kall : kindsF (l.take (i + 1)) = false → kindsF l = false := fun h => by
        have e : kindsF l = kindsF (l.take (i + 1) ++ l.drop (i + 1)) := by rw [List.take_append_drop]
        rw [e]; unfold kindsF at h ⊢; rw [List.all_append, h]; rfl
      simp only [pur_lss, hi', decide_true, condS_true, ix_44 hi, fa_71_0, rd_eq (rl_3 p0)]
      by_cases c1 : l[i].kind < 1
      · simp only [c1, decide_true, gd_tf, gd_undef, pur_pick_t, condS_true]
        refine badkind hwn (kall ?_) _ ku
        rw [hk1]; simp; omega
      by_cases c2 : (4 : Int) < l[i].kind
      · simp only [c1, decide_false, gd_hit, ix_44 hi, fa_71_0, rd_eq (rl_3 p0), pur_gtr, c2, decide_true, pur_pick_f, condS_true]
        refine badkind hwn (kall ?_) _ ku
        rw [hk1]; simp; omega
      · simp only [c1, decide_false, gd_hit, ix_44 hi, fa_71_0, rd_eq (rl_3 p0), pur_gtr, c2, pur_pick_f, condS_false, pur_add]
        exact hJ _ ⟨rfl, by rw [hk1]; simp; omega⟩
    · intro _j
      subst hu
      simp only [pur_lss, hi', decide_false, condS_false]
      rw [List.take_length] at hk
      exact hq0 _ x vs (good hwn hk) ku hrc
end
end Go.Proofs.YtmmnifbponhhfaaGreatT
