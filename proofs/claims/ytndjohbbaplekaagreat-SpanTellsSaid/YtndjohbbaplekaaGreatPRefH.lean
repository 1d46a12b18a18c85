/- The document's own maps of blocks: set. Conditions: as each says. -/
import Derived.Test.YtndjohbbaplekaaGreatPRefG
set_option linter.unusedSimpArgs false
set_option linter.unusedVariables false
namespace Go.Proofs.YtndjohbbaplekaaGreatP
open Go.Sh
set_option maxRecDepth 100000
section
variable {w : World} {Q : Value → World → Prop} {B : Nat} {l : List (Pt Int)} {v : Value}
/-- One list behind another one. -/
theorem app_c {x : Value} {L r : List (Pt Int)} {p : Option Addr} {m c : Nat} {K : Value → World → Prop} (ho : RM w B x L) (hB : B ≤ siz w) (hr : Rd 3 w (.slice p m c) m (flat encI r)) (hm : m = r.length) (hb : L.length + r.length ≤ 1000000)
    (hk : ∀ v' w', RM w' B v' (L ++ r) → Keep (fun b => x.ownBlock = some b) w w' → (∀ g, v'.ownBlock = some g → x.ownBlock = some g ∨ siz w ≤ g) → K v' w') :
    act Tryz.prog (Builtin.append_ #[92, 92] 92 #[x, .slice p m c]) K w := by
  subst hm
  rcases Nat.eq_zero_or_pos r.length with h0 | hp
  · have hl0 := List.length_eq_zero_iff.1 h0
    rw [h0, ap0_92 ho]
    refine hk _ _ ?_ (Keep.refl _ _) fun g hg => .inl hg
    rw [hl0, List.append_nil]; exact ho
  · obtain ⟨b', o', c', e, _, hc'⟩ := hr.at hp
    injection e with e1 _ e2
    subst e1 e2
    refine ap_92 ho hr.len hc' (fun u hu => encI_one hu) (by omega) hB fun v' w' ho' hg hr' => hk _ _ ?_ ((Keep.refl _ w).grown hg fun g hg' => .inl hg') hr'
    unfold RM
    rw [flat_append, List.length_append]; exact ho'
theorem own_lastI {e : TypeId} {base : Nat} {v : Value} {o : List (Pt Int)} {t : Pt Int} (h : Own w base e 3 v (o ++ [t]).length (flat encI (o ++ [t]))) :
    ∃ g cap, v = .slice (some ⟨g, 0, none⟩) (o ++ [t]).length cap ∧ base ≤ g ∧ g < siz w ∧ fre w g = true ∧ cel w g (o.length * 3) = some (.int .i64 t.1.1) ∧ cel w g (o.length * 3 + 1) = some (.int .i64 t.1.2) ∧ cel w g (o.length * 3 + 2) = some (.int .i64 t.2) := by
  obtain ⟨g, cap, rfl, h1, h2, _, _, h3, h4⟩ := h.at (by simp)
  obtain ⟨c0, c1, c2⟩ := parts_at (ev := fun v : Int => Value.int .i64 v) (b := g) (o := 0) (l := o ++ [t]) (fun j hj => by rw [Nat.zero_add]; exact h4 j hj) (i := o.length) (p := t) (by simp)
  rw [Nat.zero_add] at c0 c1 c2
  exact ⟨g, cap, rfl, h1, h2, h3, c0, c1, c2⟩
theorem rset_c {a b u : Int} (ho : RM w B v l) (hB : B ≤ siz w) (hc : Canon l) (hl : l.length ≤ 100000)
    (hq : ∀ w' v' l', RM w' B v' l' → Canon l' → (∀ x, valB l' x = if hasB (a, b) x then some u else valB l x) → Keep (fun _ => False) w w' → Q v' w') :
    callS Tryz.prog 48 #[v, .agg #[.int .i64 a, .int .i64 b], .int .i64 u] Q w := by
  refine ref48 ?_
  unfold S48
  simp only [act_box, agg_cells]
  have x0 : cel (w.alloc (.cells #[.int .i64 a, .int .i64 b] 72)) (siz w) 0 = some (.int .i64 a) := cel_alloc_new
  have x1 : cel (w.alloc (.cells #[.int .i64 a, .int .i64 b] 72)) (siz w) 1 = some (.int .i64 b) := cel_alloc_new
  have k1 := (Keep.refl (fun _ => False) w).alloc (.cells #[.int .i64 a, .int .i64 b] 72)
  have s1 : siz (w.alloc (.cells #[.int .i64 a, .int .i64 b] 72)) = siz w + 1 := siz_alloc
  generalize w.alloc (.cells #[.int .i64 a, .int .i64 b] 72) = w1 at x0 x1 k1 s1
  simp only [stp, Nat.reduceAdd, Int.reduceLT, Int.reduceLE, Int.reduceEq, Int.reduceNe, ne_eq, bne_self_eq_false, beq_self_eq_true, stm, x0, x1]
  refine rvalid_c fun w2 g2 => ?_
  have k2 := k1.trans g2.1
  have y0 := g2.1.cel x0 id
  have y1 := g2.1.cel x1 id
  have s2 := g2.1.size
  by_cases h0 : ok (a, b)
  · simp only [stp, Nat.reduceAdd, Int.reduceLT, Int.reduceLE, Int.reduceEq, Int.reduceNe, ne_eq, bne_self_eq_false, beq_self_eq_true, stm, h0, y0, y1]
    refine rclear_c (ho.keep0 k2) (by omega) hc hl fun w3 v3 C o3 hc3 hv3 hl3 k3 => ?_
    have k03 := k2.trans k3
    have z0 := k3.cel y0 id
    have z1 := k3.cel y1 id
    have s3 := k3.size
    have hno : ∀ x, hasB (a, b) x → valB C x = none := fun x hx => by rw [hv3, if_pos hx]
    have hform := o3.form
    refine lp1 (fun mm y w' => Keep (fun _ => False) w3 w' ∧ ∃ k : Nat, y = .int .i64 (k : Int) ∧ k ≤ C.length ∧ mm = C.length - k ∧ ∀ p ∈ C.take k, p.1.1 < a) C.length
      ⟨Keep.refl _ _, 0, rfl, Nat.zero_le _, by omega, by simp⟩ ?_
    rintro mm y w4 ⟨k4, k, rfl, hk, rfl, hbef⟩ J hJ _
    have hwk := wrap_succ (i := k) (by omega)
    have d0 := k4.cel z0 id
    have d1 := k4.cel z1 id
    have s4 := k4.size
    have o4 := o3.keep0 k4
    have o4d : RM w4.drew B v3 C := o4.keep0 (Keep.refl _ w4).drew
    have o4dd : RM w4.drew.drew B v3 C := o4.keep0 (Keep.refl _ w4).drew.drew
    -- what follows when the place is found
    have rest : (∀ (h : k < C.length), a ≤ C[k].1.1) → ∀ {pv cv}, v3 = .slice pv C.length cv → ∀ {K : Value → World → Prop},
        (∀ v' w', RM w' (siz w4) v' (C.take k ++ [((a, b), u)] ++ C.drop k) → Keep (fun _ => False) w4 w' → K v' w') →
        pur Tryz.prog (Instr.sliceAt 92 (.slice pv C.length cv) none (some (.int .i64 (k : Int))) none) (fun t38 => 
        pur Tryz.prog (Instr.sliceAt 92 (.slice pv C.length cv) (some (.int .i64 (k : Int))) none none) fun t47 => 
        (act Tryz.prog (Builtin.append_ #[92, 92] 92 #[(.slice none 0 0), t38]) (fun t39 w_23 => 
        rd Tryz.prog (Instr.loadAt 72 (.pointer (some ⟨siz w, 0, none⟩))) (fun t40 => 
        pur Tryz.prog (Instr.build 101 #[(0, t40), (1, .int .i64 u)]) fun t42 => 
        act Tryz.prog (Instr.buildSlice 92 1 #[(0, t42)]) (fun t43 w_24 => 
        act Tryz.prog (Builtin.append_ #[92, 92] 92 #[t39, t43]) (fun t44 w_25 => 
        act Tryz.prog (Builtin.append_ #[92, 92] 92 #[t44, t47]) (fun t48 w_26 => 
        K t48 w_26) w_25) w_24) w_23) w_23) w4.drew.drew) ∧ (rd Tryz.prog (Instr.loadAt 72 (.pointer (some ⟨siz w, 0, none⟩))) (fun t40_1 => 
        pur Tryz.prog (Instr.build 101 #[(0, t40_1), (1, .int .i64 u)]) fun t42_1 => 
        (act Tryz.prog (Builtin.append_ #[92, 92] 92 #[(.slice none 0 0), t38]) (fun t39_1 w_27 => 
        act Tryz.prog (Instr.buildSlice 92 1 #[(0, t42_1)]) (fun t43_1 w_28 => 
        act Tryz.prog (Builtin.append_ #[92, 92] 92 #[t39_1, t43_1]) (fun t44_1 w_29 => 
        act Tryz.prog (Builtin.append_ #[92, 92] 92 #[t44_1, t47]) (fun t48_1 w_30 => 
        K t48_1 w_30) w_29) w_28) w_27) w4.drew.drew) ∧ (act Tryz.prog (Instr.buildSlice 92 1 #[(0, t42_1)]) (fun t43_2 w_31 => 
        act Tryz.prog (Builtin.append_ #[92, 92] 92 #[(.slice none 0 0), t38]) (fun t39_2 w_32 => 
        act Tryz.prog (Builtin.append_ #[92, 92] 92 #[t39_2, t43_2]) (fun t44_2 w_33 => 
        act Tryz.prog (Builtin.append_ #[92, 92] 92 #[t44_2, t47]) (fun t48_2 w_34 => 
        K t48_2 w_34) w_33) w_32) w_31) w4.drew.drew)) w4.drew.drew)) := fun haft {pv cv} hv {K} hK => by
      have cuts : ∃ p1 c1 p2 m2 c2, (∀ {k' : Value → Prop}, pur Tryz.prog (Instr.sliceAt 92 (.slice pv C.length cv) none (some (.int .i64 (k : Int))) none) k' = k' (.slice p1 k c1)) ∧
          (∀ {k' : Value → Prop}, pur Tryz.prog (Instr.sliceAt 92 (.slice pv C.length cv) (some (.int .i64 (k : Int))) none none) k' = k' (.slice p2 m2 c2)) ∧ m2 = (C.drop k).length ∧
          Rd 3 w4.drew.drew (.slice p1 k c1) k (flat encI (C.take k)) ∧ Rd 3 w4.drew.drew (.slice p2 m2 c2) m2 (flat encI (C.drop k)) := by
        subst hv
        rcases Nat.eq_zero_or_pos C.length with h0 | hp
        · have hC0 := List.length_eq_zero_iff.1 h0
          have hk0 : k = 0 := by omega
          rcases o4dd.2 with ⟨e, _⟩ | ⟨g, cap, cur, e, _, _, hcap, _⟩
          · rw [e] at *
            subst hk0
            refine ⟨none, 0, none, 0, 0, fun {k'} => slt0_92, fun {k'} => slf0_92, by rw [hC0]; rfl, ?_, ?_⟩
            · rw [hC0]; exact Rd.nil _ _
            · rw [hC0]; exact Rd.nil _ _
          · injection e with e1 _ e2
            subst e1 e2 hk0
            refine ⟨_, _, _, _, _, fun {k'} => slt_92 (by omega), fun {k'} => slf_92 (by omega) (by omega), by rw [hC0]; rfl, ?_, ?_⟩
            · rw [hC0]; exact ⟨rfl, .inl ⟨rfl, _, _, rfl⟩⟩
            · rw [hC0]; exact ⟨rfl, .inl ⟨rfl, _, _, rfl⟩⟩
        · obtain ⟨g, cg, e, _, _, hcn, _, _, hcel⟩ := o4dd.at hp
          injection e with e1 _ e2
          subst e1 e2
          refine ⟨_, _, _, _, _, fun {k'} => slt_92 (by omega), fun {k'} => slf_92 hk hcn, by rw [List.length_drop], ?_, ?_⟩
          · rw [← flat_take (encP_len _)]
            refine ⟨by rw [List.length_take, flat_len (encP_len _)]; omega, ?_⟩
            refine .inr ⟨g, 0, cv, rfl, by omega, fun j hj => ?_⟩
            rw [Nat.zero_add, hcel _ (by omega), List.getElem?_take, if_pos hj]
          · rw [← flat_drop (encP_len _)]
            have hcel0 : ∀ j, j < C.length * 3 → cel w4.drew.drew g (0 + j) = (flat encI C)[j]? := fun j hj => by rw [Nat.zero_add]; exact hcel j hj
            split
            · refine Rd.from (flat_len (encP_len _) _) hcel0 hk hcn fun h => by omega
            · refine Rd.from (flat_len (encP_len _) _) hcel0 hk hcn fun h => rfl
      obtain ⟨p1, c1, p2, m2, c2, e1, e2, hm2, r1, r2⟩ := cuts
      rw [e1, e2]
      have nil4 : RM w4.drew.drew (siz w4) (.slice none 0 0) [] := Own.nil _ _ _ _
      have ltk : (C.take k).length = k := by rw [List.length_take]; omega
      have hlC : C.length ≤ 200000 := by omega
      have bld : ∀ {w6 : World} {x : Value} {K' : Value → World → Prop}, Keep (fun _ => False) w4.drew.drew w6 → RM w6 (siz w4) x (C.take k) → (∀ v' w', RM w' (siz w4) v' (C.take k ++ [((a, b), u)]) → Keep (fun _ => False) w4.drew.drew w' → K' v' w') →
          ∀ {g : Nat}, Rd 3 w6 (.slice (some ⟨g, 0, none⟩) 1 1) 1 (flat encI [((a, b), u)]) →
          act Tryz.prog (Builtin.append_ #[92, 92] 92 #[x, .slice (some ⟨g, 0, none⟩) 1 1]) K' w6 := fun {w6 x K'} k6 hx hK' {g} hg => by
        have s6 := k6.size
        have sd : siz w4.drew.drew = siz w4 := rfl
        refine app_c hx (by omega) hg rfl (by rw [ltk]; simp; omega) fun v' w' ho' hk' hr' => hK' _ _ ho' (k6.trans' hk' fun b hb e => by have := (hx.lt e).1; omega)
      have lst : ∀ {w6 : World} {x : Value}, Keep (fun _ => False) w4.drew.drew w6 → RM w6 (siz w4) x (C.take k ++ [((a, b), u)]) →
          act Tryz.prog (Builtin.append_ #[92, 92] 92 #[x, .slice p2 m2 c2]) (fun t48 w_26 => K t48 w_26) w6 := fun {w6 x} k6 hx => by
        have s6 := k6.size
        have sd : siz w4.drew.drew = siz w4 := rfl
        refine app_c hx (by omega) (r2.keep0 k6) hm2 (by rw [List.length_append, ltk, List.length_drop]; simp; omega) fun v' w' ho' hk' hr' => hK _ _ ho' (((Keep.refl _ w4).drew.drew.trans k6).trans' hk' fun b hb e => by have := (hx.lt e).1; omega)
      have fst : ∀ {w6 : World} {K' : Value → World → Prop}, Keep (fun _ => False) w4.drew.drew w6 → (∀ v' w', RM w' (siz w4) v' (C.take k) → Keep (fun _ => False) w6 w' → K' v' w') →
          act Tryz.prog (Builtin.append_ #[92, 92] 92 #[.slice none 0 0, .slice p1 k c1]) K' w6 := fun {w6 K'} k6 hK' => by
        have s6 := k6.size
        have sd : siz w4.drew.drew = siz w4 := rfl
        refine app_c (B := siz w4) (L := []) (nil4.keep0 k6) (by omega) (r1.keep0 k6) ltk.symm (by rw [ltk]; simp; omega) fun v' w' ho' hk' hr' => hK' _ _ (by simpa using ho') (hk'.mono fun b hb e => by cases e)
      have newr : ∀ {w6 : World}, Rd 3 (w6.alloc (.cells #[.int .i64 a, .int .i64 b, .int .i64 u] 101)) (.slice (some ⟨siz w6, 0, none⟩) 1 1) 1 (flat encI [((a, b), u)]) := fun {w6} =>
        ⟨rfl, .inr ⟨siz w6, 0, 1, rfl, by omega, fun j hj => by rw [Nat.zero_add, cel_alloc_new, List.getElem?_toArray]; rfl⟩⟩
      have d0' : cel w4.drew.drew (siz w) 0 = some (.int .i64 a) := d0
      have d1' : cel w4.drew.drew (siz w) 1 = some (.int .i64 b) := d1
      refine ⟨?_, ?_⟩
      · refine fst (Keep.refl _ _) fun v5 w5 o5 k5 => ?_
        simp only [stp, Nat.reduceAdd, Int.reduceLT, Int.reduceLE, Int.reduceEq, Int.reduceNe, ne_eq, bne_self_eq_false, beq_self_eq_true, stm, k5.cel d0' id, k5.cel d1' id]
        have k6 := k5.alloc (.cells #[.int .i64 a, .int .i64 b, .int .i64 u] 101)
        exact bld k6 (o5.keep0 ((Keep.refl _ w5).alloc _)) (fun v7 w7 o7 k7 => lst k7 o7) newr
      · simp only [stp, Nat.reduceAdd, Int.reduceLT, Int.reduceLE, Int.reduceEq, Int.reduceNe, ne_eq, bne_self_eq_false, beq_self_eq_true, stm, d0', d1']
        refine ⟨?_, ?_⟩
        · refine fst (Keep.refl _ _) fun v5 w5 o5 k5 => ?_
          try simp only [stp, Nat.reduceAdd, Int.reduceLT, Int.reduceLE, Int.reduceEq, Int.reduceNe, ne_eq, bne_self_eq_false, beq_self_eq_true, stm]
          have k6 := k5.alloc (.cells #[.int .i64 a, .int .i64 b, .int .i64 u] 101)
          exact bld k6 (o5.keep0 ((Keep.refl _ w5).alloc _)) (fun v7 w7 o7 k7 => lst k7 o7) newr
        · have k6 := (Keep.refl (fun _ => False) w4.drew.drew).alloc (.cells #[.int .i64 a, .int .i64 b, .int .i64 u] 101)
          refine fst k6 fun v5 w5 o5 k5 => ?_
          exact bld (k6.trans k5) o5 (fun v7 w7 o7 k7 => lst k7 o7) ((newr (w6 := w4.drew.drew)).keep0 k5)
    by_cases hgo : ∃ h : k < C.length, C[k].1.1 < a
    · obtain ⟨hlt, hlta⟩ := hgo
      have hlt' : ((k : Int) < (C.length : Int)) := by omega
      have hsk : C[k]? = some C[k] := List.getElem?_eq_getElem hlt
      obtain ⟨g, cg, e, _, _, _, _, _, hcel⟩ := o4d.at (by omega)
      subst e
      obtain ⟨p0, _, _⟩ := parts_at (ev := fun v : Int => Value.int .i64 v) (b := g) (o := 0) (l := C) (fun j hj => by rw [Nat.zero_add]; exact hcel j hj) hsk
      rw [Nat.zero_add, cel_drew] at p0
      simp only [stp, Nat.reduceAdd, Int.reduceLT, Int.reduceLE, Int.reduceEq, Int.reduceNe, ne_eq, bne_self_eq_false, beq_self_eq_true, hlt']
      rw [ix_92 hlt]
      simp only [stp, Nat.reduceAdd, Int.reduceLT, Int.reduceLE, Int.reduceEq, Int.reduceNe, ne_eq, bne_self_eq_false, beq_self_eq_true, stm, p0, d0, hlta, hwk]
      refine hJ (C.length - (k + 1)) _ _ (by omega) ⟨k4.drew, k + 1, rfl, by omega, rfl, fun p hp => ?_⟩
      rw [List.take_add_one, hsk, Option.toList_some] at hp
      rcases List.mem_append.1 hp with hp | hp
      · exact hbef p hp
      · simp only [List.mem_cons, List.not_mem_nil, or_false] at hp; subst hp; exact hlta
    · have haft : ∀ (h : k < C.length), a ≤ C[k].1.1 := fun h => by
        rcases Int.lt_or_le C[k].1.1 a with h1 | h1
        · exact absurd ⟨h, h1⟩ hgo
        · exact h1
      obtain ⟨hcan, hval⟩ := put_laid (v := u) h0 hc3 hno hk hbef haft
      have hlenL : (C.take k ++ [((a, b), u)] ++ C.drop k).length = C.length + 1 := by simp; omega
      obtain ⟨pv, cv, rfl⟩ := hform
      have rest' := fun (J' : Cur 1) (hJ' : ∀ (x : Value) (w : World), (Keep (fun _ => False) w4 w ∧ RM w (siz w4) x (C.take k ++ [((a, b), u)] ++ C.drop k)) → J' x w) => rest haft rfl (K := fun x w => J' x w) (fun v' w' h1 h2 => hJ' v' w' ⟨h2, h1⟩)
      clear rest
      generalize C.take k ++ [((a, b), u)] ++ C.drop k = Ls at hcan hval hlenL rest'
      by_cases hlt : k < C.length
      case' pos =>
        have hlt' : ((k : Int) < (C.length : Int)) := by omega
        have hsk : C[k]? = some C[k] := List.getElem?_eq_getElem hlt
        obtain ⟨g, cg, e, _, _, _, _, _, hcel⟩ := o4d.at (by omega)
        injection e with e1 _ e2
        subst e1 e2
        obtain ⟨p0, _, _⟩ := parts_at (ev := fun v : Int => Value.int .i64 v) (b := g) (o := 0) (l := C) (fun j hj => by rw [Nat.zero_add]; exact hcel j hj) hsk
        rw [Nat.zero_add, cel_drew] at p0
        have hna : ¬ C[k].1.1 < a := by have := haft hlt; omega
        simp only [stp, Nat.reduceAdd, Int.reduceLT, Int.reduceLE, Int.reduceEq, Int.reduceNe, ne_eq, bne_self_eq_false, beq_self_eq_true, hlt']
        rw [ix_92 hlt]
        simp only [stp, Nat.reduceAdd, Int.reduceLT, Int.reduceLE, Int.reduceEq, Int.reduceNe, ne_eq, bne_self_eq_false, beq_self_eq_true, stm, p0, d0, hna] at rest' ⊢
      case' neg =>
        have hlt' : ¬ ((k : Int) < (C.length : Int)) := by omega
        simp only [stp, Nat.reduceAdd, Int.reduceLT, Int.reduceLE, Int.reduceEq, Int.reduceNe, ne_eq, bne_self_eq_false, beq_self_eq_true, stm, hlt'] at rest' ⊢
      all_goals
        refine jn1 (fun x w' => Keep (fun _ => False) w4 w' ∧ RM w' (siz w4) x Ls) rest' ?_
        rintro x w5 ⟨k5, o5⟩ _
        have s5 := k5.size
        obtain ⟨pl, cl, rfl⟩ := o5.form
        refine lp2 (fun mm x y w' => Keep (fun _ => False) w5 w' ∧ ∃ (i : Nat) (O : List (Pt Int)), y = .int .i64 (i : Int) ∧ i ≤ Ls.length ∧ mm = Ls.length - i ∧ O = (Ls.take i).foldl mstepP [] ∧ RM w' (siz w5) x O) Ls.length
          ⟨Keep.refl _ _, 0, [], rfl, Nat.zero_le _, by omega, rfl, Own.nil _ _ _ _⟩ ?_
        rintro mm x y w6 ⟨k6, i, O, rfl, hi, rfl, hO, o6⟩ J' hJ' _
        have s6 := k6.size
        have hwi := wrap_succ (i := i) (by omega)
        have hOl : O.length ≤ i := by
          have := foldlP_len (Ls.take i) []
          rw [← hO, List.length_take] at this
          simp only [List.length_nil] at this
          omega
        by_cases hli : i < Ls.length
        · have hli' : ((i : Int) < (Ls.length : Int)) := by omega
          have hs : Ls[i]? = some Ls[i] := List.getElem?_eq_getElem hli
          have hO1 : (Ls.take (i + 1)).foldl mstepP [] = mstepP O Ls[i] := by
            rw [List.take_add_one, hs, List.foldl_append, ← hO]; rfl
          obtain ⟨gv, cgv, e, _, _, _, _, _, hcelv⟩ := (o5.keep0 k6.drew).at (by omega)
          injection e with e1 _ e2
          subst e1 e2
          obtain ⟨c0, c1, c2⟩ := parts_at (ev := fun v : Int => Value.int .i64 v) (b := gv) (o := 0) (l := Ls) (fun j hj => by rw [Nat.zero_add]; exact hcelv j hj) hs
          rw [Nat.zero_add, cel_drew] at c0 c1 c2
          simp only [stp, Nat.reduceAdd, Int.reduceLT, Int.reduceLE, Int.reduceEq, Int.reduceNe, ne_eq, bne_self_eq_false, beq_self_eq_true, hli']
          refine jn1 (fun x' w' => Keep (fun _ => False) w5 w' ∧ RM w' (siz w5) x' (mstepP O Ls[i])) (fun J3 hJ3 => ?_) ?_
          · obtain ⟨ax, cx, ex⟩ := o6.form
            have kd := (Keep.refl (fun _ => False) w6).drew
            have o6d : RM w6.drew (siz w5) x O := o6.keep0 kd
            have push : O ++ [Ls[i]] = mstepP O Ls[i] → act Tryz.prog (Builtin.append_ #[92, 92] 92 #[x, .slice (some ⟨siz w6.drew, 0, none⟩) 1 1]) (fun t107 w_91 => J3 t107 w_91) (w6.drew.alloc (.cells #[.int .i64 Ls[i].1.1, .int .i64 Ls[i].1.2, .int .i64 Ls[i].2] 101)) := fun hmm => by
              have sd : siz w6.drew = siz w6 := rfl
              refine pu_92 o6d (by intro u hu; simp only [List.mem_cons, List.not_mem_nil, or_false] at hu; rcases hu with rfl | rfl | rfl <;> exact one_int) (by omega) (by omega) fun v' w' ho hk hr => hJ3 _ _ ⟨k6.drew.trans' hk fun b hb e => by have := (o6.lt e).1; omega, ?_⟩
              unfold RM
              rw [← hmm, flat_append, flat_one, List.length_append]; exact ho
            rcases lastP_cases O with hnil | ⟨o', t, hcons⟩
            · have hO0 : O.length = 0 := by rw [hnil]; rfl
              have h1 : ¬ (0 : Int) < ((0 : Nat) : Int) := by omega
              rw [ex] at push ⊢
              simp only [stp, Nat.reduceAdd, Int.reduceLT, Int.reduceLE, Int.reduceEq, Int.reduceNe, ne_eq, bne_self_eq_false, beq_self_eq_true, stm, hO0, h1]
              rw [ix_92 hli]
              simp only [stp, Nat.reduceAdd, Int.reduceLT, Int.reduceLE, Int.reduceEq, Int.reduceNe, ne_eq, bne_self_eq_false, beq_self_eq_true, stm, c0, c1, c2]
              rw [hO0] at push
              exact push (by rw [hnil]; rfl)
            · have hO0 : O.length = o'.length + 1 := by rw [hcons]; simp
              have h1 : (0 : Int) < (O.length : Int) := by omega
              have hwp := wrap_pred (i := O.length) (by omega) (by omega)
              have h3 : O.length - 1 = o'.length := by omega
              have o6' := o6
              unfold RM at o6'
              rw [hcons] at o6'
              obtain ⟨g, cap, eg, hg1, hg2, hg3, t0, t1, t2⟩ := own_lastI o6'
              rw [← hcons] at eg
              have hlt2 : O.length - 1 < O.length := by omega
              have t1' : cel w6 g ((O.length - 1) * 3 + 1) = some (.int .i64 t.1.2) := by rw [h3]; exact t1
              have t2' : cel w6 g ((O.length - 1) * 3 + 2) = some (.int .i64 t.2) := by rw [h3]; exact t2
              rw [eg] at push ⊢
              simp only [stp, Nat.reduceAdd, Int.reduceLT, Int.reduceLE, Int.reduceEq, Int.reduceNe, ne_eq, bne_self_eq_false, beq_self_eq_true, stm, h1, hwp]
              rw [ix_92 hlt2]
              simp only [stp, Nat.reduceAdd, Int.reduceLT, Int.reduceLE, Int.reduceEq, Int.reduceNe, ne_eq, bne_self_eq_false, beq_self_eq_true, stm, t1']
              rw [ix_92 hli]
              by_cases hin1 : t.1.2 = Ls[i].1.1
              · simp only [stp, Nat.reduceAdd, Int.reduceLT, Int.reduceLE, Int.reduceEq, Int.reduceNe, ne_eq, bne_self_eq_false, beq_self_eq_true, stm, c0, hin1, hwp]
                rw [ix_92 hlt2]
                simp only [stp, Nat.reduceAdd, Int.reduceLT, Int.reduceLE, Int.reduceEq, Int.reduceNe, ne_eq, bne_self_eq_false, beq_self_eq_true, stm, t2']
                rw [ix_92 hli]
                by_cases hin2 : t.2 = Ls[i].2
                · have hin : t.1.2 = Ls[i].1.1 ∧ t.2 = Ls[i].2 := ⟨hin1, hin2⟩
                  have ti : (cel w6 g ((O.length - 1) * 3 + 1)).isSome = true := by rw [t1']; rfl
                  simp only [stp, Nat.reduceAdd, Int.reduceLT, Int.reduceLE, Int.reduceEq, Int.reduceNe, ne_eq, bne_self_eq_false, beq_self_eq_true, stm, c2, hin2, hwp]
                  rw [ix_92 hli]
                  simp only [stp, Nat.reduceAdd, Int.reduceLT, Int.reduceLE, Int.reduceEq, Int.reduceNe, ne_eq, bne_self_eq_false, beq_self_eq_true, stm, c1]
                  rw [ix_92 hlt2]
                  simp only [stp, Nat.reduceAdd, Int.reduceLT, Int.reduceLE, Int.reduceEq, Int.reduceNe, ne_eq, bne_self_eq_false, beq_self_eq_true, stm, ti, hg3]
                  refine hJ3 _ _ ⟨k6.drew.sto (.inr (by omega)) _ _, ?_⟩
                  rw [eg] at o6d
                  have o7 := o6d.setZ (j := (O.length - 1) * 3 + 1) (x := .int .i64 Ls[i].1.2) (by omega)
                  rw [flat_set (enc := encI) (encP_len _) (s := t) (s' := ((t.1.1, Ls[i].1.2), t.2)) (by rw [h3, hcons]; simp) (by omega) rfl] at o7
                  have e8 : O.set (O.length - 1) ((t.1.1, Ls[i].1.2), t.2) = mstepP O Ls[i] := by
                    rw [h3]
                    conv => rhs; rw [hcons, mstepP_in hin]
                    rw [hcons]; simp
                  rw [e8] at o7
                  have e9 : (mstepP O Ls[i]).length = O.length := by rw [← e8, List.length_set]
                  unfold RM
                  rw [e9]; exact o7
                · simp only [stp, Nat.reduceAdd, Int.reduceLT, Int.reduceLE, Int.reduceEq, Int.reduceNe, ne_eq, bne_self_eq_false, beq_self_eq_true, stm, c2, hin2]
                  rw [ix_92 hli]
                  simp only [stp, Nat.reduceAdd, Int.reduceLT, Int.reduceLE, Int.reduceEq, Int.reduceNe, ne_eq, bne_self_eq_false, beq_self_eq_true, stm, c0, c1, c2]
                  exact push (by rw [hcons, mstepP_out fun h => hin2 h.2]; simp)
              · simp only [stp, Nat.reduceAdd, Int.reduceLT, Int.reduceLE, Int.reduceEq, Int.reduceNe, ne_eq, bne_self_eq_false, beq_self_eq_true, stm, c0, hin1]
                rw [ix_92 hli]
                simp only [stp, Nat.reduceAdd, Int.reduceLT, Int.reduceLE, Int.reduceEq, Int.reduceNe, ne_eq, bne_self_eq_false, beq_self_eq_true, stm, c0, c1, c2]
                exact push (by rw [hcons, mstepP_out fun h => hin1 h.1]; simp)
          · rintro x' w7 ⟨k7, o7⟩ _
            simp only [stp, Nat.reduceAdd, Int.reduceLT, Int.reduceLE, Int.reduceEq, Int.reduceNe, ne_eq, bne_self_eq_false, beq_self_eq_true, hwi]
            exact hJ' (Ls.length - (i + 1)) _ _ _ (by omega) ⟨k7, i + 1, _, rfl, by omega, rfl, hO1.symm, o7⟩
        · have hli' : ¬ ((i : Int) < (Ls.length : Int)) := by omega
          have hil : i = Ls.length := by omega
          rw [hil, List.take_length] at hO
          simp only [stp, Nat.reduceAdd, Int.reduceLT, Int.reduceLE, Int.reduceEq, Int.reduceNe, ne_eq, bne_self_eq_false, beq_self_eq_true, hli']
          subst hO
          refine hq _ _ _ (o6.le (by omega)) hcan (fun x => ?_) (((k03.trans k4).trans k5).trans k6)
          rw [hval, hv3]
          by_cases hx : hasB (a, b) x
          · rw [if_pos hx, if_pos hx]
          · rw [if_neg hx, if_neg hx, if_neg hx]
  · simp only [stp, Nat.reduceAdd, Int.reduceLT, Int.reduceLE, Int.reduceEq, Int.reduceNe, ne_eq, bne_self_eq_false, beq_self_eq_true, stm, h0]
    exact hq _ _ l (ho.keep0 k2) hc (fun x => by rw [if_neg fun h => h0 h.1]) k2
theorem rpart_at {i : Nat} {pa : Option Addr} {ca : Nat} (ho : RM w B (.slice pa l.length ca) l) (hi : i < l.length) : ∃ g, pa = some ⟨g, 0, none⟩ ∧
    Sh.cel w g (i * 3) = some (.int .i64 l[i].1.1) ∧ Sh.cel w g (i * 3 + 1) = some (.int .i64 l[i].1.2) ∧ Sh.cel w g (i * 3 + 2) = some (.int .i64 l[i].2) := by
  obtain ⟨g, cg, e, _, _, _, _, _, hcel⟩ := Own.at ho (by omega)
  injection e with e1 _ e2
  subst e1 e2
  obtain ⟨p0, p1, p2⟩ := parts_at (ev := fun v : Int => Value.int .i64 v) (b := g) (o := 0) (l := l) (fun j hj => by rw [Nat.zero_add]; exact hcel j hj) (List.getElem?_eq_getElem hi)
  rw [Nat.zero_add] at p0 p1 p2
  exact ⟨g, rfl, p0, p1, p2⟩
end
end Go.Proofs.YtndjohbbaplekaaGreatP
