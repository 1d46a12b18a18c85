/- The document's own maps of blocks: parts, norm; a map and the document's. Conditions: as each says. -/
import Derived.Test.YtndjohbbaplekaaGreatIRefH
set_option linter.unusedSimpArgs false
set_option linter.unusedVariables false
namespace Go.Proofs.YtndjohbbaplekaaGreatI
open Go.Sh
set_option maxRecDepth 100000
section
variable {w : World} {Q : Value → World → Prop} {B : Nat} {l : List (Pt Int)} {v : Value}
theorem rparts_c {a b : Int} (ho : RM w B v l) (hl : l.length ≤ 100000)
    (hq : ∀ w' v', RM w' (siz w) v' (partsL (a, b) l) → Keep (fun _ => False) w w' → Q v' w') :
    callS Tryz.prog 51 #[v, .agg #[.int .i64 a, .int .i64 b]] Q w := by
  refine ref51 ?_
  unfold S51
  simp only [act_box, agg_cells]
  have x0 : cel (w.alloc (.cells #[.int .i64 a, .int .i64 b] 72)) (siz w) 0 = some (.int .i64 a) := cel_alloc_new
  have x1 : cel (w.alloc (.cells #[.int .i64 a, .int .i64 b] 72)) (siz w) 1 = some (.int .i64 b) := cel_alloc_new
  have k1 := (Keep.refl (fun _ => False) w).alloc (.cells #[.int .i64 a, .int .i64 b] 72)
  have s1 : siz (w.alloc (.cells #[.int .i64 a, .int .i64 b] 72)) = siz w + 1 := siz_alloc
  generalize w.alloc (.cells #[.int .i64 a, .int .i64 b] 72) = w1 at x0 x1 k1 s1
  have o1 := ho.keep0 k1
  obtain ⟨pa, ca, rfl⟩ := o1.form
  refine lp2 (fun mm x y w' => Keep (fun _ => False) w1 w' ∧ ∃ (i : Nat) (L : List (Pt Int)), y = .int .i64 (i : Int) ∧ i ≤ l.length ∧ mm = l.length - i ∧ L = partsL (a, b) (l.take i) ∧ RM w' (siz w1) x L) l.length
    ⟨Keep.refl _ _, 0, [], rfl, Nat.zero_le _, by omega, rfl, Own.nil _ _ _ _⟩ ?_
  rintro mm x y w2 ⟨k2, i, L, rfl, hi, rfl, hL, o2⟩ J hJ _
  have hwi := wrap_succ (i := i) (by omega)
  have hLl : L.length ≤ i := by
    have := partsL_len (a, b) (l.take i)
    rw [← hL, List.length_take] at this
    omega
  have s12 := k2.size
  by_cases hlt : i < l.length
  · have hlt' : ((i : Int) < (l.length : Int)) := by omega
    have hsi : l[i]? = some l[i] := List.getElem?_eq_getElem hlt
    have hL1 : partsL (a, b) (l.take (i + 1)) = L ++ (if meetsB l[i].1 (a, b) then [((max l[i].1.1 a, min l[i].1.2 b), l[i].2)] else []) := by
      rw [List.take_add_one, hsi, Option.toList_some, partsL_snoc, ← hL]
    obtain ⟨g, cg, e, _, _, _, _, _, hcel⟩ := (o1.keep0 k2).at (by omega)
    injection e with e1 _ e2
    subst e1 e2
    obtain ⟨p0, p1, p2⟩ := parts_at (ev := fun v : Int => Value.int .i64 v) (b := g) (o := 0) (l := l) (fun j hj => by rw [Nat.zero_add]; exact hcel j hj) hsi
    rw [Nat.zero_add] at p0 p1 p2
    simp only [stp, Nat.reduceAdd, Int.reduceLT, Int.reduceLE, Int.reduceEq, Int.reduceNe, ne_eq, bne_self_eq_false, beq_self_eq_true, hlt']
    refine jn1 (fun x' w' => Keep (fun _ => False) w1 w' ∧ RM w' (siz w1) x' (partsL (a, b) (l.take (i + 1)))) (fun J' hJ' => ?_) ?_
    · let hv : Value := .tuple (if meetsB l[i].1 (a, b) then #[.agg #[.int .i64 (max l[i].1.1 a), .int .i64 (min l[i].1.2 b)], .bool true] else #[.agg #[.int .i64 0, .int .i64 0], .bool false])
      let XX : Int × Int := if meetsB l[i].1 (a, b) then (max l[i].1.1 a, min l[i].1.2 b) else (0, 0)
      refine jn2 (fun x' y' w' => Keep (fun _ => False) w2 w' ∧ y' = .bool (decide (meetsB l[i].1 (a, b))) ∧ ∃ g', x' = .pointer (some ⟨g', 0, none⟩) ∧ siz w2 ≤ g' ∧ cel w' g' 0 = some (.int .i64 XX.1) ∧ cel w' g' 1 = some (.int .i64 XX.2)) (fun J2 hJ2 => ?_) ?_
      · have d0 := k2.cel x0 id
        have d1 := k2.cel x1 id
        have kd := (Keep.refl (fun _ => False) w2).drew
        have sd : siz w2.drew = siz w2 := rfl
        have hmt : meetsB l[i].1 (a, b) ↔ (ok (l[i].1.1, l[i].1.2) ∧ ok (a, b) ∧ ok (max l[i].1.1 a, min l[i].1.2 b)) := Iff.rfl
        have k3 := (Keep.refl (fun _ => False) w2.drew).alloc (.cells #[.int .i64 0, .int .i64 0] 72)
        have q0 : cel (w2.drew.alloc (.cells #[.int .i64 0, .int .i64 0] 72)) (siz w2) 0 = some (.int .i64 0) := cel_alloc_new (w := w2.drew)
        have q1 : cel (w2.drew.alloc (.cells #[.int .i64 0, .int .i64 0] 72)) (siz w2) 1 = some (.int .i64 0) := cel_alloc_new (w := w2.drew)
        have qf : fre (w2.drew.alloc (.cells #[.int .i64 0, .int .i64 0] 72)) (siz w2) = true := fre_alloc_new (w := w2.drew)
        have a0 : cel (w2.drew.alloc (.cells #[.int .i64 0, .int .i64 0] 72)) g (i * 3) = some (.int .i64 l[i].1.1) := (kd.trans k3).cel p0 id
        have a1 : cel (w2.drew.alloc (.cells #[.int .i64 0, .int .i64 0] 72)) g (i * 3 + 1) = some (.int .i64 l[i].1.2) := (kd.trans k3).cel p1 id
        have b0 : cel (w2.drew.alloc (.cells #[.int .i64 0, .int .i64 0] 72)) (siz w) 0 = some (.int .i64 a) := (kd.trans k3).cel d0 id
        have b1 : cel (w2.drew.alloc (.cells #[.int .i64 0, .int .i64 0] 72)) (siz w) 1 = some (.int .i64 b) := (kd.trans k3).cel d1 id
        simp only [stp, Nat.reduceAdd, Int.reduceLT, Int.reduceLE, Int.reduceEq, Int.reduceNe, ne_eq, bne_self_eq_false, beq_self_eq_true, stm, ix_92 hlt, cel_drew, p0, p1, d0, d1, a0, a1, b0, b1, Nat.zero_add, Option.isSome_some, Option.getD_some]
        repeat' with_reducible refine And.intro ?_ ?_
        all_goals refine rmeet_c fun w4 g4 => ?_
        all_goals by_cases hm : meetsB l[i].1 (a, b)
        all_goals have s4 := g4.1.size
        all_goals first
          | (have k23 := kd.trans g4.1
             rw [if_pos (hmt.1 hm)]
             have hX : XX = (max l[i].1.1 a, min l[i].1.2 b) := if_pos hm
             simp only [stp, Nat.reduceAdd, Int.reduceLT, Int.reduceLE, Int.reduceEq, Int.reduceNe, ne_eq, bne_self_eq_false, beq_self_eq_true, stm]
             refine hJ2 _ _ _ ⟨k23.alloc _, by rw [decide_eq_true hm], _, rfl, by omega, ?_, ?_⟩
             · rw [hX]; exact cel_alloc_new
             · rw [hX]; exact cel_alloc_new)
          | (have k23 := kd.trans g4.1
             rw [if_neg (fun h => hm (hmt.2 h))]
             have hX : XX = (0, 0) := if_neg hm
             simp only [stp, Nat.reduceAdd, Int.reduceLT, Int.reduceLE, Int.reduceEq, Int.reduceNe, ne_eq, bne_self_eq_false, beq_self_eq_true, stm]
             refine hJ2 _ _ _ ⟨k23.alloc _, by rw [decide_eq_false hm], _, rfl, by omega, ?_, ?_⟩
             · rw [hX]; exact cel_alloc_new
             · rw [hX]; exact cel_alloc_new)
          | (have k34 := k3.trans g4.1
             have r0 := g4.1.cel q0 id
             have r1 := g4.1.cel q1 id
             have rf := g4.1.fre qf id
             have i0 : (cel w4 (siz w2) 0).isSome = true := by rw [r0]; rfl
             have i1 : (cel w4 (siz w2) 1).isSome = true := by rw [r1]; rfl
             have fin : ∀ u t : Int, XX = (u, t) → J2 (.pointer (some ⟨siz w2, 0, none⟩)) (.bool (decide (meetsB l[i].1 (a, b)))) (stoL w4 (siz w2) 0 [.int .i64 u, .int .i64 t]) := fun u t hX => by
               have kk : Keep (fun _ => False) w2.drew (stoL w4 (siz w2) 0 [.int .i64 u, .int .i64 t]) := Keep.stoL _ 0 k34 (.inr (Nat.le_refl _))
               refine hJ2 _ _ _ ⟨kd.trans kk, rfl, _, rfl, Nat.le_refl _, ?_, ?_⟩
               · rw [hX]
                 show cel (sto (sto w4 (siz w2) 0 (.int .i64 u)) (siz w2) (0 + 1) (.int .i64 t)) (siz w2) 0 = _
                 rw [cel_sto_ne (by omega), cel_sto_same i0]
               · rw [hX]
                 show cel (sto (sto w4 (siz w2) 0 (.int .i64 u)) (siz w2) (0 + 1) (.int .i64 t)) (siz w2) (0 + 1) = _
                 rw [cel_sto_same (by rw [cel_sto_ne (by omega)]; exact i1)]
             first
               | (rw [if_pos (hmt.1 hm)]
                  have hX : XX = (max l[i].1.1 a, min l[i].1.2 b) := if_pos hm
                  have := fin _ _ hX
                  rw [decide_eq_true hm] at this
                  simp only [stp, Nat.reduceAdd, Int.reduceLT, Int.reduceLE, Int.reduceEq, Int.reduceNe, ne_eq, bne_self_eq_false, beq_self_eq_true, stm, i0, i1, rf]
                  exact this)
               | (rw [if_neg (fun h => hm (hmt.2 h))]
                  have hX : XX = (0, 0) := if_neg hm
                  have := fin _ _ hX
                  rw [decide_eq_false hm] at this
                  simp only [stp, Nat.reduceAdd, Int.reduceLT, Int.reduceLE, Int.reduceEq, Int.reduceNe, ne_eq, bne_self_eq_false, beq_self_eq_true, stm, i0, i1, rf]
                  exact this))
      · rintro x' y' w3 ⟨k3, rfl, g', rfl, hg', r0, r1⟩ _
        have s3 := k3.size
        by_cases hm : meetsB l[i].1 (a, b)
        · have hX : XX = (max l[i].1.1 a, min l[i].1.2 b) := if_pos hm
          rw [hX] at r0 r1
          rw [if_pos hm] at hL1
          have p2' := k3.cel p2 id
          simp only [stp, Nat.reduceAdd, Int.reduceLT, Int.reduceLE, Int.reduceEq, Int.reduceNe, ne_eq, bne_self_eq_false, beq_self_eq_true, stm, hm, r0, r1]
          rw [ix_92 hlt]
          simp only [stp, Nat.reduceAdd, Int.reduceLT, Int.reduceLE, Int.reduceEq, Int.reduceNe, ne_eq, bne_self_eq_false, beq_self_eq_true, stm, p2']
          refine pu_92 ((o2.keep0 k3).keep0 (Keep.refl _ w3).drew) (by intro u hu; simp only [List.mem_cons, List.not_mem_nil, or_false] at hu; rcases hu with rfl | rfl | rfl <;> exact one_int) (by omega) (by have : siz w3.drew = siz w3 := rfl; omega) fun v' w' ho' hk hr => hJ' _ _ ⟨(k2.trans k3).drew.trans' hk fun b hb e => by have := (o2.lt e).1; omega, ?_⟩
          rw [hL1]
          unfold RM
          rw [flat_append, flat_one, List.length_append]; exact ho'
        · rw [if_neg hm, List.append_nil] at hL1
          simp only [stp, Nat.reduceAdd, Int.reduceLT, Int.reduceLE, Int.reduceEq, Int.reduceNe, ne_eq, bne_self_eq_false, beq_self_eq_true, stm, hm]
          refine hJ' _ _ ⟨k2.trans k3, ?_⟩
          rw [hL1]; exact o2.keep0 k3
    · rintro x' w3 ⟨k3, o3⟩ _
      simp only [stp, Nat.reduceAdd, Int.reduceLT, Int.reduceLE, Int.reduceEq, Int.reduceNe, ne_eq, bne_self_eq_false, beq_self_eq_true, hwi]
      exact hJ (l.length - (i + 1)) _ _ _ (by omega) ⟨k3, i + 1, _, rfl, by omega, rfl, rfl, o3⟩
  · have hlt' : ¬ ((i : Int) < (l.length : Int)) := by omega
    have hil : i = l.length := by omega
    rw [hil, List.take_length] at hL
    simp only [stp, Nat.reduceAdd, Int.reduceLT, Int.reduceLE, Int.reduceEq, Int.reduceNe, ne_eq, bne_self_eq_false, beq_self_eq_true, hlt']
    subst hL
    exact hq _ _ (o2.le (by omega)) (k1.trans k2)
end
end Go.Proofs.YtndjohbbaplekaaGreatI
