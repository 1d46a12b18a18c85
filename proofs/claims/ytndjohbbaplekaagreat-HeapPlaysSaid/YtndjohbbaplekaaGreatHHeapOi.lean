/- The heap of values of type int: what its comparison and its exchange do. Conditions: the heap lies in memory as 'Mem' says. -/
import Derived.Test.YtndjohbbaplekaaGreatHT
import Derived.Test.YtndjohbbaplekaaGreatHShL
import Derived.Test.YtndjohbbaplekaaGreatHHeapA
set_option linter.unusedSimpArgs false
set_option linter.unusedVariables false
namespace Go.Proofs.YtndjohbbaplekaaGreatH.Hi
open Go.Sh Go.Sh.Hp
section
variable {F : Nat → Prop} {w : World} {h : Nat} {sl : Value} {mo : Option Nat} {last n : Nat} {f : Nat → It} {Q : Value → World → Prop}

theorem isnan_c {a : Int} (hq : Q (.bool false) w) : callS Tryz.prog 224 #[.int .i64 a] Q w := by
  refine ref224 ?_
  unfold S224
  simp only [stp, Nat.reduceAdd, Int.reduceLT, Int.reduceLE, Int.reduceEq, Int.reduceNe, ne_eq, bne_self_eq_false, beq_self_eq_true]
  exact hq
def cmpI (a b : Int) : Int := if a < b then -1 else if b < a then 1 else 0
theorem compare_c {a b : Int} (hq : Q (.int .i64 (cmpI a b)) w) : callS Tryz.prog 168 #[.int .i64 a, .int .i64 b] Q w := by
  refine ref168 ?_
  unfold S168
  refine isnan_c ?_
  refine isnan_c ?_
  unfold cmpI at hq
  by_cases h1 : a < b
  · simp only [stp, Nat.reduceAdd, Int.reduceLT, Int.reduceLE, Int.reduceEq, Int.reduceNe, ne_eq, bne_self_eq_false, beq_self_eq_true, h1]
    simpa only [h1, if_true] using hq
  · by_cases h2 : b < a
    · simp only [stp, Nat.reduceAdd, Int.reduceLT, Int.reduceLE, Int.reduceEq, Int.reduceNe, ne_eq, bne_self_eq_false, beq_self_eq_true, h1, h2, decide_false]
      simpa only [h1, h2, if_true, if_false] using hq
    · simp only [stp, Nat.reduceAdd, Int.reduceLT, Int.reduceLE, Int.reduceEq, Int.reduceNe, ne_eq, bne_self_eq_false, beq_self_eq_true, h1, h2, decide_false]
      simpa only [h1, h2, if_false] using hq
theorem or_c {g : Nat} {a b : Int} (h0 : cel w g 0 = some (.int .i64 a)) (h1 : cel w g 1 = some (.int .i64 b)) (hq : Q (.int .i64 (if a ≠ 0 then a else b)) w) : callS Tryz.prog 167 #[.slice (some ⟨g, 0, none⟩) 2 2] Q w := by
  refine ref167 ?_
  unfold S167
  simp only [stp, Nat.reduceAdd, Int.reduceLT, Int.reduceLE, Int.reduceEq, Int.reduceNe, ne_eq, bne_self_eq_false, beq_self_eq_true]
  refine lp1 (fun m v w' => w' = w ∧ ∃ i : Nat, v = .int .i64 (i : Int) ∧ m = 2 - i ∧ i ≤ 2 ∧ (1 ≤ i → a = 0) ∧ (2 ≤ i → b = 0)) 2 ⟨rfl, 0, rfl, rfl, by omega, by omega, by omega⟩ ?_
  rintro m v w' ⟨rfl, i, rfl, hm, hi, ha, hb⟩ J hJ _
  by_cases e0 : i = 0
  · subst e0
    have hl : ((0 : Nat) : Int) < ((2 : Nat) : Int) := by omega
    simp only [hl, stp, Nat.reduceAdd, Int.reduceLT, Int.reduceLE, Int.reduceEq, Int.reduceNe, ne_eq, bne_self_eq_false, beq_self_eq_true, show 0 < 2 from by omega, h0, Option.isSome_some, Option.getD_some]
    by_cases ez : a = 0
    · simp only [ez, stp, Nat.reduceAdd, Int.reduceLT, Int.reduceLE, Int.reduceEq, Int.reduceNe, ne_eq, bne_self_eq_false, beq_self_eq_true]
      exact hJ 1 _ _ (by omega) ⟨rfl, 1, by rw [wrap_id (by omega) (by omega)]; rfl, rfl, by omega, fun _ => ez, by omega⟩
    · simp only [ez, stp, Nat.reduceAdd, Int.reduceLT, Int.reduceLE, Int.reduceEq, Int.reduceNe, ne_eq, bne_self_eq_false, beq_self_eq_true]
      simpa only [ne_eq, ez, not_false_eq_true, if_true] using hq
  · have ez := ha (by omega)
    by_cases e1 : i = 1
    · subst e1
      have hl : ((1 : Nat) : Int) < ((2 : Nat) : Int) := by omega
      simp only [hl, stp, Nat.reduceAdd, Int.reduceLT, Int.reduceLE, Int.reduceEq, Int.reduceNe, ne_eq, bne_self_eq_false, beq_self_eq_true, show 1 < 2 from by omega, h1, Option.isSome_some, Option.getD_some]
      by_cases ey : b = 0
      · simp only [ey, stp, Nat.reduceAdd, Int.reduceLT, Int.reduceLE, Int.reduceEq, Int.reduceNe, ne_eq, bne_self_eq_false, beq_self_eq_true]
        exact hJ 0 _ _ (by omega) ⟨rfl, 2, by rw [wrap_id (by omega) (by omega)]; rfl, rfl, by omega, fun _ => ez, fun _ => ey⟩
      · simp only [ey, stp, Nat.reduceAdd, Int.reduceLT, Int.reduceLE, Int.reduceEq, Int.reduceNe, ne_eq, bne_self_eq_false, beq_self_eq_true]
        simpa only [ez, ne_eq, not_true_eq_false, if_false] using hq
    · have : i = 2 := by omega
      subst this
      have ey := hb (by omega)
      have hl : ¬ ((2 : Nat) : Int) < ((2 : Nat) : Int) := by omega
      simp only [hl, stp, Nat.reduceAdd, Int.reduceLT, Int.reduceLE, Int.reduceEq, Int.reduceNe, ne_eq, bne_self_eq_false, beq_self_eq_true]
      simpa only [ez, ey, ne_eq, not_true_eq_false, if_false] using hq

theorem cmp_c {x y : It} {i j : Nat} (hx : Hp.Item w x i) (hy : Hp.Item w y j) (hq : ∀ w' c, Keep (fun _ => False) w w' → (c < 0 ↔ lt x y) → Q (.int .i64 c) w') : callS Tryz.prog 100 #[ptr x, ptr y] Q w := by
  refine ref100 ?_
  unfold S100
  refine ⟨fun w' => cel w' x.b 0 = some (.int .i64 x.t) ∧ cel w' y.b 0 = some (.int .i64 y.t) ∧ cel w' x.b 1 = some (.int .i64 (x.id : Int)) ∧ cel w' y.b 1 = some (.int .i64 (y.id : Int)), ⟨hx.t, hy.t, hx.id, hy.id⟩, ?_⟩
  simp only [ptr, stp, Nat.reduceAdd, Int.reduceLT, Int.reduceLE, Int.reduceEq, Int.reduceNe, ne_eq, bne_self_eq_false, beq_self_eq_true]
  refine hld_of _ (fun w' hw' => rl_3 hw'.1) ?_
  refine hld_of _ (fun w' hw' => rl_3 hw'.2.1) ?_
  refine compare_c ?_
  refine ⟨⟨hx.t, hy.t, hx.id, hy.id⟩, ?_⟩
  refine hld_of _ (fun w' hw' => rl_3 hw'.2.2.1) ?_
  refine hld_of _ (fun w' hw' => rl_3 hw'.2.2.2) ?_
  refine compare_c ?_
  refine ⟨⟨hx.t, hy.t, hx.id, hy.id⟩, ?_⟩
  simp only [stp, Nat.reduceAdd, Int.reduceLT, Int.reduceLE, Int.reduceEq, Int.reduceNe, ne_eq, bne_self_eq_false, beq_self_eq_true]
  have k1 : Keep (fun _ => False) w (w.drew.alloc (.cells #[.int .i64 (cmpI x.t y.t), .int .i64 (cmpI x.id y.id)] 3)) := (Keep.refl _ w).drew.alloc _
  have c4 : ∀ {b o : Nat} {v : Value}, cel w b o = some v → cel (w.drew.alloc (.cells #[.int .i64 (cmpI x.t y.t), .int .i64 (cmpI x.id y.id)] 3)) b o = some v := fun h => k1.cel h id
  refine ⟨⟨c4 hx.t, c4 hy.t, c4 hx.id, c4 hy.id⟩, ?_⟩
  refine or_c (by rw [cel_alloc_new]; rfl) (by rw [cel_alloc_new]; rfl) ?_
  refine ⟨⟨c4 hx.t, c4 hy.t, c4 hx.id, c4 hy.id⟩, ?_⟩
  refine hq _ _ k1 ?_
  unfold cmpI lt
  split <;> (try split) <;> (try split) <;> (try split) <;> omega

theorem swap_c {g cap i j : Nat} (hm : Mem 155 F w h (.slice (some ⟨g, 0, none⟩) n cap) mo last n f) (hi : i < n) (hj : j < n) (hq : ∀ w', Mem 155 F w' h (.slice (some ⟨g, 0, none⟩) n cap) mo last n (swp f i j) → Keep F w w' → Q (.tuple #[]) w') :
    callS Tryz.prog 96 #[.pointer (some ⟨h, 0, none⟩), .int .i64 (i : Int), .int .i64 (j : Int)] Q w := by
  refine ref96 ?_
  unfold S96
  have hq' := hq _ (hm.swap hi hj) (hm.swap_keep hi hj)
  obtain ⟨g', cap', he, _, hgs, _, _, hgf, hgc⟩ := hm.own.at (by omega)
  injection he with e1 _ e2
  injection e1 with e1
  injection e1 with e1 _ _
  subst e1 e2
  have ci : cel w g i = some (ptr (f i)) := by rw [hgc i (by omega), List.getElem?_map, List.getElem?_range hi]; rfl
  have cj : cel w g j = some (ptr (f j)) := by rw [hgc j (by omega), List.getElem?_map, List.getElem?_range hj]; rfl
  have hgh := (hm.sb g rfl).1
  have hgi := (hm.sb g rfl).2
  have d1 : (cel (sto w.drew g i (ptr (f j))) g j).isSome = true := by
    rw [cel_sto (by rw [cel_drew, ci]; rfl)]; split
    · rfl
    · rw [cel_drew, cj]; rfl
  have l1 : cel (sto (sto w.drew g i (ptr (f j))) g j (ptr (f i))) h 0 = some (.slice (some ⟨g, 0, none⟩) n cap) := by rw [cel_sto_ne (fun e => hgh e.1.symm), cel_sto_ne (fun e => hgh e.1.symm), cel_drew]; exact hm.l
  have j1 : cel (sto (sto w.drew g i (ptr (f j))) g j (ptr (f i))) g j = some (ptr (f i)) := cel_sto_same d1
  have i1 : cel (sto (sto w.drew g i (ptr (f j))) g j (ptr (f i))) g i = some (ptr (f j)) := by
    rw [cel_sto d1]; split
    · rename_i hij; rw [hij.2]
    · rw [cel_sto_same (by rw [cel_drew, ci]; rfl)]
  have p1 : ∀ a b : It, one (ptr a) = true := fun _ _ => rfl
  have k3j : (cel (sto (sto w.drew g i (ptr (f j))) g j (ptr (f i))) (f j).b 3).isSome = true := by
    rw [cel_sto_ne (fun e => hgi j hj e.1), cel_sto_ne (fun e => hgi j hj e.1), cel_drew, (hm.it j hj).k]; rfl
  have k3i : (cel (sto ((sto (sto w.drew g i (ptr (f j))) g j (ptr (f i))).drew) (f j).b 3 (.int .i64 (i : Int))) (f i).b 3).isSome = true := by
    rw [cel_sto (by rw [cel_drew]; exact k3j)]; split
    · rfl
    · rw [cel_drew, cel_sto_ne (fun e => hgi i hi e.1), cel_sto_ne (fun e => hgi i hi e.1), cel_drew, (hm.it i hi).k]; rfl
  have fi := (hm.it i hi).fre
  have fj := (hm.it j hj).fre
  simp only [swW, ptr] at *
  simp only [stp, Nat.reduceAdd, Int.reduceLT, Int.reduceLE, Int.reduceEq, Int.reduceNe, ne_eq, bne_self_eq_false, beq_self_eq_true, cel_drew, hm.l, Option.isSome_some, Option.getD_some, hi, hj, ci, cj, fre_drew, fre_sto, hgf, d1, l1, i1, j1, k3j, k3i, fi, fj]
  exact hq'
end
end Go.Proofs.YtndjohbbaplekaaGreatH.Hi
