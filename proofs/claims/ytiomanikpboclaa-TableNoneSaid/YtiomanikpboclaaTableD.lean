/- The table of locks: what a node holds; what is forced; whether all fits. Conditions: as each says. -/
import Derived.Test.YtiomanikpboclaaTableC
set_option linter.unusedSimpArgs false
set_option linter.unusedVariables false
namespace Go.Proofs.Ytiomanikpboclaa
open Go.Sh Go.Proofs.Ytiomanikpboclaa.Mi
set_option maxRecDepth 100000
section
variable {w w' : World} {Q : Value → World → Prop} {B t : Nat} {s : TS}
theorem tholds_no {node : Int} (h : TL w B t s) (hn : ¬ (1 ≤ node ∧ node ≤ s.nodes)) (hq : Q (.slice none 0 0) w) : callS Try.prog 14 #[.pointer (some ⟨t, 0, none⟩), .int .i64 node] Q w := by
  refine ref14 ?_
  unfold S14
  obtain ⟨ms, wv, h⟩ := h
  refine is_c h.c0 ?_
  rw [decide_eq_false hn]
  simp only [stp, Nat.reduceAdd, Int.reduceLT, Int.reduceLE, Int.reduceEq, Int.reduceNe, ne_eq, bne_self_eq_false, beq_self_eq_true]
  exact hq
theorem tholds_c {j : Nat} (h : TL w B t s) (hj : 1 ≤ j) (hj' : (j : Int) ≤ s.nodes) (hq : ∀ w' v' l, s.hs[j]? = some l → Canon l → Bd 4096 l → Own w' (siz w) 31 3 v' (asLocks l).length (flat enc3 (asLocks l)) → K0 w w' → Q v' w') :
    callS Try.prog 14 #[.pointer (some ⟨t, 0, none⟩), .int .i64 (j : Int)] Q w := by
  refine ref14 ?_
  unfold S14
  obtain ⟨ms, wv, h⟩ := h
  refine is_c h.c0 ?_
  rw [decide_eq_true ⟨by omega, hj'⟩]
  have hlt : j < 17 := by have := h.nn.2; omega
  obtain ⟨m, l, e1, e2, e3, hm, hd⟩ := h.node hlt
  have hcn := hm.canon
  have hl' := canon_len (n := 4096) hcn hd
  have hl : l.length ≤ 1000000 := by omega
  have hq := fun w' v' => hq w' v' l e2 hcn hd
  clear e1 e2 hlt
  simp only [stp, Nat.reduceAdd, Int.reduceLT, Int.reduceLE, Int.reduceEq, Int.reduceNe, ne_eq, bne_self_eq_false, beq_self_eq_true]
  rw [ixa (by have := h.nn.2; omega)]
  simp only [stp, Nat.reduceAdd, Int.reduceLT, Int.reduceLE, Int.reduceEq, Int.reduceNe, ne_eq, bne_self_eq_false, beq_self_eq_true, stm, e3]
  refine all_c hm hl fun w1 v1 o1 k1 => ?_
  have s1 := k1.size
  obtain ⟨pa, ca, rfl⟩ := o1.form
  simp only [stp, Nat.reduceAdd, Int.reduceLT, Int.reduceLE, Int.reduceEq, Int.reduceNe, ne_eq, bne_self_eq_false, beq_self_eq_true]
  refine lp2 (fun mm x y w' => Keep (fun _ => False) w1 w' ∧ ∃ i : Nat, y = .int .i64 (i : Int) ∧ i ≤ l.length ∧ mm = l.length - i ∧ Own w' (siz w1) 31 3 x i (flat enc3 (asLocks (l.take i)))) l.length
    ⟨Keep.refl _ _, 0, rfl, Nat.zero_le _, by omega, Own.nil _ _ _ _⟩ ?_
  rintro mm x y w2 ⟨k2, i, rfl, hi, rfl, o2⟩ J hJ _
  have hwi := wrap_succ (i := i) (by omega)
  have s12 := k2.size
  by_cases hlt : i < l.length
  · have hlt' : ((i : Int) < (l.length : Int)) := by omega
    have hsi : l[i]? = some l[i] := List.getElem?_eq_getElem hlt
    obtain ⟨g, cg, e, _, _, _, _, _, hcel⟩ := (o1.keep k2 fun _ _ => id).at (by omega)
    injection e with e1 _ e2
    subst e1 e2
    obtain ⟨p0, p1, p2⟩ := parts_at (ev := ev) (b := g) (o := 0) (l := l) (fun j hj => by rw [Nat.zero_add]; exact hcel j hj) hsi
    rw [Nat.zero_add] at p0 p1 p2
    simp only [stp, Nat.reduceAdd, Int.reduceLT, Int.reduceLE, Int.reduceEq, Int.reduceNe, ne_eq, bne_self_eq_false, beq_self_eq_true, hlt']
    rw [ix_65 hlt]
    simp only [stp, Nat.reduceAdd, Int.reduceLT, Int.reduceLE, Int.reduceEq, Int.reduceNe, ne_eq, bne_self_eq_false, beq_self_eq_true, stm, p0, p1, p2]
    have k3 := (Keep.refl (fun _ => False) w2).alloc (.cells #[.int .i64 l[i].1.1, .int .i64 l[i].1.2, ev l[i].2] 68)
    have o3 := o2.keep k3 fun _ _ => id
    have s23 := k3.size
    refine pu_43 o3 (by intro u hu; simp only [List.mem_cons, List.not_mem_nil, or_false] at hu; rcases hu with rfl | rfl | rfl <;> exact one_int) (by omega) (by omega) fun v' w' ho hk hr => ?_
    simp only [hwi]
    refine hJ (l.length - (i + 1)) _ _ _ (by omega) ⟨(k2.trans k3).trans' hk fun b hb e => by have := (o3.lt e).1; omega, i + 1, rfl, by omega, rfl, ?_⟩
    have e9 : asLocks (l.take (i + 1)) = asLocks (l.take i) ++ [(l[i].1.1, l[i].1.2, l[i].2)] := by
      rw [List.take_add_one, hsi, Option.toList_some]; unfold asLocks; rw [List.map_append]; rfl
    rw [e9, flat_append]
    exact ho
  · have hlt' : ¬ ((i : Int) < (l.length : Int)) := by omega
    have hil : i = l.length := by omega
    simp only [stp, Nat.reduceAdd, Int.reduceLT, Int.reduceLE, Int.reduceEq, Int.reduceNe, ne_eq, bne_self_eq_false, beq_self_eq_true, hlt']
    rw [hil, List.take_length] at o2
    exact hq _ _ (by rw [asLocks_len]; exact o2.le s1) (k1.trans k2)
end
end Go.Proofs.Ytiomanikpboclaa
