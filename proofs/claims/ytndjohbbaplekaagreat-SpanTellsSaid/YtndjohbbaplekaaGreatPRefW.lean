/- The document's maps: the ranges of a value; where a map changes. Conditions: as each says. -/
import Derived.Test.YtndjohbbaplekaaGreatPRefH
import Derived.Test.YtndjohbbaplekaaGreatPKeep
import Derived.Test.YtndjohbbaplekaaGreatPBlkX
set_option linter.unusedSimpArgs false
set_option linter.unusedVariables false
namespace Go.Proofs.YtndjohbbaplekaaGreatP
open Go.Sh
set_option maxRecDepth 100000
/-- A map's values change in so few places. -/
def ChN (l : List (Pt Int)) (n : Nat) : Prop := ∃ E, Chg (valB l) E ∧ E.length ≤ n
theorem ChN.nil : ChN [] 0 := ⟨[], fun x hx => absurd rfl hx, Nat.le_refl _⟩
theorem ChN.mono {n n' : Nat} {l : List (Pt Int)} (h : ChN l n) (hn : n ≤ n') : ChN l n' := by
  obtain ⟨E, h1, h2⟩ := h
  exact ⟨E, h1, Nat.le_trans h2 hn⟩
theorem ChN.len {n : Nat} {l : List (Pt Int)} (h : ChN l n) (hc : Canon l) : l.length ≤ n := by
  obtain ⟨E, h1, h2⟩ := h
  exact Nat.le_trans (chg_len hc h1) h2
theorem ChN.upd {n : Nat} {s : Sp} {g : Option Int → Option Int} {l l' : List (Pt Int)} (h : ChN l n) (hv : ∀ x, valB l' x = if hasB s x then g (valB l x) else valB l x) : ChN l' (n + 2) := by
  obtain ⟨E, h1, h2⟩ := h
  exact ⟨_, chg_upd (s := s) (g := g) h1 hv, by simp; omega⟩
section
variable {w : World} {Q : Value → World → Prop} {B : Nat} {l : List (Pt Int)} {v : Value}
theorem rlS {b o : Nat} {x y : Int} (h0 : Sh.cel w b o = some (.int .i64 x)) (h1 : Sh.cel w b (o + 1) = some (.int .i64 y)) : (Instr.loadAt 72 (.pointer (some ⟨b, o, none⟩))).run Tryz.prog w = .ok (.agg #[.int .i64 x, .int .i64 y]) w :=
  run_loadN (n := 2) (fun w => Tryz.isAgg72 w) (fun w => Tryz.sizeOf72 w) (fun j => if j = 0 then .int .i64 x else .int .i64 y) fun
    | 0, _ => h0
    | 1, _ => h1
    | j + 2, hj => absurd hj (by omega)
theorem rwith_c {x : Int} (ho : RM w B v l) (hl : l.length ≤ 100000) (hq : ∀ w' v', Own w' (siz w) 72 2 v' (withL x l).length (flat encS (withL x l)) → K0 w w' → Q v' w') :
    callS Tryz.prog 60 #[v, .int .i64 x] Q w := by
  refine ref60 ?_
  unfold S60
  obtain ⟨pa, ca, rfl⟩ := Own.form ho
  refine lpc2 l.length (by omega) (fun i y w' => K0 w w' ∧ Own w' (siz w) 72 2 y (withL x (l.take i)).length (flat encS (withL x (l.take i)))) ⟨K0.refl _, Own.nil _ _ _ _⟩ (fun i y w2 hlt ⟨k2, o2⟩ J hJ => ?_) (fun y w2 ⟨k2, o2⟩ J => ?_)
  · intro _j
    have hlt' : ((i : Int) < (l.length : Int)) := by omega
    have hsi : l[i]? = some l[i] := List.getElem?_eq_getElem hlt
    have hL1 : withL x (l.take (i + 1)) = withL x (l.take i) ++ (if l[i].2 = x then [l[i].1] else []) := by
      rw [List.take_add_one, hsi, Option.toList_some, withL_snoc]
    have hLl : (withL x (l.take i)).length ≤ i := by
      have := withL_len x (l.take i)
      rw [List.length_take] at this
      omega
    obtain ⟨g, rfl, p0, p1, p2⟩ := rpart_at (RM.keep0 ho k2) hlt
    have s2 := k2.size
    simp only [stp, Nat.reduceAdd, Int.reduceLT, Int.reduceLE, Int.reduceEq, Int.reduceNe, ne_eq, bne_self_eq_false, beq_self_eq_true, hlt']
    refine jn1 (fun x' w' => K0 w w' ∧ Own w' (siz w) 72 2 x' (withL x (l.take (i + 1))).length (flat encS (withL x (l.take (i + 1))))) (fun J' hJ' => ?_) ?_
    · by_cases hv : l[i].2 = x
      · rw [if_pos hv] at hL1
        simp only [stp, Nat.reduceAdd, Int.reduceLT, Int.reduceLE, Int.reduceEq, Int.reduceNe, ne_eq, bne_self_eq_false, beq_self_eq_true, stm, cel_drew, ix_92 hlt, p0, p1, p2, hv, Option.isSome_some, Option.getD_some]
        refine pu_70 o2 (by intro u hu; exact encS_one (s := l[i].1) hu) (by omega) (by omega) fun v' w' ho hk hr => hJ' _ _ ⟨?_, ?_⟩
        · exact k2.trans' hk fun b hb e => by have := (o2.lt e).1; omega
        · rw [hL1, flat_append, flat_one, List.length_append]; exact ho
      · rw [if_neg hv, List.append_nil] at hL1
        simp only [stp, Nat.reduceAdd, Int.reduceLT, Int.reduceLE, Int.reduceEq, Int.reduceNe, ne_eq, bne_self_eq_false, beq_self_eq_true, stm, cel_drew, ix_92 hlt, p0, p1, p2, hv, Option.isSome_some, Option.getD_some]
        refine hJ' _ _ ⟨k2, ?_⟩
        rw [hL1]; exact o2
    · rintro x' w6 ⟨k6, o6⟩ _j
      try simp only [stp, Nat.reduceAdd, Int.reduceLT, Int.reduceLE, Int.reduceEq, Int.reduceNe, ne_eq, bne_self_eq_false, beq_self_eq_true]
      exact hJ _ _ ⟨k6, o6⟩
  · intro _j
    have hlt' : ¬ ((l.length : Int) < (l.length : Int)) := by omega
    simp only [stp, Nat.reduceAdd, Int.reduceLT, Int.reduceLE, Int.reduceEq, Int.reduceNe, ne_eq, bne_self_eq_false, beq_self_eq_true, hlt']
    rw [List.take_length] at o2
    exact hq _ _ o2 k2
end
end Go.Proofs.YtndjohbbaplekaaGreatP
