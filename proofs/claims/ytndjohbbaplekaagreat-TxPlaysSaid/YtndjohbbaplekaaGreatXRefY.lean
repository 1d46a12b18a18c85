/- The document's maps: what a block has. Conditions: as each says. -/
import Derived.Test.YtndjohbbaplekaaGreatXRefX
import Derived.Test.YtndjohbbaplekaaGreatXKeep
import Derived.Test.YtndjohbbaplekaaGreatXBlkX
set_option linter.unusedSimpArgs false
set_option linter.unusedVariables false
namespace Go.Proofs.YtndjohbbaplekaaGreatX
open Go.Sh Go.Proofs.YtndjohbbaplekaaGreatX.Mi
set_option maxRecDepth 100000
section
variable {w : World} {Q : Value → World → Prop} {B : Nat} {l : List (Pt Int)} {v : Value}
theorem rget_c {x : Int} (ho : RM w B v l) (hc : Canon l) (hl : l.length ≤ 100000) (hq : ∀ w', K0 w w' → Q (.tuple #[.int .i64 ((valB l x).getD 0), .bool (valB l x).isSome]) w') :
    callS Tryz.prog 58 #[v, .int .i64 x] Q w := by
  refine ref58 ?_
  unfold S58
  obtain ⟨pa, ca, rfl⟩ := Own.form ho
  refine lpc1 l.length (by omega) (fun i w' => K0 w w' ∧ ∀ p ∈ l.take i, ¬ hasB p.1 x) ⟨K0.refl _, by simp⟩ ?_ ?_
  · rintro i w1 hlt ⟨k1, hno⟩ J hJ _j
    have hlt' : ((i : Int) < (l.length : Int)) := by omega
    obtain ⟨g, rfl, p0, p1, p2⟩ := rpart_at (RM.keep0 ho k1) hlt
    have hok := hc.1 _ (List.getElem_mem hlt)
    have next : ¬ hasB l[i].1 x → ∀ p ∈ l.take (i + 1), ¬ hasB p.1 x := fun hn p hp => by
      rw [List.take_add_one, List.getElem?_eq_getElem hlt, Option.toList_some] at hp
      rcases List.mem_append.1 hp with hp | hp
      · exact hno p hp
      · simp at hp; subst hp; exact hn
    simp only [stp, Nat.reduceAdd, Int.reduceLT, Int.reduceLE, Int.reduceEq, Int.reduceNe, ne_eq, bne_self_eq_false, beq_self_eq_true, hlt']
    rw [ix_92 hlt]
    simp only [stp, Nat.reduceAdd, Int.reduceLT, Int.reduceLE, Int.reduceEq, Int.reduceNe, ne_eq, bne_self_eq_false, beq_self_eq_true, stm, p0]
    by_cases h0 : l[i].1.1 ≤ x
    · simp only [stp, Nat.reduceAdd, Int.reduceLT, Int.reduceLE, Int.reduceEq, Int.reduceNe, ne_eq, bne_self_eq_false, beq_self_eq_true, stm, h0]
      rw [ix_92 hlt]
      simp only [stp, Nat.reduceAdd, Int.reduceLT, Int.reduceLE, Int.reduceEq, Int.reduceNe, ne_eq, bne_self_eq_false, beq_self_eq_true, stm, p1]
      by_cases h1 : x < l[i].1.2
      · simp only [stp, Nat.reduceAdd, Int.reduceLT, Int.reduceLE, Int.reduceEq, Int.reduceNe, ne_eq, bne_self_eq_false, beq_self_eq_true, stm, h1]
        rw [ix_92 hlt]
        simp only [stp, Nat.reduceAdd, Int.reduceLT, Int.reduceLE, Int.reduceEq, Int.reduceNe, ne_eq, bne_self_eq_false, beq_self_eq_true, stm, p2]
        have := hq _ k1
        rw [valB_mem hc.apart (List.getElem_mem hlt) ⟨hok, h0, h1⟩] at this
        exact this
      · simp only [stp, Nat.reduceAdd, Int.reduceLT, Int.reduceLE, Int.reduceEq, Int.reduceNe, ne_eq, bne_self_eq_false, beq_self_eq_true, stm, h1]
        exact hJ _ ⟨k1, next fun hh => h1 hh.2.2⟩
    · simp only [stp, Nat.reduceAdd, Int.reduceLT, Int.reduceLE, Int.reduceEq, Int.reduceNe, ne_eq, bne_self_eq_false, beq_self_eq_true, stm, h0]
      exact hJ _ ⟨k1, next fun hh => h0 hh.2.1⟩
  · rintro w1 ⟨k1, hno⟩ J _j
    have hn : ¬ ((l.length : Int) < (l.length : Int)) := by omega
    rw [List.take_length] at hno
    have := hq _ k1
    rw [valB_none.2 hno] at this
    simp only [stp, Nat.reduceAdd, Int.reduceLT, Int.reduceLE, Int.reduceEq, Int.reduceNe, ne_eq, bne_self_eq_false, beq_self_eq_true, hn]
    exact this
end
end Go.Proofs.YtndjohbbaplekaaGreatX
/- The document's maps: the ranges of a value; where a map changes. Conditions: as each says. -/
set_option linter.unusedSimpArgs false
set_option linter.unusedVariables false
namespace Go.Proofs.YtndjohbbaplekaaGreatX
open Go.Sh
set_option maxRecDepth 100000
/-- A map's values change in so few places. -/
def ChN (l : List (Pt Int)) (n : Nat) : Prop := ∃ E, Chg (valB l) E ∧ E.length ≤ n
theorem ChN.nil : ChN [] 0 := ⟨[], fun x hx => absurd rfl hx, Nat.le_refl _⟩
theorem ChN.mono {n n' : Nat} {l : List (Pt Int)} (h : ChN l n) (hn : n ≤ n') : ChN l n' := by
  obtain ⟨E, h1, h2⟩ := h
  exact ⟨E, h1, Nat.le_trans h2 hn⟩
theorem ChN.len {n : Nat} {l : List (Pt Int)} (h : ChN l n) (hc : Canon l) : l.length ≤ n := by
  obtain ⟨E, h1, h2⟩ := h
  exact Nat.le_trans (chg_len hc h1) h2
theorem ChN.upd {n : Nat} {s : Sp} {g : Option Int → Option Int} {l l' : List (Pt Int)} (h : ChN l n) (hv : ∀ x, valB l' x = if hasB s x then g (valB l x) else valB l x) : ChN l' (n + 2) := by
  obtain ⟨E, h1, h2⟩ := h
  exact ⟨_, chg_upd (s := s) (g := g) h1 hv, by simp; omega⟩
section
variable {w : World} {Q : Value → World → Prop} {B : Nat} {l : List (Pt Int)} {v : Value}
theorem rlS {b o : Nat} {x y : Int} (h0 : Sh.cel w b o = some (.int .i64 x)) (h1 : Sh.cel w b (o + 1) = some (.int .i64 y)) : (Instr.loadAt 72 (.pointer (some ⟨b, o, none⟩))).run Tryz.prog w = .ok (.agg #[.int .i64 x, .int .i64 y]) w :=
  run_loadN (n := 2) (fun w => Tryz.isAgg72 w) (fun w => Tryz.sizeOf72 w) (fun j => if j = 0 then .int .i64 x else .int .i64 y) fun
    | 0, _ => h0
    | 1, _ => h1
    | j + 2, hj => absurd hj (by omega)
theorem rlocks_c (ho : RM w B v l) (hl : l.length ≤ 100000) (hq : ∀ w' v', Own w' (siz w) 143 3 v' (asLocks l).length (flat enc3 (asLocks l)) → Keep (fun _ => False) w w' → Q v' w') :
    callS Tryz.prog 70 #[v] Q w := by
  refine ref70 ?_
  unfold S70
  obtain ⟨pa, ca, rfl⟩ := Own.form ho
  refine lpc2 l.length (by omega) (fun i x w' => K0 w w' ∧ Own w' (siz w) 143 3 x i (flat enc3 (asLocks (l.take i)))) ⟨K0.refl _, Own.nil _ _ _ _⟩ (fun i x w2 hlt ⟨k2, o2⟩ J hJ => ?_) (fun x w2 ⟨k2, o2⟩ J => ?_)
  · intro _j
    have s12 := k2.size
    have hlt' : ((i : Int) < (l.length : Int)) := by omega
    have hsi : l[i]? = some l[i] := List.getElem?_eq_getElem hlt
    obtain ⟨g, rfl, p0, p1, p2⟩ := rpart_at (RM.keep0 ho k2) hlt
    have kd := (K0.refl w2).drew
    have sd : siz w2.drew = siz w2 := rfl
    have o3 := o2.keep kd fun _ _ => id
    simp only [stp, Nat.reduceAdd, Int.reduceLT, Int.reduceLE, Int.reduceEq, Int.reduceNe, ne_eq, bne_self_eq_false, beq_self_eq_true, stm, cel_drew, hlt', ix_92 hlt, p0, p1, p2, Option.isSome_some, Option.getD_some]
    refine pu_109 o3 (by intro u hu; simp only [List.mem_cons, List.not_mem_nil, or_false] at hu; rcases hu with rfl | rfl | rfl <;> exact one_int) (by omega) (by omega) fun v' w' ho hk hr => ?_
    refine hJ _ _ ⟨(k2.trans kd).trans' hk fun b hb e => by have := (o3.lt e).1; omega, ?_⟩
    have e9 : asLocks (l.take (i + 1)) = asLocks (l.take i) ++ [(l[i].1.1, l[i].1.2, l[i].2)] := by
      rw [List.take_add_one, hsi, Option.toList_some]; unfold asLocks; rw [List.map_append]; rfl
    rw [e9, flat_append]
    exact ho
  · intro _j
    have hlt' : ¬ ((l.length : Int) < (l.length : Int)) := by omega
    simp only [stp, Nat.reduceAdd, Int.reduceLT, Int.reduceLE, Int.reduceEq, Int.reduceNe, ne_eq, bne_self_eq_false, beq_self_eq_true, hlt']
    rw [List.take_length] at o2
    exact hq _ _ (by rw [asLocks_len]; exact o2) k2
end
end Go.Proofs.YtndjohbbaplekaaGreatX
