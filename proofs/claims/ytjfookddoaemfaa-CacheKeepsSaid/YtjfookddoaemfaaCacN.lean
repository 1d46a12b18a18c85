/- Entries compared by their numbers; the insertion sort. Conditions: as each says. -/
import Derived.Test.YtjfookddoaemfaaCacM
set_option linter.unusedSimpArgs false
set_option linter.unusedVariables false
namespace Go.Proofs.Ytjfookddoaemfaa
open Go.Sh Go.Sh.Lrv Go.Proofs.Ytjfookddoaemfaa.Lv
set_option maxRecDepth 100000
section
variable {w w' : World} {Q : Value → World → Prop} {B g n cap : Nat} {d : List En}
def cmpZ (a b : Int) : Int := if a < b then -1 else if b < a then 1 else 0
theorem nanU_c {a : Int} (hq : Q (.bool false) w) : callS Try.prog 54 #[.int .u64 a] Q w := by
  refine ref54 ?_
  unfold S54
  simp only [stp, Nat.reduceAdd, Int.reduceLT, Int.reduceLE, Int.reduceEq, Int.reduceNe, ne_eq, bne_self_eq_false, beq_self_eq_true, stm]
  exact hq
theorem compareU_c {a b : Int} (hq : Q (.int .i64 (cmpZ a b)) w) : callS Try.prog 37 #[.int .u64 a, .int .u64 b] Q w := by
  refine ref37 ?_
  unfold S37
  refine nanU_c ?_
  refine nanU_c ?_
  simp only [cmpZ] at hq
  by_cases h1 : a < b
  · simp only [stp, Nat.reduceAdd, Int.reduceLT, Int.reduceLE, Int.reduceEq, Int.reduceNe, ne_eq, bne_self_eq_false, beq_self_eq_true, stm, h1]
    simpa only [h1, if_true] using hq
  · by_cases h2 : b < a
    · simp only [stp, Nat.reduceAdd, Int.reduceLT, Int.reduceLE, Int.reduceEq, Int.reduceNe, ne_eq, bne_self_eq_false, beq_self_eq_true, stm, h1, h2]
      simpa only [h1, h2, if_true, if_false] using hq
    · simp only [stp, Nat.reduceAdd, Int.reduceLT, Int.reduceLE, Int.reduceEq, Int.reduceNe, ne_eq, bne_self_eq_false, beq_self_eq_true, stm, h1, h2]
      simpa only [h1, h2, if_false] using hq
theorem dirty2_c {x y : En} (hq : ∀ w', K0 w w' → Q (.int .i64 (cmpZ x.2.2.2.2 y.2.2.2.2)) w') : callS Try.prog 36 #[vE x, vE y] Q w := by
  refine ref36 ?_
  unfold S36
  simp only [stp, Nat.reduceAdd, Int.reduceLT, Int.reduceLE, Int.reduceEq, Int.reduceNe, ne_eq, bne_self_eq_false, beq_self_eq_true, stm]
  refine compareU_c ?_
  exact hq _ (((K0.refl w).alloc _).alloc _)
/-- A function that compares entries by their numbers. -/
def Cmp (f : Value) : Prop := ∀ (w : World) (x y : En) (Q : Value → World → Prop), (∀ w' r, (r < 0 ↔ x.2.2.2.2 < y.2.2.2.2) → K0 w w' → Q (.int .i64 r) w') → callF Try.prog f #[vE x, vE y] Q w
theorem cmpZ_neg {a b : Int} : cmpZ a b < 0 ↔ a < b := by
  unfold cmpZ
  split
  · omega
  · split <;> omega
theorem dirty2_cmp : Cmp (.func (.func 36) #[] #[]) := fun w x y Q hq => by
  rw [callF_plain]
  exact dirty2_c fun w' k => hq w' _ cmpZ_neg k
/-- The number of the entry at a place. -/
def ky (d : List En) (k : Nat) : Int := ((d[k]?).getD e0).2.2.2.2
theorem ky_get {k : Nat} (hk : k < d.length) : ky d k = d[k].2.2.2.2 := by unfold ky; rw [List.getElem?_eq_getElem hk]; rfl
theorem ky_swp {i j : Nat} {hi : i < d.length} {hj : j < d.length} (k : Nat) : ky (swp d i j hi hj) k = if k = j then ky d i else if k = i then ky d j else ky d k := by
  by_cases hk : k < d.length
  · rw [ky_get (by rw [swp_len]; exact hk), swp_get hk, ky_get hi, ky_get hj, ky_get hk]
    split
    · rfl
    · split <;> rfl
  · rw [if_neg (by omega), if_neg (by omega)]
    unfold ky
    rw [List.getElem?_eq_none (by rw [swp_len]; omega), List.getElem?_eq_none (by omega)]
def SrtD (d : List En) (a b : Nat) : Prop := ∀ p q, a ≤ p → p < q → q < b → ky d p ≤ ky d q
theorem ins_c {f : Value} (hf : Cmp f) (h : RowE w B g n cap d) {a b : Nat} (hb : b ≤ n) (hn : n ≤ 1000000) (ha : a ≤ n)
    (hq : ∀ w' d', RowE w' B g n cap d' → d'.Perm d → SrtD d' a b → (∀ k, k < a → ky d' k = ky d k) → Keep (fun b => b = g) w w' → Q (.tuple #[]) w') :
    callS Try.prog 60 #[.slice (some ⟨g, 0, none⟩) n cap, .int .i64 (a : Int), .int .i64 (b : Int), f] Q w := by
  refine ref60 ?_
  unfold S60
  have hwa := wrap_succ (i := a) (by omega)
  simp only [stp, Nat.reduceAdd, Int.reduceLT, Int.reduceLE, Int.reduceEq, Int.reduceNe, ne_eq, bne_self_eq_false, beq_self_eq_true, hwa]
  refine lp1 (fun m x w' => ∃ (i : Nat) (d' : List En), x = .int .i64 (i : Int) ∧ a < i ∧ m = b - i ∧ RowE w' B g n cap d' ∧ d'.Perm d ∧ SrtD d' a i ∧ (∀ k, k < a → ky d' k = ky d k) ∧ Keep (fun b => b = g) w w') (b - (a + 1))
    ⟨a + 1, d, rfl, by omega, rfl, h, List.Perm.refl _, fun p q h1 h2 h3 => by omega, fun _ _ => rfl, Keep.refl _ _⟩ ?_
  rintro m x w1 ⟨i, d1, rfl, hai, rfl, h1, hp1, hs1, hl1, k1⟩ J hJ _j
  by_cases hib : i < b
  case neg =>
    have hib' : ¬ ((i : Int) < (b : Int)) := by omega
    simp only [stp, Nat.reduceAdd, Int.reduceLT, Int.reduceLE, Int.reduceEq, Int.reduceNe, ne_eq, bne_self_eq_false, beq_self_eq_true, hib']
    exact hq _ d1 h1 hp1 (fun p q g1 g2 g3 => hs1 p q g1 g2 (by omega)) hl1 k1
  have hib' : ((i : Int) < (b : Int)) := by omega
  have hwi := wrap_succ (i := i) (by omega)
  simp only [stp, Nat.reduceAdd, Int.reduceLT, Int.reduceLE, Int.reduceEq, Int.reduceNe, ne_eq, bne_self_eq_false, beq_self_eq_true, hib']
  refine lp1 (fun m x w' => ∃ (j : Nat) (d' : List En), x = .int .i64 (j : Int) ∧ a ≤ j ∧ j ≤ i ∧ m = j - a ∧ RowE w' B g n cap d' ∧ d'.Perm d ∧ SrtD d' a j ∧ SrtD d' j (i + 1) ∧ (∀ p q, a ≤ p → p < j → j < q → q ≤ i → ky d' p ≤ ky d' q) ∧ (∀ k, k < a → ky d' k = ky d k) ∧ Keep (fun b => b = g) w w') (i - a)
    ⟨i, d1, rfl, by omega, by omega, rfl, h1, hp1, hs1, fun p q g1 g2 g3 => by omega, fun p q g1 g2 g3 g4 => by omega, hl1, k1⟩ ?_
  rintro m x w2 ⟨j, d2, rfl, haj, hji, rfl, h2, hp2, hs2, ht2, hc2, hl2, k2⟩ J1 hJ1 _j
  have hd2 := h2.len
  have done : ∀ w3 d3, RowE w3 B g n cap d3 → d3.Perm d → SrtD d3 a (i + 1) → (∀ k, k < a → ky d3 k = ky d k) → Keep (fun b => b = g) w w3 → J (.int .i64 ((i + 1 : Nat) : Int)) w3 := fun w3 d3 g1 g2 g3 g4 g5 =>
    hJ (b - (i + 1)) _ _ (by omega) ⟨i + 1, d3, rfl, by omega, rfl, g1, g2, g3, g4, g5⟩
  have join : (j = a ∨ (a < j ∧ ky d2 (j - 1) ≤ ky d2 j)) → SrtD d2 a (i + 1) := fun hor p q g1 g2 g3 => by
    by_cases c1 : q < j
    · exact hs2 p q g1 g2 c1
    · by_cases c2 : p < j
      · rcases hor with e | ⟨_, hle⟩
        · omega
        · by_cases c3 : q = j
          · subst c3
            by_cases c4 : p = q - 1
            · subst c4; exact hle
            · exact Int.le_trans (hs2 p (q - 1) g1 (by omega) (by omega)) hle
          · exact hc2 p q g1 c2 (by omega) (by omega)
      · exact ht2 p q (by omega) g2 g3
  by_cases hja : a < j
  case neg =>
    have hja' : ¬ ((a : Int) < (j : Int)) := by omega
    simp only [stp, Nat.reduceAdd, Int.reduceLT, Int.reduceLE, Int.reduceEq, Int.reduceNe, ne_eq, bne_self_eq_false, beq_self_eq_true, hja', hwi]
    exact done _ d2 (Sh.Own.keep h2 ((K0.refl w2).drew) fun _ _ e => e) hp2 (join (.inl (by omega))) hl2 k2.drew
  have hja' : ((a : Int) < (j : Int)) := by omega
  have hwj := wrap_pred (i := j) (by omega) (by omega)
  have xj : ∀ k, pur Try.prog (Instr.indexAt 35 (.slice (some ⟨g, 0, none⟩) n cap) (.int .i64 (j : Int))) k = k (.pointer (some ⟨g, j * 5, none⟩)) := fun k => ixE (by omega)
  have xp : ∀ k, pur Try.prog (Instr.indexAt 35 (.slice (some ⟨g, 0, none⟩) n cap) (.int .i64 ((j - 1 : Nat) : Int))) k = k (.pointer (some ⟨g, (j - 1) * 5, none⟩)) := fun k => ixE (by omega)
  have h2d : RowE w2.drew B g n cap d2 := Sh.Own.keep h2 ((K0.refl w2).drew) fun _ _ e => e
  have hjl : j < d2.length := by omega
  have hpl : j - 1 < d2.length := by omega
  simp only [stp, Nat.reduceAdd, Int.reduceLT, Int.reduceLE, Int.reduceEq, Int.reduceNe, ne_eq, bne_self_eq_false, beq_self_eq_true, hja', hwj, xj, xp]
  rw [ld_en (h2d.en (i := j) (by omega)), ld_en (h2d.en (i := j - 1) (by omega))]
  refine hf _ _ _ _ fun w3 r hr k3 => ?_
  have h3 : RowE w3 B g n cap d2 := Sh.Own.keep h2d k3 fun _ _ e => e
  have k23 : Keep (fun b => b = g) w w3 := k2.drew.trans k3.none
  have hkj : ky d2 j = d2[j].2.2.2.2 := ky_get hjl
  have hkp : ky d2 (j - 1) = d2[j - 1].2.2.2.2 := ky_get hpl
  by_cases hr0 : r < 0
  case neg =>
    have hge : ky d2 (j - 1) ≤ ky d2 j := by
      rw [hkj, hkp]
      exact Int.not_lt.1 fun hlt => hr0 (hr.2 hlt)
    simp only [stp, Nat.reduceAdd, Int.reduceLT, Int.reduceLE, Int.reduceEq, Int.reduceNe, ne_eq, bne_self_eq_false, beq_self_eq_true, hr0, hwi]
    exact done _ d2 h3 hp2 (join (.inr ⟨hja, hge⟩)) hl2 k23
  have hlt : ky d2 j < ky d2 (j - 1) := by
    rw [hkj, hkp]
    exact hr.1 hr0
  have h3d : RowE w3.drew B g n cap d2 := Sh.Own.keep h3 ((K0.refl w3).drew) fun _ _ e => e
  simp only [stp, Nat.reduceAdd, Int.reduceLT, Int.reduceLE, Int.reduceEq, Int.reduceNe, ne_eq, bne_self_eq_false, beq_self_eq_true, hr0]
  rw [ld_en (h3d.en (i := j - 1) (by omega)), ld_en (h3d.en (i := j) (by omega))]
  refine swap_w (K := fun w4 => J1 (.int .i64 ((j - 1 : Nat) : Int)) w4) h3d (i := j) (j := j - 1) (by omega) (by omega) fun w4 h4 k4 => ?_
  have hk := fun k => ky_swp (d := d2) (i := j) (j := j - 1) (hi := hjl) (hj := hpl) k
  refine hJ1 (j - 1 - a) _ _ (by omega) ⟨j - 1, _, rfl, by omega, by omega, rfl, h4, swp_perm.trans hp2, fun p q g1 g2 g3 => ?_, fun p q g1 g2 g3 => ?_, fun p q g1 g2 g3 g4 => ?_, fun k hka => ?_, k23.drew.trans k4⟩
  · rw [hk, hk, if_neg (by omega), if_neg (by omega), if_neg (by omega), if_neg (by omega)]
    exact hs2 p q g1 g2 (by omega)
  · rw [hk, hk]
    by_cases c1 : p = j - 1
    · rw [if_pos c1]
      by_cases c2 : q = j
      · rw [if_neg (by omega), if_pos c2]
        omega
      · rw [if_neg (by omega), if_neg c2]
        exact ht2 j q (Nat.le_refl _) (by omega) g3
    · by_cases c2 : p = j
      · rw [if_neg c1, if_pos c2, if_neg (by omega), if_neg (by omega)]
        exact hc2 (j - 1) q (by omega) (by omega) (by omega) (by omega)
      · rw [if_neg c1, if_neg c2, if_neg (by omega), if_neg (by omega)]
        exact ht2 p q (by omega) g2 g3
  · rw [hk, hk, if_neg (by omega), if_neg (by omega), if_neg (by omega)]
    by_cases c2 : q = j
    · rw [if_pos c2]
      exact hs2 p (j - 1) g1 (by omega) (by omega)
    · rw [if_neg c2]
      exact hc2 p q g1 (by omega) (by omega) g4
  · rw [hk, if_neg (by omega), if_neg (by omega)]
    exact hl2 k hka
end
end Go.Proofs.Ytjfookddoaemfaa
