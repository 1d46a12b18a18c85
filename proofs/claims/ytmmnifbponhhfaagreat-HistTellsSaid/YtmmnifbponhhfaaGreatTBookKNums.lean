/- The book of lists, one kind: comparing, marking, copying. Conditions: as each says. -/
import Derived.Test.YtmmnifbponhhfaaGreatTBookN
set_option linter.unusedSimpArgs false
set_option linter.unusedVariables false

namespace Go.Proofs.YtmmnifbponhhfaaGreatT.BkNums
open Go.Sh Go.Proofs.YtmmnifbponhhfaaGreatT
set_option maxRecDepth 100000
abbrev enc : Int → List Value := fun n => [.int .u64 n]
theorem enc_len (x : Int) : (enc x).length = 1 := rfl
theorem enc_one (x : Int) : ∀ u ∈ enc x, Go.Sh.one u = true := fun u hu => by rw [List.mem_singleton.1 hu]; rfl
theorem flat_ones {xs : List Int} : ∀ u ∈ flat enc xs, Go.Sh.one u = true := fun u hu => by obtain ⟨x, _, hx⟩ := List.mem_flatMap.1 hu; exact enc_one x u hx
def mk (i k : Nat) : Int := 1000000 * (i : Int) + (k : Int) + 7
theorem cells_at {w : World} {b o : Nat} {L : List Int} (hc : ∀ j, j < L.length * 1 → Sh.cel w b (o + j) = (flat enc L)[j]?) {i : Nat} {p : Int} (h : L[i]? = some p) : Sh.cel w b (o + i) = some (.int .u64 p) := by
  have hi := (List.getElem?_eq_some_iff.1 h).1
  have := flat_get (enc := enc) (k := 1) (fun _ => rfl) h (j := 0) (by omega)
  rw [Nat.mul_one, Nat.add_zero] at this
  rw [hc i (by omega), this]; rfl
section
variable {w w' : World} {Q : Value → World → Prop} {b B : Nat} {f : Nat → Value}
theorem same_c {va vb : Value} {a b : List Int} (ha : Rd 1 w va a.length (flat enc a)) (hb : Rd 1 w vb b.length (flat enc b)) (hl : a.length ≤ 1000000)
    (hq : ∀ w', K0 w w' → Q (.bool (decide (a = b))) w') : callS Tryz.prog 11 #[va, vb] Q w := by
  refine ref11 ?_
  unfold S11
  obtain ⟨pa, ca, rfl⟩ := ha.form
  obtain ⟨pb, cb, rfl⟩ := hb.form
  simp only [stp, Nat.reduceAdd, Int.reduceLT, Int.reduceLE, Int.reduceEq, Int.reduceNe, ne_eq, bne_self_eq_false, beq_self_eq_true]
  by_cases hne : a.length = b.length
  · have hne' : (a.length : Int) = (b.length : Int) := by omega
    simp only [stp, Nat.reduceAdd, Int.reduceLT, Int.reduceLE, Int.reduceEq, Int.reduceNe, ne_eq, bne_self_eq_false, beq_self_eq_true, hne']
    rw [← hne']
    refine lp1 (fun m x w' => K0 w w' ∧ ∃ i : Nat, x = .int .i64 (i : Int) ∧ i ≤ a.length ∧ m = a.length - i ∧ a.take i = b.take i) a.length ⟨Keep.refl _ _, 0, rfl, Nat.zero_le _, by omega, rfl⟩ ?_
    rintro m x w' ⟨k, i, rfl, hi, rfl, ht⟩ J hJ _
    simp only [stp, Nat.reduceAdd, Int.reduceLT, Int.reduceLE, Int.reduceEq, Int.reduceNe, ne_eq, bne_self_eq_false, beq_self_eq_true]
    by_cases hlt : i < a.length
    · have hlt' : ((i : Int) < (a.length : Int)) := by omega
      have hltb : i < b.length := by omega
      have hsa : a[i]? = some a[i] := List.getElem?_eq_getElem hlt
      have hsb : b[i]? = some b[i] := List.getElem?_eq_getElem hltb
      obtain ⟨ga, oa, ca', e, _, hca⟩ := (ha.keep0 k.drew).at (by omega)
      injection e with e1 _ e2
      subst e1 e2
      obtain ⟨gb, ob, cb', e, _, hcb⟩ := (hb.keep0 k.drew).at (by omega)
      injection e with e1 _ e2
      subst e1 e2
      have hA := cells_at hca hsa
      have hB := cells_at hcb hsb
      have hwi := wrap_succ (i := i) (by omega)
      simp only [cel_drew] at hA hB
      simp only [stp, Nat.reduceAdd, Int.reduceLT, Int.reduceLE, Int.reduceEq, Int.reduceNe, ne_eq, bne_self_eq_false, beq_self_eq_true, hlt']
      rw [ix_23 hlt]
      simp only [stp, Nat.reduceAdd, Int.reduceLT, Int.reduceLE, Int.reduceEq, Int.reduceNe, ne_eq, bne_self_eq_false, beq_self_eq_true, stm, cel_drew, hA]
      rw [ix_23 hltb]
      simp only [stp, Nat.reduceAdd, Int.reduceLT, Int.reduceLE, Int.reduceEq, Int.reduceNe, ne_eq, bne_self_eq_false, beq_self_eq_true, stm, cel_drew, hB]
      by_cases h0 : a[i] = b[i]
      · simp only [stp, Nat.reduceAdd, Int.reduceLT, Int.reduceLE, Int.reduceEq, Int.reduceNe, ne_eq, bne_self_eq_false, beq_self_eq_true, stm, h0, hwi, Bool.and_self, decide_true]
        exact hJ (a.length - (i + 1)) _ _ (by omega) ⟨k.drew, i + 1, rfl, by omega, rfl, by rw [List.take_add_one, List.take_add_one, ht, hsa, hsb, h0]⟩
      · have hab : ¬ a = b := fun e => h0 (by subst e; rfl)
        have hd : decide (a[i] = b[i]) = false := decide_eq_false h0
        simp only [stp, Nat.reduceAdd, Int.reduceLT, Int.reduceLE, Int.reduceEq, Int.reduceNe, ne_eq, bne_self_eq_false, beq_self_eq_true, stm, hd]
        have := hq _ k.drew
        rwa [decide_eq_false hab] at this
    · have hlt' : ¬ ((i : Int) < (a.length : Int)) := by omega
      have hia : i = a.length := by omega
      simp only [stp, Nat.reduceAdd, Int.reduceLT, Int.reduceLE, Int.reduceEq, Int.reduceNe, ne_eq, bne_self_eq_false, beq_self_eq_true, hlt']
      have hab : a = b := by
        rw [hia, List.take_length, hne, List.take_length] at ht
        exact ht
      have := hq _ k
      rwa [decide_eq_true hab] at this
  · have hne' : ¬ (a.length : Int) = (b.length : Int) := by omega
    have hab : ¬ a = b := fun e => hne (by rw [e])
    simp only [stp, Nat.reduceAdd, Int.reduceLT, Int.reduceLE, Int.reduceEq, Int.reduceNe, ne_eq, bne_self_eq_false, beq_self_eq_true, hne']
    have := hq _ (Keep.refl _ w)
    rwa [decide_eq_false hab] at this
/-- The marks of list i: n of them, from the one of this number on. -/
def mks (i from_ n : Nat) : List Int := (List.range n).map fun k => mk i (from_ + k)
theorem mks_len (i from_ n : Nat) : (mks i from_ n).length = n := by simp [mks]
theorem mks_succ (i from_ n : Nat) : mks i from_ (n + 1) = mks i from_ n ++ [mk i (from_ + n)] := by simp [mks, List.range_succ]
theorem mks_add (i n m : Nat) : mks i 0 n ++ mks i n m = mks i 0 (n + m) := by
  apply List.ext_getElem
  · simp [mks]
  · intro j h1 h2
    simp only [List.getElem_append, mks, List.length_map, List.length_range, List.getElem_map, List.getElem_range, Nat.zero_add]
    split
    · rfl
    · congr 1; omega
theorem mark_c {i from_ n : Nat} (hi : i ≤ 250) (hf : from_ + n ≤ 4000000) (hq : ∀ w' v', Own w' (siz w) 64 1 v' n (flat enc (mks i from_ n)) → K0 w w' → Q v' w') :
    callS Tryz.prog 125 #[.int .i64 (i : Int), .int .i64 (from_ : Int), .int .i64 (n : Int)] Q w := by
  refine ref125 ?_
  unfold S125
  refine lp2 (fun m x y w' => K0 w w' ∧ ∃ j : Nat, y = .int .i64 ((from_ + j : Nat) : Int) ∧ j ≤ n ∧ m = n - j ∧ Own w' (siz w) 64 1 x j (flat enc (mks i from_ j))) n ⟨K0.refl _, 0, rfl, Nat.zero_le _, rfl, Own.nil _ _ _ _⟩ ?_
  rintro m x y w1 ⟨k1, j, rfl, hj, rfl, o1⟩ J hJ _j
  have ew : IntKind.i64.wrap ((from_ : Int) + (n : Int)) = (from_ : Int) + (n : Int) := wrap_id (by omega) (by omega)
  by_cases hlt : j < n
  · have hlt' : ((from_ + j : Nat) : Int) < (from_ : Int) + (n : Int) := by omega
    have ew1 : IntKind.i64.wrap (((from_ + j : Nat) : Int) + 1) = ((from_ + (j + 1) : Nat) : Int) := by rw [wrap_succ (by omega)]; rfl
    generalize hkk : from_ + j = kk at hlt' ew1
    have hkk4 : kk ≤ 4000000 := by omega
    have mkw : IntKind.u64.wrap (IntKind.i64.wrap (IntKind.i64.wrap (IntKind.i64.wrap (1000000 * (i : Int)) + (kk : Int)) + 7)) = mk i kk := by
      rw [wrap_id (n := 1000000 * (i : Int)) (by omega) (by omega), wrap_id (n := 1000000 * (i : Int) + (kk : Int)) (by omega) (by omega), wrap_id (n := 1000000 * (i : Int) + (kk : Int) + 7) (by omega) (by omega), wrap_u]; unfold mk; omega
    simp only [stp, Nat.reduceAdd, Int.reduceLT, Int.reduceLE, Int.reduceEq, Int.reduceNe, ne_eq, bne_self_eq_false, beq_self_eq_true, stm, ew, hlt', mkw]
    have nb : ∀ q, q < 1 * 1 → Sh.cel (w1.alloc (.cells (enc (mk i kk)).toArray 64)) (siz w1) (0 + q) = (enc (mk i kk))[q]? := fun q hq => by rw [Nat.zero_add, cel_alloc_new, List.getElem?_toArray]
    have k2 := (K0.refl w1).alloc (.cells (enc (mk i kk)).toArray 64)
    have s2 := k1.size
    refine ap_23 (w := w1.alloc (.cells (enc (mk i kk)).toArray 64)) (o1.keep k2 fun _ _ => id) (b := siz w1) (o := 0) (m := 1) (news := enc (mk i kk)) (by rw [enc_len]) nb (enc_one _) (by omega) (by rw [siz_alloc]; omega) fun v' w3 ho hg hr => ?_
    simp only [stp, Nat.reduceAdd, Int.reduceLT, Int.reduceLE, Int.reduceEq, Int.reduceNe, ne_eq, bne_self_eq_false, beq_self_eq_true, ew1]
    refine hJ (n - (j + 1)) _ _ _ (by omega) ⟨?_, j + 1, rfl, by omega, rfl, ?_⟩
    · exact (k1.trans k2).trans' (grown_keep hg) fun q hq e => by have := (o1.lt e).1; omega
    · rw [mks_succ, flat_append, flat_one, hkk]; exact ho
  · have hlt' : ¬ ((from_ + j : Nat) : Int) < (from_ : Int) + (n : Int) := by omega
    have hjn : j = n := by omega
    subst hjn
    simp only [stp, Nat.reduceAdd, Int.reduceLT, Int.reduceLE, Int.reduceEq, Int.reduceNe, ne_eq, bne_self_eq_false, beq_self_eq_true, stm, ew, hlt']
    exact hq _ _ o1 k1
theorem copy_c {v : Value} {xs : List Int} (h : Rd 1 w v xs.length (flat enc xs)) (hl : xs.length ≤ 1000000) (hq : ∀ w' v', Own w' (siz w) 64 1 v' xs.length (flat enc xs) → K0 w w' → Q v' w') :
    callS Tryz.prog 23 #[v] Q w := by
  refine ref23 ?_
  unfold S23
  have hn := Own.nil w (siz w) 64 1
  by_cases h0 : xs.length = 0
  · obtain ⟨pa, ca, rfl⟩ := h.form
    have e : xs = [] := List.length_eq_zero_iff.1 h0
    subst e
    rw [show ([] : List Int).length = 0 from rfl, ap0_23 hn]
    exact hq _ _ hn (K0.refl _)
  · obtain ⟨g, o, c, rfl, _, hc⟩ := h.at (by omega)
    refine ap_23 hn (b := g) (o := o) (m := xs.length) (news := flat enc xs) h.len hc flat_ones (by omega) (Nat.le_refl _) fun v' w' ho hg hr => hq _ _ (by rw [Nat.zero_add] at ho; exact ho) ?_
    exact (grown_keep hg).mono fun q _ e => by cases e
end
end Go.Proofs.YtmmnifbponhhfaaGreatT.BkNums
