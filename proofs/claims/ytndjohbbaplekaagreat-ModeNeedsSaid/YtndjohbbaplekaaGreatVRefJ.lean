/- The document's norm of locks; a map held, and the document's. Conditions: as each says. -/
import Derived.Test.YtndjohbbaplekaaGreatVRefH
set_option linter.unusedSimpArgs false
set_option linter.unusedVariables false
namespace Go.Proofs.YtndjohbbaplekaaGreatV
open Go.Sh Go.Proofs.YtndjohbbaplekaaGreatV.Mi
set_option maxRecDepth 100000
def Lay (md : Int) (L : List I3) (f g : Int → Option Int) : Prop := ∀ x, ((∃ k ∈ L, k.2.2 = md ∧ hasB (k.1, k.2.1) x) → g x = some md) ∧ ((¬ ∃ k ∈ L, k.2.2 = md ∧ hasB (k.1, k.2.1) x) → g x = f x)
theorem Lay.nil {md : Int} {f : Int → Option Int} : Lay md [] f f := fun x => ⟨fun h => (by obtain ⟨k, hk, _⟩ := h; cases hk), fun _ => rfl⟩
theorem Lay.skip {md : Int} {L : List I3} {f g : Int → Option Int} {k : I3} (h : Lay md L f g) (hk : k.2.2 ≠ md) : Lay md (L ++ [k]) f g := fun x => by
  have e : (∃ q ∈ L ++ [k], q.2.2 = md ∧ hasB (q.1, q.2.1) x) ↔ ∃ q ∈ L, q.2.2 = md ∧ hasB (q.1, q.2.1) x := by
    constructor
    · rintro ⟨q, hq, h1, h2⟩
      rcases List.mem_append.1 hq with hq | hq
      · exact ⟨q, hq, h1, h2⟩
      · simp only [List.mem_cons, List.not_mem_nil, or_false] at hq; subst hq; exact absurd h1 hk
    · rintro ⟨q, hq, h1⟩; exact ⟨q, List.mem_append_left _ hq, h1⟩
  rw [e]; exact h x
theorem Lay.put {md : Int} {L : List I3} {f g g' : Int → Option Int} {k : I3} (h : Lay md L f g) (hk : k.2.2 = md) (hg : ∀ x, g' x = if hasB (k.1, k.2.1) x then some md else g x) : Lay md (L ++ [k]) f g' := fun x => by
  refine ⟨fun ⟨q, hq, h1, h2⟩ => ?_, fun hn => ?_⟩
  · rw [hg]
    by_cases hx : hasB (k.1, k.2.1) x
    · rw [if_pos hx]
    · rw [if_neg hx]
      rcases List.mem_append.1 hq with hq | hq
      · exact (h x).1 ⟨q, hq, h1, h2⟩
      · simp only [List.mem_cons, List.not_mem_nil, or_false] at hq; subst hq; exact absurd h2 hx
  · rw [hg, if_neg fun hx => hn ⟨k, by simp, hk, hx⟩]
    exact (h x).2 fun ⟨q, hq, h1⟩ => hn ⟨q, List.mem_append_left _ hq, h1⟩
def SpN (L : List I3) : Nat → (Int → Option Int) → Prop
  | 0, g => ∀ x, g x = none
  | j + 1, g => ∃ f, SpN L j f ∧ Lay ((j + 1 : Nat) : Int) L f g
theorem SpN_ask {L : List I3} {g : Int → Option Int} (h : SpN L 2 g) (x : Int) : g x = askF L x := by
  obtain ⟨f1, ⟨f0, h0, l1⟩, l2⟩ := h
  refine askIs_unique (L := L) (L' := L) (x := x) (fun _ => Iff.rfl) ?_ (askF_is L x)
  by_cases h2 : ∃ k ∈ L, k.2.2 = ((2 : Nat) : Int) ∧ hasB (k.1, k.2.1) x
  · rw [(l2 x).1 h2]
    obtain ⟨k, hk, h3, h4⟩ := h2
    refine ⟨⟨k, hk, ⟨.inr h3, h4⟩, h3⟩, fun q hq hon => ?_⟩
    have := hon.1
    unfold isM at this
    show q.2.2 ≤ (2 : Int)
    rcases this with h5 | h5 <;> rw [h5] <;> decide
  · rw [(l2 x).2 h2]
    by_cases h1 : ∃ k ∈ L, k.2.2 = ((1 : Nat) : Int) ∧ hasB (k.1, k.2.1) x
    · rw [(l1 x).1 h1]
      obtain ⟨k, hk, h3, h4⟩ := h1
      refine ⟨⟨k, hk, ⟨.inl h3, h4⟩, h3⟩, fun q hq hon => ?_⟩
      have h5 := hon.1
      unfold isM at h5
      rcases h5 with h5 | h5
      · omega
      · exact absurd ⟨q, hq, h5, hon.2⟩ h2
    · rw [(l1 x).2 h1, h0]
      intro q hq hon
      have h5 := hon.1
      unfold isM at h5
      rcases h5 with h5 | h5
      · exact h1 ⟨q, hq, h5, hon.2⟩
      · exact h2 ⟨q, hq, h5, hon.2⟩
section
variable {w : World} {Q : Value → World → Prop} {l : List (Pt Int)} {v : Value} {m : Nat}
def ChgN (l : List (Pt Int)) (n : Nat) : Prop := ∃ E, Chg (valB l) E ∧ E.length ≤ n
theorem ChgN.nil : ChgN [] 0 := ⟨[], fun x hx => absurd rfl hx, Nat.le_refl _⟩
theorem ChgN.len {n : Nat} (h : ChgN l n) (hc : Canon l) : l.length ≤ n := by
  obtain ⟨E, h1, h2⟩ := h
  exact Nat.le_trans (chg_len hc h1) h2
theorem ChgN.put {n : Nat} {s : Sp} {u : Int} {l' : List (Pt Int)} (h : ChgN l n) (hv : ∀ x, valB l' x = if hasB s x then some u else valB l x) : ChgN l' (n + 2) := by
  obtain ⟨E, h1, h2⟩ := h
  exact ⟨_, chg_upd (s := s) (g := fun _ => some u) h1 hv, by simp; omega⟩
theorem rnorm_c {L : List I3} (h : Rd 3 w v L.length (flat enc3 L)) (hL : L.length ≤ 100)
    (hq : ∀ w' v' l', RM w' (siz w) v' l' → Canon l' → (∀ x, valB l' x = askF L x) → l'.length ≤ 1000 → Keep (fun _ => False) w w' → Q v' w') :
    callS Tryz.prog 71 #[v] Q w := by
  refine ref71 ?_
  unfold S71
  obtain ⟨pa, ca, rfl⟩ := h.form
  refine lp2 (fun mm x y w' => Keep (fun _ => False) w w' ∧ ∃ (j : Nat) (lj : List (Pt Int)), y = .int .i64 ((j + 1 : Nat) : Int) ∧ j ≤ 2 ∧ mm = 2 - j ∧ RM w' (siz w) x lj ∧ Canon lj ∧ SpN L j (valB lj) ∧ ChgN lj (2 * (j * L.length))) 2
    ⟨Keep.refl _ _, 0, [], rfl, by omega, rfl, Own.nil _ _ _ _, Canon.nil, fun x => rfl, by simpa using ChgN.nil⟩ ?_
  rintro mm x y w1 ⟨k1, j, lj, rfl, hj, rfl, o1, hc1, hsp1, hch1⟩ J hJ _
  have s1 := k1.size
  have hwj := wrap_succ (i := j + 1) (by omega)
  have hjL : j * L.length ≤ 2 * L.length := Nat.mul_le_mul_right _ hj
  by_cases hjt : j < 2
  · have hjt' : ((j + 1 : Nat) : Int) ≤ 2 := by omega
    simp only [stp, Nat.reduceAdd, Int.reduceLT, Int.reduceLE, Int.reduceEq, Int.reduceNe, ne_eq, bne_self_eq_false, beq_self_eq_true, hjt']
    refine lp2 (fun mm x y w' => Keep (fun _ => False) w w' ∧ ∃ (i : Nat) (li : List (Pt Int)), y = .int .i64 (i : Int) ∧ i ≤ L.length ∧ mm = L.length - i ∧ RM w' (siz w) x li ∧ Canon li ∧ Lay ((j + 1 : Nat) : Int) (L.take i) (valB lj) (valB li) ∧ ChgN li (2 * (j * L.length) + 2 * i)) L.length
      ⟨k1, 0, lj, rfl, Nat.zero_le _, by omega, o1, hc1, Lay.nil, hch1⟩ ?_
    rintro mm x y w2 ⟨k2, i, li, rfl, hi, rfl, o2, hc2, hlay, hch2⟩ J' hJ' _
    have s2 := k2.size
    have hwi := wrap_succ (i := i) (by omega)
    have hlen2 := hch2.len hc2
    by_cases hlt : i < L.length
    · have hlt' : ((i : Int) < (L.length : Int)) := by omega
      have hsi : L[i]? = some L[i] := List.getElem?_eq_getElem hlt
      have hT : L.take (i + 1) = L.take i ++ [L[i]] := by rw [List.take_add_one, hsi]; rfl
      obtain ⟨g, o, c', e, _, hcel⟩ := (h.keep0 k2).at (by omega)
      injection e with e1 _ e2
      subst e1 e2
      obtain ⟨c0, c1, c2⟩ := locks_at hcel hsi
      simp only [stp, Nat.reduceAdd, Int.reduceLT, Int.reduceLE, Int.reduceEq, Int.reduceNe, ne_eq, bne_self_eq_false, beq_self_eq_true, hlt']
      refine jn1 (fun x' w' => Keep (fun _ => False) w w' ∧ ∃ li' : List (Pt Int), RM w' (siz w) x' li' ∧ Canon li' ∧ Lay ((j + 1 : Nat) : Int) (L.take (i + 1)) (valB lj) (valB li') ∧ ChgN li' (2 * (j * L.length) + 2 * (i + 1))) (fun J2 hJ2 => ?_) ?_
      · rw [ix_109 hlt]
        by_cases hmd : L[i].2.2 = ((j + 1 : Nat) : Int)
        · simp only [stp, Nat.reduceAdd, Int.reduceLT, Int.reduceLE, Int.reduceEq, Int.reduceNe, ne_eq, bne_self_eq_false, beq_self_eq_true, stm, c2, hmd]
          rw [ix_109 hlt]
          simp only [stp, Nat.reduceAdd, Int.reduceLT, Int.reduceLE, Int.reduceEq, Int.reduceNe, ne_eq, bne_self_eq_false, beq_self_eq_true, stm, c0, c1]
          refine rset_c o2 s2 hc2 (by omega) fun w3 v3 l3 o3 hc3 hv3 k3 => ?_
          refine hJ2 _ _ ⟨k2.trans k3, l3, o3, hc3, ?_, ?_⟩
          · rw [hT]; exact hlay.put hmd hv3
          · exact hch2.put hv3
        · simp only [stp, Nat.reduceAdd, Int.reduceLT, Int.reduceLE, Int.reduceEq, Int.reduceNe, ne_eq, bne_self_eq_false, beq_self_eq_true, stm, c2, hmd]
          refine hJ2 _ _ ⟨k2, li, o2, hc2, ?_, ?_⟩
          · rw [hT]; exact hlay.skip hmd
          · obtain ⟨E, h1, h2⟩ := hch2; exact ⟨E, h1, by omega⟩
      · rintro x' w3 ⟨k3, l3, o3, hc3, hlay3, hch3⟩ _
        simp only [stp, Nat.reduceAdd, Int.reduceLT, Int.reduceLE, Int.reduceEq, Int.reduceNe, ne_eq, bne_self_eq_false, beq_self_eq_true, hwi]
        exact hJ' (L.length - (i + 1)) _ _ _ (by omega) ⟨k3, i + 1, l3, rfl, by omega, rfl, o3, hc3, hlay3, hch3⟩
    · have hlt' : ¬ ((i : Int) < (L.length : Int)) := by omega
      have hil : i = L.length := by omega
      rw [hil, List.take_length] at hlay
      subst hil
      simp only [stp, Nat.reduceAdd, Int.reduceLT, Int.reduceLE, Int.reduceEq, Int.reduceNe, ne_eq, bne_self_eq_false, beq_self_eq_true, hlt', hwj]
      refine hJ (2 - (j + 1)) _ _ _ (by omega) ⟨k2, j + 1, li, rfl, by omega, rfl, o2, hc2, ⟨_, hsp1, hlay⟩, ?_⟩
      have e : 2 * ((j + 1) * L.length) = 2 * (j * L.length) + 2 * L.length := by rw [Nat.succ_mul j L.length, Nat.mul_add]
      rw [e]; exact hch2
  · have hjt' : ¬ ((j + 1 : Nat) : Int) ≤ 2 := by omega
    have hj2 : j = 2 := by omega
    subst hj2
    simp only [stp, Nat.reduceAdd, Int.reduceLT, Int.reduceLE, Int.reduceEq, Int.reduceNe, ne_eq, bne_self_eq_false, beq_self_eq_true, hjt']
    exact hq _ _ lj o1 hc1 (SpN_ask hsp1) (by have := hch1.len hc1; omega) k1
end
end Go.Proofs.YtndjohbbaplekaaGreatV
