/- Ranges of blocks, and lists of them that are as few as it takes: plain, of no program. Conditions: none. -/
import Derived.Test.YtcekmdpiloegcaaGreatSort
set_option linter.unusedSimpArgs false
set_option linter.unusedVariables false
namespace Go.Sh

abbrev Sp := Int × Int
def ok (s : Sp) : Prop := 0 ≤ s.1 ∧ s.1 < s.2
instance (s : Sp) : Decidable (ok s) := by unfold ok; infer_instance
def hasB (s : Sp) (x : Int) : Prop := ok s ∧ s.1 ≤ x ∧ x < s.2
def memB (l : List Sp) (x : Int) : Prop := ∃ s ∈ l, hasB s x
def Nrm (l : List Sp) : Prop := (∀ s ∈ l, ok s) ∧ l.Pairwise (fun s t => s.2 < t.1)
def rng (s : Sp) : Prop := -9223372036854775808 ≤ s.1 ∧ s.1 ≤ 9223372036854775807 ∧ -9223372036854775808 ≤ s.2 ∧ s.2 ≤ 9223372036854775807

theorem memB_nil {x : Int} : memB [] x ↔ False := by simp [memB]
theorem memB_cons {s : Sp} {l : List Sp} {x : Int} : memB (s :: l) x ↔ hasB s x ∨ memB l x := by simp [memB]
theorem memB_append {a b : List Sp} {x : Int} : memB (a ++ b) x ↔ memB a x ∨ memB b x := by
  simp only [memB, List.mem_append]
  constructor
  · rintro ⟨s, h | h, hs⟩
    · exact .inl ⟨s, h, hs⟩
    · exact .inr ⟨s, h, hs⟩
  · rintro (⟨s, h, hs⟩ | ⟨s, h, hs⟩)
    · exact ⟨s, .inl h, hs⟩
    · exact ⟨s, .inr h, hs⟩
theorem memB_perm {a b : List Sp} (h : a.Perm b) {x : Int} : memB a x ↔ memB b x := by
  simp only [memB, h.mem_iff]
theorem memB_filter {a : List Sp} {x : Int} : memB (a.filter fun s => decide (ok s)) x ↔ memB a x := by
  simp only [memB, List.mem_filter, decide_eq_true_eq]
  constructor
  · rintro ⟨s, ⟨h, _⟩, hs⟩; exact ⟨s, h, hs⟩
  · rintro ⟨s, h, hs⟩; exact ⟨s, ⟨h, hs.1⟩, hs⟩

theorem Nrm.nil : Nrm [] := ⟨by simp, List.Pairwise.nil⟩
theorem Nrm.tail {s : Sp} {l : List Sp} (h : Nrm (s :: l)) : Nrm l := ⟨fun t ht => h.1 t (by simp [ht]), (List.pairwise_cons.1 h.2).2⟩
theorem Nrm.ok0 {s : Sp} {l : List Sp} (h : Nrm (s :: l)) : ok s := h.1 s (by simp)
theorem Nrm.behind {s : Sp} {l : List Sp} (h : Nrm (s :: l)) {x : Int} (hx : memB l x) : s.2 < x := by
  obtain ⟨t, ht, hh⟩ := hx
  have := (List.pairwise_cons.1 h.2).1 t ht
  have := hh.2.1
  omega
theorem Nrm.one {s : Sp} (h : ok s) : Nrm [s] := ⟨by simpa using h, by simp⟩

theorem nrm_unique : ∀ (a b : List Sp), Nrm a → Nrm b → (∀ x, memB a x ↔ memB b x) → a = b
  | [], [], _, _, _ => rfl
  | [], t :: b, _, hb, h => by
    have := (h t.1).2 (memB_cons.2 (.inl ⟨hb.ok0, Int.le_refl _, hb.ok0.2⟩))
    simp [memB] at this
  | s :: a, [], ha, _, h => by
    have := (h s.1).1 (memB_cons.2 (.inl ⟨ha.ok0, Int.le_refl _, ha.ok0.2⟩))
    simp [memB] at this
  | s :: a, t :: b, ha, hb, h => by
    have o1 := ha.ok0
    have o2 := hb.ok0
    have m1 := (h s.1).1 (memB_cons.2 (.inl ⟨o1, Int.le_refl _, o1.2⟩))
    have m2 := (h t.1).2 (memB_cons.2 (.inl ⟨o2, Int.le_refl _, o2.2⟩))
    have lo : ∀ {u : Sp} {l : List Sp} {x : Int}, Nrm (u :: l) → memB (u :: l) x → u.1 ≤ x := fun {u l x} hu hx => by
      rcases memB_cons.1 hx with h | h
      · exact h.2.1
      · have := hu.behind h; have := hu.ok0.2; omega
    have e1 : s.1 = t.1 := Int.le_antisymm (lo ha m2) (lo hb m1)
    have gap : ∀ {u : Sp} {l : List Sp}, Nrm (u :: l) → ¬ memB (u :: l) u.2 := fun {u l} hu hx => by
      rcases memB_cons.1 hx with h | h
      · have := h.2.2; omega
      · have := hu.behind h; omega
    have e2 : s.2 = t.2 := by
      have o1' := o1.2
      have o2' := o2.2
      rcases Int.lt_trichotomy s.2 t.2 with h1 | h1 | h1
      · exact absurd ((h s.2).2 (memB_cons.2 (.inl ⟨o2, by omega, h1⟩))) (gap ha)
      · exact h1
      · exact absurd ((h t.2).1 (memB_cons.2 (.inl ⟨o1, by omega, h1⟩))) (gap hb)
    have e : s = t := Prod.ext e1 e2
    subst e
    rw [nrm_unique a b ha.tail hb.tail fun x => ?_]
    have key : ∀ {l : List Sp}, Nrm (s :: l) → (memB l x ↔ memB (s :: l) x ∧ s.2 < x) := fun {l} hl => by
      constructor
      · intro hm; exact ⟨memB_cons.2 (.inr hm), hl.behind hm⟩
      · rintro ⟨hm, hx⟩
        rcases memB_cons.1 hm with h | h
        · have := h.2.2; omega
        · exact h
    rw [key ha, key hb, h x]

/-! ### merging -/

/-- What is done with the next range, where the list is told from its last one on. -/
def mstep (out : List Sp) (s : Sp) : List Sp :=
  match out.getLast? with
  | some t => if s.1 ≤ t.2 then out.dropLast ++ [(t.1, max t.2 s.2)] else out ++ [s]
  | none => [s]

theorem mstep_nil {s : Sp} : mstep [] s = [s] := rfl
theorem mstep_in {out : List Sp} {t s : Sp} (h : s.1 ≤ t.2) : mstep (out ++ [t]) s = out ++ [(t.1, max t.2 s.2)] := by
  simp [mstep, h]
theorem mstep_out {out : List Sp} {t s : Sp} (h : ¬ s.1 ≤ t.2) : mstep (out ++ [t]) s = out ++ [t, s] := by
  simp [mstep, h]

theorem last_cases (out : List Sp) : out = [] ∨ ∃ o t, out = o ++ [t] := by
  rcases List.eq_nil_or_concat out with h | ⟨o, t, h⟩
  · exact .inl h
  · exact .inr ⟨o, t, by rw [h, List.concat_eq_append]⟩

theorem mstep_nrm {out : List Sp} {s : Sp} (h : Nrm out) (hs : ok s) (hb : ∀ t ∈ out, t.1 ≤ s.1) : Nrm (mstep out s) ∧ (∀ x, memB (mstep out s) x ↔ memB out x ∨ hasB s x) ∧ ∀ t ∈ mstep out s, t.1 ≤ s.1 := by
  rcases last_cases out with rfl | ⟨o, t, rfl⟩
  · rw [mstep_nil]
    exact ⟨Nrm.one hs, fun x => by simp [memB], by simp⟩
  · have hok := h.1
    have hpw := h.2
    rw [List.pairwise_append] at hpw
    have ht : ok t := hok t (by simp)
    have hts := hb t (by simp)
    have hlt : ∀ u ∈ o, u.2 < t.1 := fun u hu => hpw.2.2 u hu t (by simp)
    by_cases hc : s.1 ≤ t.2
    · rw [mstep_in hc]
      refine ⟨⟨fun u hu => ?_, ?_⟩, fun x => ?_, fun u hu => ?_⟩
      · rcases List.mem_append.1 hu with hu | hu
        · exact hok u (by simp [hu])
        · simp at hu; subst hu; unfold ok at *; simp only; omega
      · rw [List.pairwise_append]
        exact ⟨hpw.1, by simp, fun u hu v hv => by simp at hv; subst hv; exact hlt u hu⟩
      · simp only [memB_append, memB_cons, memB_nil, or_false]
        have : hasB (t.1, max t.2 s.2) x ↔ hasB t x ∨ hasB s x := by
          unfold hasB ok at *; simp only; omega
        rw [this, or_assoc]
      · rcases List.mem_append.1 hu with hu | hu
        · exact hb u (by simp [hu])
        · simp at hu; subst hu; exact hts
    · rw [mstep_out hc]
      refine ⟨⟨fun u hu => ?_, ?_⟩, fun x => ?_, fun u hu => ?_⟩
      · simp only [List.mem_append, List.mem_cons, List.not_mem_nil, or_false] at hu
        rcases hu with hu | rfl | rfl
        · exact hok u (by simp [hu])
        · exact ht
        · exact hs
      · rw [List.pairwise_append]
        refine ⟨hpw.1, by simp; omega, fun u hu v hv => ?_⟩
        have h1 := hlt u hu
        have h2 := ht.2
        simp only [List.mem_cons, List.not_mem_nil, or_false] at hv
        rcases hv with rfl | rfl <;> omega
      · simp only [memB_append, memB_cons, memB_nil, or_false, or_assoc]
      · simp only [List.mem_append, List.mem_cons, List.not_mem_nil, or_false] at hu
        rcases hu with hu | rfl | rfl
        · exact hb u (by simp [hu])
        · exact hts
        · exact Int.le_refl _

def merged (l : List Sp) : List Sp := l.foldl mstep []

theorem merged_spec : ∀ (l out : List Sp), Nrm out → (∀ s ∈ l, ok s) → l.Pairwise (fun s t => s.1 ≤ t.1) → (∀ t ∈ out, ∀ s ∈ l, t.1 ≤ s.1) →
    Nrm (l.foldl mstep out) ∧ ∀ x, memB (l.foldl mstep out) x ↔ memB out x ∨ memB l x
  | [], out, h, _, _, _ => ⟨h, fun x => by simp [memB]⟩
  | s :: l, out, h, hok, hpw, hb => by
    obtain ⟨h1, h2, h3⟩ := mstep_nrm h (hok s (by simp)) (fun t ht => hb t ht s (by simp))
    obtain ⟨h4, h5⟩ := merged_spec l (mstep out s) h1 (fun t ht => hok t (by simp [ht])) (List.pairwise_cons.1 hpw).2 (fun t ht u hu => by
      have := h3 t ht
      have := (List.pairwise_cons.1 hpw).1 u hu
      omega)
    refine ⟨h4, fun x => ?_⟩
    rw [List.foldl_cons, h5, h2, memB_cons, or_assoc]

theorem mstep_len (out : List Sp) (s : Sp) : (mstep out s).length ≤ out.length + 1 := by
  rcases last_cases out with rfl | ⟨o, t, rfl⟩
  · simp [mstep]
  · by_cases hc : s.1 ≤ t.2
    · rw [mstep_in hc]; simp
    · rw [mstep_out hc]; simp

theorem foldl_len : ∀ (l out : List Sp), (l.foldl mstep out).length ≤ out.length + l.length
  | [], out => by simp
  | s :: l, out => by
    have := foldl_len l (mstep out s)
    have := mstep_len out s
    rw [List.foldl_cons, List.length_cons]; omega

/-- What a list of ranges comes to. -/
def IsNorm (l out : List Sp) : Prop := Nrm out ∧ ∀ x, memB out x ↔ memB l x

theorem IsNorm.unique {l l' a b : List Sp} (ha : IsNorm l a) (hb : IsNorm l' b) (h : ∀ x, memB l x ↔ memB l' x) : a = b :=
  nrm_unique a b ha.1 hb.1 fun x => by rw [ha.2, hb.2, h]

/-! ### what one has and the other one has not -/
def meetsB (s x : Sp) : Prop := ok s ∧ ok x ∧ ok (max s.1 x.1, min s.2 x.2)
instance (s x : Sp) : Decidable (meetsB s x) := by unfold meetsB; infer_instance
def cutS (x s : Sp) : List Sp := if meetsB s x then [(s.1, x.1), (x.2, s.2)] else [s]
def cutAll (x : Sp) (out : List Sp) : List Sp := out.flatMap (cutS x)
theorem cutS_len (x s : Sp) : (cutS x s).length ≤ 2 := by unfold cutS; split <;> simp
theorem cutAll_snoc (x : Sp) (out : List Sp) (s : Sp) : cutAll x (out ++ [s]) = cutAll x out ++ cutS x s := by simp [cutAll]
theorem cutAll_len (x : Sp) : ∀ out : List Sp, (cutAll x out).length ≤ 2 * out.length
  | [] => by simp [cutAll]
  | s :: l => by
    have h1 := cutAll_len x l
    have h2 := cutS_len x s
    rw [cutAll, List.flatMap_cons, List.length_append, List.length_cons]
    rw [cutAll] at h1
    omega
theorem cutS_mem {x s : Sp} (hs : ok s) (hx : ok x) (y : Int) : memB (cutS x s) y ↔ hasB s y ∧ ¬ hasB x y := by
  unfold cutS
  split
  · rename_i h
    obtain ⟨_, _, h⟩ := h
    simp only [memB_cons, memB_nil, or_false, hasB, ok] at *
    omega
  · rename_i h
    simp only [memB_cons, memB_nil, or_false]
    refine ⟨fun h1 => ⟨h1, fun h2 => h ⟨hs, hx, ?_⟩⟩, fun h => h.1⟩
    unfold hasB ok at *
    simp only
    omega
theorem cutAll_mem {x : Sp} (hx : ok x) : ∀ (out : List Sp), (∀ s ∈ out, ok s) → ∀ y, memB (cutAll x out) y ↔ memB out y ∧ ¬ hasB x y
  | [], _, y => by simp [cutAll, memB]
  | s :: l, h, y => by
    have h1 := cutAll_mem hx l (fun t ht => h t (by simp [ht])) y
    have h2 := cutS_mem (h s (by simp)) hx y
    rw [cutAll, List.flatMap_cons, memB_append, memB_cons, h2]
    rw [cutAll] at h1
    rw [h1]
    constructor
    · rintro (⟨h3, h4⟩ | ⟨h3, h4⟩)
      · exact ⟨.inl h3, h4⟩
      · exact ⟨.inr h3, h4⟩
    · rintro ⟨h3 | h3, h4⟩
      · exact .inl ⟨h3, h4⟩
      · exact .inr ⟨h3, h4⟩
def inner (x s : Sp) : Prop := s.1 < x.1 ∧ x.2 < s.2
theorem cutS_count {x s : Sp} : ((cutS x s).filter (fun s => decide (ok s))).length ≤ 1 ∨ (inner x s ∧ ((cutS x s).filter (fun s => decide (ok s))).length ≤ 2) := by
  unfold cutS
  split
  · by_cases h1 : ok (s.1, x.1)
    · by_cases h2 : ok (x.2, s.2)
      · exact .inr ⟨⟨h1.2, h2.2⟩, by simp [h1, h2]⟩
      · exact .inl (by simp [h1, h2])
    · by_cases h2 : ok (x.2, s.2)
      · exact .inl (by simp [h1, h2])
      · exact .inl (by simp [h1, h2])
  · by_cases h1 : ok s
    · exact .inl (by simp [h1])
    · exact .inl (by simp [h1])
theorem cutAll_count {x : Sp} (hx : ok x) : ∀ (out : List Sp), Nrm out → ((cutAll x out).filter (fun s => decide (ok s))).length ≤ out.length + 1 ∧ ((∀ s ∈ out, ¬ inner x s) → ((cutAll x out).filter (fun s => decide (ok s))).length ≤ out.length)
  | [], _ => by simp [cutAll]
  | s :: l, h => by
    obtain ⟨h1, h2⟩ := cutAll_count hx l h.tail
    have hf : ((cutAll x (s :: l)).filter (fun s => decide (ok s))).length = ((cutS x s).filter (fun s => decide (ok s))).length + ((cutAll x l).filter (fun s => decide (ok s))).length := by
      rw [cutAll, List.flatMap_cons, List.filter_append, List.length_append]; rfl
    rw [hf, List.length_cons]
    rcases @cutS_count x s with h3 | ⟨h3, h4⟩
    · refine ⟨by omega, fun h5 => ?_⟩
      have := h2 fun t ht => h5 t (by simp [ht])
      omega
    · have h5 : ∀ t ∈ l, ¬ inner x t := fun t ht h6 => by
        have := (List.pairwise_cons.1 h.2).1 t ht
        have := h3.2
        have := h6.1
        have := hx.2
        omega
      have := h2 h5
      exact ⟨by omega, fun h6 => absurd h3 (h6 s (by simp))⟩

/-! ### the order of ranges -/
def cmpI (a b : Int) : Int := if a < b then -1 else if b < a then 1 else 0
def cmpS (s t : Sp) : Int := if cmpI s.1 t.1 ≠ 0 then cmpI s.1 t.1 else cmpI s.2 t.2
theorem lt_cmpS (s t : Sp) : Go.Proofs.ltOf cmpS s t = decide (s.1 < t.1 ∨ (s.1 = t.1 ∧ s.2 < t.2)) := by
  unfold Go.Proofs.ltOf cmpS cmpI
  rcases Int.lt_trichotomy s.1 t.1 with h | h | h
  · simp [h]
  · have h1 : ¬ s.1 < t.1 := by omega
    have h2 : ¬ t.1 < s.1 := by omega
    rcases Int.lt_trichotomy s.2 t.2 with h3 | h3 | h3
    · simp [h, h3]
    · simp [h, h3]
    · have h4 : ¬ s.2 < t.2 := by omega
      simp [h, h3, h4]
  · have h1 : ¬ s.1 < t.1 := by omega
    have h2 : ¬ s.1 = t.1 := by omega
    simp [h, h1, h2]
theorem swo_cmpS : Go.Sort.SWO (Go.Proofs.ltOf cmpS) where
  irrefl x := by rw [lt_cmpS]; simp
  trans x y z h1 h2 := by rw [lt_cmpS] at *; simp at *; omega
  ntrans x y z h1 h2 := by rw [lt_cmpS] at *; simp at *; omega
theorem cmpS_le {s t : Sp} (h : ¬ cmpS t s < 0) : s.1 ≤ t.1 := by
  have := lt_cmpS t s
  unfold Go.Proofs.ltOf at this
  rw [decide_eq_false h] at this
  simp at this
  omega
instance (s : Sp) (x : Int) : Decidable (hasB s x) := by unfold hasB; infer_instance
instance (l : List Sp) (x : Int) : Decidable (memB l x) := by unfold memB; infer_instance
theorem memB_take {l : List Sp} {i : Nat} {s : Sp} (h : l[i]? = some s) {x : Int} : memB (l.take (i + 1)) x ↔ memB (l.take i) x ∨ hasB s x := by
  rw [List.take_add_one, h, memB_append]
  simp [memB]
theorem Nrm.rise {l : List Sp} (h : Nrm l) {i : Nat} {s t : Sp} (hs : l[i]? = some s) (ht : l[i + 1]? = some t) : s.2 < t.1 := by
  obtain ⟨h1, e1⟩ := List.getElem?_eq_some_iff.1 hs
  obtain ⟨h2, e2⟩ := List.getElem?_eq_some_iff.1 ht
  have := List.pairwise_iff_getElem.1 h.2 i (i + 1) h1 h2 (by omega)
  rwa [e1, e2] at this
end Go.Sh
