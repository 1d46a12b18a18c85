/- Maps of blocks: parts that rise, of which no two neighbours are alike: plain, of no program. Conditions: none. -/
import Derived.Test.YtcekmdpiloegcaaGreatSpanX
set_option linter.unusedSimpArgs false
set_option linter.unusedVariables false
set_option linter.unusedVariables false
set_option linter.unusedSectionVars false
namespace Go.Sh

section
variable {V : Type} [DecidableEq V]
/-- A range and its value. -/
abbrev Pt (V : Type) := Sp × V
def valB : List (Pt V) → Int → Option V
  | [], _ => none
  | p :: l, x => if hasB p.1 x then some p.2 else valB l x
/-- Ranges that can be, none of which has a block of another one. -/
def Apart (l : List (Pt V)) : Prop := (∀ p ∈ l, ok p.1) ∧ l.Pairwise (fun p q => ∀ x, ¬ (hasB p.1 x ∧ hasB q.1 x))
def nextOk (p q : Pt V) : Prop := p.1.2 < q.1.1 ∨ (p.1.2 = q.1.1 ∧ p.2 ≠ q.2)
def Canon (l : List (Pt V)) : Prop := (∀ p ∈ l, ok p.1) ∧ l.Pairwise nextOk

theorem valB_cons {p : Pt V} {l : List (Pt V)} {x : Int} : valB (p :: l) x = if hasB p.1 x then some p.2 else valB l x := rfl
theorem valB_some {l : List (Pt V)} {x : Int} {v : V} (h : valB l x = some v) : ∃ p ∈ l, hasB p.1 x ∧ p.2 = v := by
  induction l with
  | nil => cases h
  | cons p l ih =>
    unfold valB at h
    split at h
    · rename_i hp; exact ⟨p, by simp, hp, by simpa using h⟩
    · obtain ⟨q, hq, h1, h2⟩ := ih h; exact ⟨q, by simp [hq], h1, h2⟩
theorem valB_none {l : List (Pt V)} {x : Int} : valB l x = none ↔ ∀ p ∈ l, ¬ hasB p.1 x := by
  induction l with
  | nil => simp [valB]
  | cons p l ih =>
    unfold valB
    split
    · rename_i hp; simp [hp]
    · rename_i hp; simp [hp, ih]
theorem valB_mem {l : List (Pt V)} (h : Apart l) {p : Pt V} (hp : p ∈ l) {x : Int} (hx : hasB p.1 x) : valB l x = some p.2 := by
  induction l with
  | nil => cases hp
  | cons q l ih =>
    unfold valB
    rcases List.mem_cons.1 hp with rfl | hp
    · rw [if_pos hx]
    · rw [if_neg (fun hq => (List.pairwise_cons.1 h.2).1 p hp x ⟨hq, hx⟩)]
      exact ih ⟨fun r hr => h.1 r (by simp [hr]), (List.pairwise_cons.1 h.2).2⟩ hp
theorem valB_append {a b : List (Pt V)} {x : Int} : valB (a ++ b) x = (valB a x).or (valB b x) := by
  induction a with
  | nil => simp [valB]
  | cons p a ih =>
    rw [List.cons_append, valB_cons, valB_cons]
    split
    · rfl
    · exact ih
theorem valB_perm {a b : List (Pt V)} (ha : Apart a) (hp : b.Perm a) (hb : Apart b) (x : Int) : valB b x = valB a x := by
  cases h : valB a x with
  | none => rw [valB_none] at h ⊢; exact fun p hpb => h p (hp.mem_iff.1 hpb)
  | some v =>
    obtain ⟨p, h1, h2, h3⟩ := valB_some h
    rw [← h3]
    exact valB_mem hb (hp.mem_iff.2 h1) h2
theorem Apart.perm {a b : List (Pt V)} (ha : Apart a) (hp : b.Perm a) : Apart b :=
  ⟨fun p hpb => ha.1 p (hp.mem_iff.1 hpb), (hp.pairwise_iff (fun {x y} h z hz => h z ⟨hz.2, hz.1⟩)).2 ha.2⟩
theorem Canon.apart {l : List (Pt V)} (h : Canon l) : Apart l := by
  refine ⟨h.1, h.2.imp fun {p q} hn x hx => ?_⟩
  have h1 := hx.1.2.2
  have h2 := hx.2.2.1
  rcases hn with hn | hn <;> omega
theorem Canon.nil : Canon ([] : List (Pt V)) := ⟨by simp, List.Pairwise.nil⟩
theorem Canon.tail {p : Pt V} {l : List (Pt V)} (h : Canon (p :: l)) : Canon l := ⟨fun q hq => h.1 q (by simp [hq]), (List.pairwise_cons.1 h.2).2⟩
theorem Canon.behind {p : Pt V} {l : List (Pt V)} (h : Canon (p :: l)) {x : Int} {v : V} (hx : valB l x = some v) : p.1.2 ≤ x := by
  obtain ⟨q, hq, h1, _⟩ := valB_some hx
  have := (List.pairwise_cons.1 h.2).1 q hq
  have := h1.2.1
  rcases ‹nextOk p q› with hn | hn <;> omega
theorem Canon.at {p : Pt V} {l : List (Pt V)} (h : Canon (p :: l)) : valB l p.1.2 ≠ some p.2 := fun hx => by
  obtain ⟨q, hq, h1, h2⟩ := valB_some hx
  rcases (List.pairwise_cons.1 h.2).1 q hq with hn | hn
  · have := h1.2.1; omega
  · exact hn.2 h2.symm

theorem canon_unique : ∀ (a b : List (Pt V)), Canon a → Canon b → (∀ x, valB a x = valB b x) → a = b
  | [], [], _, _, _ => rfl
  | [], q :: b, _, hb, h => by
    have o := hb.1 q (by simp)
    have h1 := h q.1.1
    rw [valB_mem hb.apart (p := q) (by simp) ⟨o, Int.le_refl _, o.2⟩] at h1
    cases h1
  | p :: a, [], ha, _, h => by
    have o := ha.1 p (by simp)
    have h1 := h p.1.1
    rw [valB_mem ha.apart (p := p) (by simp) ⟨o, Int.le_refl _, o.2⟩] at h1
    cases h1
  | p :: a, q :: b, ha, hb, h => by
    have o1 := ha.1 p (by simp)
    have o2 := hb.1 q (by simp)
    have inn : ∀ {r : Pt V} {l : List (Pt V)} {x : Int}, hasB r.1 x → valB (r :: l) x = some r.2 := fun {r l x} hr => by unfold valB; rw [if_pos hr]
    have out : ∀ {r : Pt V} {l : List (Pt V)} {x : Int}, ¬ hasB r.1 x → valB (r :: l) x = valB l x := fun {r l x} hr => by
      show (if hasB r.1 x then some r.2 else valB l x) = _
      rw [if_neg hr]
    have lo : ∀ {r : Pt V} {l : List (Pt V)} {x : Int} {v : V}, Canon (r :: l) → valB (r :: l) x = some v → r.1.1 ≤ x := fun {r l x v} hr hx => by
      by_cases h1 : hasB r.1 x
      · exact h1.2.1
      · rw [out h1] at hx
        have := hr.behind hx
        have := (hr.1 r (by simp)).2
        omega
    have f1 := inn (l := a) (r := p) ⟨o1, Int.le_refl _, o1.2⟩
    have f2 := inn (l := b) (r := q) ⟨o2, Int.le_refl _, o2.2⟩
    have e1 : p.1.1 = q.1.1 := Int.le_antisymm (lo ha (by rw [h]; exact f2)) (lo hb (by rw [← h]; exact f1))
    have ev : p.2 = q.2 := by
      have := h p.1.1
      rw [f1, e1, f2] at this
      exact Option.some.inj this
    have e2 : p.1.2 = q.1.2 := by
      have o1' := o1.2
      have o2' := o2.2
      rcases Int.lt_trichotomy p.1.2 q.1.2 with h1 | h1 | h1
      · exfalso
        have h2 := h p.1.2
        rw [inn (l := b) (r := q) ⟨o2, by omega, h1⟩, out (fun hh => by have := hh.2.2; omega), ← ev] at h2
        exact ha.at h2
      · exact h1
      · exfalso
        have h2 := h q.1.2
        rw [inn (l := a) (r := p) ⟨o1, by omega, h1⟩, out (fun hh => by have := hh.2.2; omega), ev] at h2
        exact hb.at h2.symm
    have e : p = q := Prod.ext (Prod.ext e1 e2) ev
    subst e
    rw [canon_unique a b ha.tail hb.tail fun x => ?_]
    by_cases hx : hasB p.1 x
    · have n : ∀ {l : List (Pt V)}, Canon (p :: l) → valB l x = none := fun {l} hl => by
        cases hv : valB l x with
        | none => rfl
        | some v => have := hl.behind hv; have := hx.2.2; omega
      rw [n ha, n hb]
    · have := h x
      rwa [out hx, out hx] at this

/-! ### laying -/
def mstepP (out : List (Pt V)) (p : Pt V) : List (Pt V) :=
  match out.getLast? with
  | some t => if t.1.2 = p.1.1 ∧ t.2 = p.2 then out.dropLast ++ [((t.1.1, p.1.2), t.2)] else out ++ [p]
  | none => [p]
theorem mstepP_nil {p : Pt V} : mstepP [] p = [p] := rfl
theorem mstepP_in {out : List (Pt V)} {t p : Pt V} (h : t.1.2 = p.1.1 ∧ t.2 = p.2) : mstepP (out ++ [t]) p = out ++ [((t.1.1, p.1.2), t.2)] := by
  simp [mstepP, h]
theorem mstepP_out {out : List (Pt V)} {t p : Pt V} (h : ¬ (t.1.2 = p.1.1 ∧ t.2 = p.2)) : mstepP (out ++ [t]) p = out ++ [t, p] := by
  simp [mstepP, h]
theorem lastP_cases (out : List (Pt V)) : out = [] ∨ ∃ o t, out = o ++ [t] := by
  rcases List.eq_nil_or_concat out with h | ⟨o, t, h⟩
  · exact .inl h
  · exact .inr ⟨o, t, by rw [h, List.concat_eq_append]⟩
theorem mstepP_len (out : List (Pt V)) (p : Pt V) : (mstepP out p).length ≤ out.length + 1 := by
  rcases lastP_cases out with rfl | ⟨o, t, rfl⟩
  · simp [mstepP]
  · by_cases hc : t.1.2 = p.1.1 ∧ t.2 = p.2
    · rw [mstepP_in hc]; simp
    · rw [mstepP_out hc]; simp
theorem foldlP_len : ∀ (l out : List (Pt V)), (l.foldl mstepP out).length ≤ out.length + l.length
  | [], out => by simp
  | s :: l, out => by
    have := foldlP_len l (mstepP out s)
    have := mstepP_len out s
    rw [List.foldl_cons, List.length_cons]; omega
theorem mstepP_canon {out : List (Pt V)} {p : Pt V} (h : Canon out) (hp : ok p.1) (hb : ∀ t ∈ out, t.1.2 ≤ p.1.1) : Canon (mstepP out p) ∧ (∀ x, valB (mstepP out p) x = (valB out x).or (valB [p] x)) ∧ ∀ t ∈ mstepP out p, t.1.2 ≤ p.1.2 := by
  have hp2 := hp.2
  rcases lastP_cases out with rfl | ⟨o, t, rfl⟩
  · rw [mstepP_nil]
    exact ⟨⟨by simpa using hp, by simp⟩, fun x => by simp [valB], by simp⟩
  · have hok := h.1
    have hpw := h.2
    rw [List.pairwise_append] at hpw
    have ht : ok t.1 := hok t (by simp)
    have hts := hb t (by simp)
    have hlt : ∀ u ∈ o, nextOk u t := fun u hu => hpw.2.2 u hu t (by simp)
    by_cases hc : t.1.2 = p.1.1 ∧ t.2 = p.2
    · rw [mstepP_in hc]
      refine ⟨⟨fun u hu => ?_, ?_⟩, fun x => ?_, fun u hu => ?_⟩
      · rcases List.mem_append.1 hu with hu | hu
        · exact hok u (by simp [hu])
        · simp at hu; subst hu; unfold ok at *; simp only; omega
      · rw [List.pairwise_append]
        exact ⟨hpw.1, by simp, fun u hu v hv => by simp at hv; subst hv; exact hlt u hu⟩
      · rw [valB_append, valB_append, Option.or_assoc]
        congr 1
        unfold valB valB
        have : hasB (t.1.1, p.1.2) x ↔ hasB t.1 x ∨ hasB p.1 x := by
          unfold hasB ok at *; simp only; omega
        by_cases h1 : hasB t.1 x
        · simp [this, h1]
        · by_cases h2 : hasB p.1 x
          · simp [this, h1, h2, hc.2]
          · simp [this, h1, h2]
      · rcases List.mem_append.1 hu with hu | hu
        · have := hb u (by simp [hu]); omega
        · simp at hu; subst hu; simp
    · rw [mstepP_out hc]
      refine ⟨⟨fun u hu => ?_, ?_⟩, fun x => ?_, fun u hu => ?_⟩
      · simp only [List.mem_append, List.mem_cons, List.not_mem_nil, or_false] at hu
        rcases hu with hu | rfl | rfl
        · exact hok u (by simp [hu])
        · exact ht
        · exact hp
      · have htp : nextOk t p := by
          unfold nextOk
          by_cases h1 : t.1.2 = p.1.1
          · exact .inr ⟨h1, fun h2 => hc ⟨h1, h2⟩⟩
          · exact .inl (by omega)
        rw [List.pairwise_append]
        refine ⟨hpw.1, by simpa using htp, fun u hu v hv => ?_⟩
        have h1 := hlt u hu
        have h2 := ht.2
        simp only [List.mem_cons, List.not_mem_nil, or_false] at hv
        rcases hv with rfl | rfl
        · exact h1
        · unfold nextOk at h1 ⊢
          left
          rcases h1 with h1 | h1 <;> omega
      · rw [show o ++ [t, p] = (o ++ [t]) ++ [p] by simp, valB_append]
      · simp only [List.mem_append, List.mem_cons, List.not_mem_nil, or_false] at hu
        rcases hu with hu | rfl | rfl
        · have := hb u (by simp [hu]); omega
        · omega
        · exact Int.le_refl _
theorem laid_spec : ∀ (l out : List (Pt V)), Canon out → (∀ p ∈ l, ok p.1) → l.Pairwise (fun p q => p.1.2 ≤ q.1.1) → (∀ t ∈ out, ∀ p ∈ l, t.1.2 ≤ p.1.1) →
    Canon (l.foldl mstepP out) ∧ ∀ x, valB (l.foldl mstepP out) x = (valB out x).or (valB l x)
  | [], out, h, _, _, _ => ⟨h, fun x => by simp [valB]⟩
  | p :: l, out, h, hok, hpw, hb => by
    have hpo := hok p (by simp)
    obtain ⟨h1, h2, h3⟩ := mstepP_canon h hpo (fun t ht => hb t ht p (by simp))
    obtain ⟨h4, h5⟩ := laid_spec l (mstepP out p) h1 (fun t ht => hok t (by simp [ht])) (List.pairwise_cons.1 hpw).2 (fun t ht u hu => by
      have := h3 t ht
      have := (List.pairwise_cons.1 hpw).1 u hu
      omega)
    refine ⟨h4, fun x => ?_⟩
    rw [List.foldl_cons, h5, h2, Option.or_assoc]
    congr 1
    show (valB [p] x).or (valB l x) = valB (p :: l) x
    rw [← valB_append]; rfl
/-- Parts that stand apart, sorted by where they begin: each ends ahead of the next one. -/
theorem sorted_ends {l : List (Pt V)} (h : Apart l) (hs : l.Pairwise (fun p q => p.1.1 ≤ q.1.1)) : l.Pairwise (fun p q => p.1.2 ≤ q.1.1) := by
  induction l with
  | nil => exact List.Pairwise.nil
  | cons p l ih =>
    obtain ⟨s1, s2⟩ := List.pairwise_cons.1 hs
    obtain ⟨a1, a2⟩ := List.pairwise_cons.1 h.2
    refine List.pairwise_cons.2 ⟨fun q hq => ?_, ih ⟨fun r hr => h.1 r (by simp [hr]), a2⟩ s2⟩
    have h1 := s1 q hq
    have h2 := a1 q hq q.1.1
    have h3 := h.1 q (by simp [hq])
    have h4 := h.1 p (by simp)
    rcases Int.lt_or_le q.1.1 p.1.2 with hlt | hle
    · exact absurd ⟨⟨h4, h1, hlt⟩, ⟨h3, Int.le_refl _, h3.2⟩⟩ h2
    · exact hle

/-! ### what lies outside of a range -/
/-- The pieces of a part, each with its value. -/
def pieces (O : List Sp) (v : V) : List (Pt V) := O.map fun s => (s, v)
theorem valB_pieces {O : List Sp} {v : V} {x : Int} : valB (pieces O v) x = if memB O x then some v else none := by
  induction O with
  | nil => simp [pieces, valB, memB]
  | cons s O ih =>
    show (if hasB s x then some v else valB (pieces O v) x) = _
    rw [ih]
    by_cases h : hasB s x
    · simp [h, memB_cons]
    · simp [h, memB_cons]
/-- L is what is left of l outside of s. -/
structure Outside (l : List (Pt V)) (s : Sp) (L : List (Pt V)) : Prop where
  apart : Apart L
  val : ∀ x, valB L x = if hasB s x then none else valB l x
  sub : ∀ q ∈ L, ∀ x, hasB q.1 x → ∃ p ∈ l, hasB p.1 x
theorem Outside.nil (s : Sp) : Outside ([] : List (Pt V)) s [] := ⟨⟨by simp, List.Pairwise.nil⟩, fun x => by simp [valB], by simp⟩
theorem Outside.snoc {l : List (Pt V)} {s : Sp} {L : List (Pt V)} {p : Pt V} {O : List Sp} (h : Outside l s L) (hl : Apart (l ++ [p])) (hO : Nrm O) (hm : ∀ x, memB O x ↔ hasB p.1 x ∧ ¬ hasB s x) : Outside (l ++ [p]) s (L ++ pieces O p.2) := by
  have hsub : ∀ q ∈ pieces O p.2, ∀ x, hasB q.1 x → hasB p.1 x ∧ ¬ hasB s x := fun q hq x hx => by
    obtain ⟨t, ht, rfl⟩ := List.mem_map.1 hq
    exact (hm x).1 ⟨t, ht, hx⟩
  have hpl : ∀ r ∈ l, ∀ x, ¬ (hasB r.1 x ∧ hasB p.1 x) := fun r hr x => (List.pairwise_append.1 hl.2).2.2 r hr p (by simp) x
  refine ⟨⟨fun q hq => ?_, ?_⟩, fun x => ?_, fun q hq x hx => ?_⟩
  · rcases List.mem_append.1 hq with hq | hq
    · exact h.apart.1 q hq
    · obtain ⟨t, ht, rfl⟩ := List.mem_map.1 hq; exact hO.1 t ht
  · rw [List.pairwise_append]
    refine ⟨h.apart.2, ?_, fun q hq r hr x hx => ?_⟩
    · refine List.pairwise_map.2 (hO.2.imp fun {a b} hab x hx => ?_)
      have h1 := hx.1.2.2
      have h2 := hx.2.2.1
      simp only at h1 h2
      omega
    · obtain ⟨t, ht, h1⟩ := h.sub q hq x hx.1
      exact hpl t ht x ⟨h1, (hsub r hr x hx.2).1⟩
  · rw [valB_append, valB_append, h.val, valB_pieces]
    by_cases hs : hasB s x
    · have : ¬ memB O x := fun hh => ((hm x).1 hh).2 hs
      simp [hs, this]
    · simp only [hs, if_false]
      congr 1
      show _ = if hasB p.1 x then some p.2 else none
      have := hm x
      by_cases hp : hasB p.1 x
      · simp [this, hp, hs]
      · simp [this, hp]
  · rcases List.mem_append.1 hq with hq | hq
    · obtain ⟨t, ht, h1⟩ := h.sub q hq x hx
      exact ⟨t, by simp [ht], h1⟩
    · exact ⟨p, by simp, (hsub q hq x hx).1⟩
theorem Outside.put {l : List (Pt V)} {s : Sp} {L : List (Pt V)} (h : Outside l s L) (hs : ok s) (v : V) : Apart (L ++ [(s, v)]) ∧ ∀ x, valB (L ++ [(s, v)]) x = if hasB s x then some v else valB l x := by
  refine ⟨⟨fun q hq => ?_, ?_⟩, fun x => ?_⟩
  · rcases List.mem_append.1 hq with hq | hq
    · exact h.apart.1 q hq
    · simp at hq; subst hq; exact hs
  · rw [List.pairwise_append]
    refine ⟨h.apart.2, by simp, fun q hq r hr x hx => ?_⟩
    simp at hr
    subst hr
    have := valB_mem h.apart hq hx.1
    rw [h.val, if_pos hx.2] at this
    cases this
  · rw [valB_append, h.val]
    by_cases hx : hasB s x
    · simp [hx, valB]
    · simp [hx, valB]
/-! ### the pieces, as they are made -/
theorem cutN {s p : Sp} (hs : ok s) (hp : ok p) : Nrm ((cutS s p).filter fun t => decide (ok t)) ∧ ∀ x, memB ((cutS s p).filter fun t => decide (ok t)) x ↔ hasB p x ∧ ¬ hasB s x := by
  refine ⟨⟨fun t ht => of_decide_eq_true (List.mem_filter.1 ht).2, ?_⟩, fun x => by rw [memB_filter]; exact cutS_mem hp hs x⟩
  refine List.Pairwise.filter _ ?_
  unfold cutS
  split
  · simp; exact hs.2
  · simp
def cutV (s : Sp) (p : Pt V) : List (Pt V) := pieces ((cutS s p.1).filter fun t => decide (ok t)) p.2
def outL (s : Sp) (l : List (Pt V)) : List (Pt V) := l.flatMap (cutV s)
theorem outL_snoc (s : Sp) (l : List (Pt V)) (p : Pt V) : outL s (l ++ [p]) = outL s l ++ cutV s p := by simp [outL]
theorem outL_cons (s : Sp) (l : List (Pt V)) (p : Pt V) : outL s (p :: l) = cutV s p ++ outL s l := by simp [outL]
theorem cutV_len (s : Sp) (p : Pt V) : (cutV s p).length = ((cutS s p.1).filter fun t => decide (ok t)).length := by simp [cutV, pieces]
theorem outL_outside {s : Sp} (hs : ok s) (l : List (Pt V)) (h : Apart l) : Outside l s (outL s l) := by
  have key : ∀ i, i ≤ l.length → Outside (l.take i) s (outL s (l.take i)) := by
    intro i
    induction i with
    | zero => intro _; simp only [List.take_zero]; exact Outside.nil s
    | succ i ih =>
      intro hi
      have hsi : l[i]? = some l[i] := List.getElem?_eq_getElem (by omega)
      rw [List.take_add_one, hsi, Option.toList_some, outL_snoc]
      have ha : Apart (l.take i ++ [l[i]]) := by
        have : l.take i ++ [l[i]] = l.take (i + 1) := by rw [List.take_add_one, hsi]; rfl
        rw [this]
        exact ⟨fun p hp => h.1 p (List.mem_of_mem_take hp), h.2.sublist (List.take_sublist _ _)⟩
      obtain ⟨n1, n2⟩ := cutN hs (h.1 l[i] (List.getElem_mem _))
      exact (ih (by omega)).snoc ha n1 n2
  have := key l.length (Nat.le_refl _)
  rwa [List.take_length] at this
theorem cutCount_w {x : Sp} (hx : ok x) : ∀ (out : List Sp), out.Pairwise (fun s t => s.2 ≤ t.1) → ((cutAll x out).filter (fun s => decide (ok s))).length ≤ out.length + 1 ∧ ((∀ s ∈ out, ¬ inner x s) → ((cutAll x out).filter (fun s => decide (ok s))).length ≤ out.length)
  | [], _ => by simp [cutAll]
  | s :: l, h => by
    obtain ⟨h1, h2⟩ := cutCount_w hx l (List.pairwise_cons.1 h).2
    have hf : ((cutAll x (s :: l)).filter (fun s => decide (ok s))).length = ((cutS x s).filter (fun s => decide (ok s))).length + ((cutAll x l).filter (fun s => decide (ok s))).length := by
      rw [cutAll, List.flatMap_cons, List.filter_append, List.length_append]; rfl
    rw [hf, List.length_cons]
    rcases @cutS_count x s with h3 | ⟨h3, h4⟩
    · refine ⟨by omega, fun h5 => ?_⟩
      have := h2 fun t ht => h5 t (by simp [ht])
      omega
    · have h5 : ∀ t ∈ l, ¬ inner x t := fun t ht h6 => by
        have := (List.pairwise_cons.1 h).1 t ht
        have := h3.2
        have := h6.1
        have := hx.2
        omega
      have := h2 h5
      exact ⟨by omega, fun h6 => absurd h3 (h6 s (by simp))⟩
theorem outL_len {s : Sp} (hs : ok s) {l : List (Pt V)} (h : Canon l) : (outL s l).length ≤ l.length + 1 := by
  have h1 : (outL s l).length = ((cutAll s (l.map (·.1))).filter fun t => decide (ok t)).length := by
    clear h
    induction l with
    | nil => rfl
    | cons p l ih =>
      rw [outL_cons, List.length_append, ih, cutV_len, List.map_cons, cutAll, cutAll, List.flatMap_cons, List.filter_append, List.length_append]
  have h2 : (l.map (·.1)).Pairwise (fun s t => s.2 ≤ t.1) := List.pairwise_map.2 (h.2.imp fun {p q} hn => by rcases hn with hn | hn <;> omega)
  have h3 := (cutCount_w hs _ h2).1
  rw [List.length_map] at h3
  omega
theorem outL_part (s : Sp) (l : List (Pt V)) (i : Nat) : (outL s (l.take i)).length ≤ 2 * i := by
  have h1 : ∀ l : List (Pt V), (outL s l).length ≤ 2 * l.length := by
    intro l
    induction l with
    | nil => simp [outL]
    | cons p l ih =>
      have := cutS_len s p.1
      have := List.length_filter_le (fun t => decide (ok t)) (cutS s p.1)
      rw [outL_cons, List.length_append, cutV_len, List.length_cons]
      omega
  have := h1 (l.take i)
  rw [List.length_take] at this
  omega

/-- What is laid of parts that stand apart. -/
theorem laid_of {L L' : List (Pt V)} (h : Apart L) (hp : L'.Perm L) (hs : L'.Pairwise (fun p q => p.1.1 ≤ q.1.1)) : Canon (L'.foldl mstepP []) ∧ ∀ x, valB (L'.foldl mstepP []) x = valB L x := by
  have ha := h.perm hp
  obtain ⟨h1, h2⟩ := laid_spec L' [] Canon.nil ha.1 (sorted_ends ha hs) (by simp)
  exact ⟨h1, fun x => by rw [h2, valB_perm h hp ha]; simp [valB]⟩
/-! ### the parts of a range; the ranges of a value -/
def partsL (s : Sp) (l : List (Pt V)) : List (Pt V) := l.filterMap fun p => if meetsB p.1 s then some ((max p.1.1 s.1, min p.1.2 s.2), p.2) else none
theorem partsL_len (s : Sp) (l : List (Pt V)) : (partsL s l).length ≤ l.length := List.length_filterMap_le _ _
theorem partsL_snoc (s : Sp) (l : List (Pt V)) (p : Pt V) : partsL s (l ++ [p]) = partsL s l ++ (if meetsB p.1 s then [((max p.1.1 s.1, min p.1.2 s.2), p.2)] else []) := by
  unfold partsL
  rw [List.filterMap_append]
  by_cases h : meetsB p.1 s <;> simp [h]
theorem partsL_cons (s : Sp) (l : List (Pt V)) (p : Pt V) : partsL s (p :: l) = (if meetsB p.1 s then [((max p.1.1 s.1, min p.1.2 s.2), p.2)] else []) ++ partsL s l := by
  unfold partsL
  rw [List.filterMap_cons]
  by_cases h : meetsB p.1 s <;> simp [h]
theorem partsL_mem {s : Sp} {l : List (Pt V)} {q : Pt V} (h : q ∈ partsL s l) : ∃ p ∈ l, meetsB p.1 s ∧ q = ((max p.1.1 s.1, min p.1.2 s.2), p.2) := by
  unfold partsL at h
  obtain ⟨p, hp, e⟩ := List.mem_filterMap.1 h
  by_cases hm : meetsB p.1 s
  · rw [if_pos hm] at e; exact ⟨p, hp, hm, (Option.some.inj e).symm⟩
  · rw [if_neg hm] at e; cases e
theorem partsL_in {s : Sp} {l : List (Pt V)} {q : Pt V} (h : q ∈ partsL s l) : s.1 ≤ q.1.1 ∧ q.1.2 ≤ s.2 := by
  obtain ⟨p, _, _, rfl⟩ := partsL_mem h
  simp only; omega
theorem partsL_canon {s : Sp} {l : List (Pt V)} (h : Canon l) : Canon (partsL s l) := by
  refine ⟨fun q hq => ?_, ?_⟩
  · obtain ⟨p, _, hm, rfl⟩ := partsL_mem hq; exact hm.2.2
  · unfold partsL
    refine List.pairwise_filterMap.2 (h.2.imp fun {p q} hn a ha b hb => ?_)
    by_cases h1 : meetsB p.1 s
    · by_cases h2 : meetsB q.1 s
      · rw [if_pos h1] at ha
        rw [if_pos h2] at hb
        cases ha
        cases hb
        unfold nextOk at hn ⊢
        simp only
        rcases hn with hn | hn
        · left; omega
        · by_cases h3 : min p.1.2 s.2 = max q.1.1 s.1
          · exact .inr ⟨h3, hn.2⟩
          · left; omega
      · rw [if_neg h2] at hb; cases hb
    · rw [if_neg h1] at ha; cases ha
theorem partsL_val (s : Sp) : ∀ (l : List (Pt V)), (∀ p ∈ l, ok p.1) → ∀ x, valB (partsL s l) x = if hasB s x then valB l x else none
  | [], _, x => by simp [partsL, valB]
  | p :: l, h, x => by
    have ih := partsL_val s l (fun q hq => h q (by simp [hq])) x
    have hp := h p (by simp)
    rw [partsL_cons, valB_append, ih, valB_cons]
    have key : hasB (max p.1.1 s.1, min p.1.2 s.2) x ∧ meetsB p.1 s ↔ hasB p.1 x ∧ hasB s x := by
      unfold meetsB hasB ok at *; simp only; omega
    by_cases hm : meetsB p.1 s
    · simp only [hm, and_true] at key
      by_cases h1 : hasB p.1 x
      · by_cases h2 : hasB s x
        · simp [hm, h1, h2, valB, key.2 ⟨h1, h2⟩]
        · have : ¬ hasB (max p.1.1 s.1, min p.1.2 s.2) x := fun hh => h2 (key.1 hh).2
          simp [hm, h1, h2, valB, this]
      · have : ¬ hasB (max p.1.1 s.1, min p.1.2 s.2) x := fun hh => h1 (key.1 hh).1
        simp [hm, h1, valB, this]
    · have : ¬ (hasB p.1 x ∧ hasB s x) := fun hh => hm (key.2 hh).2
      by_cases h2 : hasB s x
      · have h1 : ¬ hasB p.1 x := fun hh => this ⟨hh, h2⟩
        simp [hm, h1, h2, valB]
      · simp [hm, h2, valB]
def withL (v : V) (l : List (Pt V)) : List Sp := (l.filter fun p => decide (p.2 = v)).map (·.1)
theorem withL_len (v : V) (l : List (Pt V)) : (withL v l).length ≤ l.length := by unfold withL; rw [List.length_map]; exact List.length_filter_le _ _
theorem withL_snoc (v : V) (l : List (Pt V)) (p : Pt V) : withL v (l ++ [p]) = withL v l ++ (if p.2 = v then [p.1] else []) := by
  unfold withL
  rw [List.filter_append, List.map_append]
  by_cases h : p.2 = v <;> simp [h]
theorem withL_nrm {v : V} {l : List (Pt V)} (h : Canon l) : Nrm (withL v l) := by
  refine ⟨fun s hs => ?_, ?_⟩
  · obtain ⟨p, hp, rfl⟩ := List.mem_map.1 hs
    exact h.1 p (List.mem_filter.1 hp).1
  · refine List.pairwise_map.2 ?_
    have h1 := h.2.sublist (List.filter_sublist (p := fun p => decide (p.2 = v)))
    have h2 : ∀ p ∈ l.filter (fun p => decide (p.2 = v)), p.2 = v := fun p hp => of_decide_eq_true (List.mem_filter.1 hp).2
    revert h1 h2
    generalize l.filter (fun p => decide (p.2 = v)) = k
    intro h1 h2
    refine h1.imp_of_mem fun {p q} hp hq hn => ?_
    rcases hn with hn | hn
    · exact hn
    · exact absurd ((h2 p hp).trans (h2 q hq).symm) hn.2
theorem withL_mem {v : V} {l : List (Pt V)} (h : Apart l) (x : Int) : memB (withL v l) x ↔ valB l x = some v := by
  constructor
  · rintro ⟨s, hs, hx⟩
    obtain ⟨p, hp, rfl⟩ := List.mem_map.1 hs
    obtain ⟨h1, h2⟩ := List.mem_filter.1 hp
    rw [valB_mem h h1 hx, of_decide_eq_true h2]
  · intro hv
    obtain ⟨p, h1, h2, h3⟩ := valB_some hv
    exact ⟨p.1, List.mem_map.2 ⟨p, List.mem_filter.2 ⟨h1, decide_eq_true h3⟩, rfl⟩, h2⟩
/-- How many blocks ranges have. -/
def sumS : List Sp → Int
  | [] => 0
  | s :: l => (s.2 - s.1) + sumS l
theorem sumS_snoc (l : List Sp) (s : Sp) : sumS (l ++ [s]) = sumS l + (s.2 - s.1) := by
  induction l with
  | nil => simp [sumS]
  | cons t l ih => rw [List.cons_append, sumS, ih, sumS]; omega
theorem sumS_nonneg {l : List Sp} (h : ∀ s ∈ l, ok s) : 0 ≤ sumS l := by
  induction l with
  | nil => simp [sumS]
  | cons t l ih =>
    have := ih fun s hs => h s (by simp [hs])
    have := (h t (by simp)).2
    rw [sumS]; omega
theorem sumS_le {M : Int} : ∀ {l : List Sp} {lo : Int}, Nrm l → lo ≤ M → (∀ s ∈ l, lo ≤ s.1 ∧ s.2 ≤ M) → sumS l ≤ M - lo
  | [], lo, _, h, _ => by simp [sumS]; omega
  | s :: l, lo, hn, h, hb => by
    have hs := hb s (by simp)
    have ho := hn.ok0.2
    have := sumS_le (l := l) (lo := s.2) hn.tail (by omega) (fun t ht => ⟨by have := (List.pairwise_cons.1 hn.2).1 t ht; omega, (hb t (by simp [ht])).2⟩)
    rw [sumS]; omega
theorem sumS_max {l : List Sp} (hn : Nrm l) {M : Int} (hM : 0 ≤ M) (hb : ∀ s ∈ l, s.2 ≤ M) : sumS l ≤ M := by
  have := sumS_le (lo := 0) hn hM fun s hs => ⟨(hn.1 s hs).1, hb s hs⟩
  omega

def cmpF (p q : Pt V) : Int := cmpI p.1.1 q.1.1
theorem lt_cmpF (p q : Pt V) : Go.Proofs.ltOf cmpF p q = decide (p.1.1 < q.1.1) := by
  unfold Go.Proofs.ltOf cmpF cmpI
  rcases Int.lt_trichotomy p.1.1 q.1.1 with h | h | h
  · simp [h]
  · have h1 : ¬ p.1.1 < q.1.1 := by omega
    have h2 : ¬ q.1.1 < p.1.1 := by omega
    simp [h1, h2]
  · have h1 : ¬ p.1.1 < q.1.1 := by omega
    simp [h, h1]
theorem swo_cmpF : Go.Sort.SWO (Go.Proofs.ltOf (cmpF (V := V))) where
  irrefl x := by rw [lt_cmpF]; simp
  trans x y z h1 h2 := by rw [lt_cmpF] at *; simp at *; omega
  ntrans x y z h1 h2 := by rw [lt_cmpF] at *; simp at *; omega
theorem cmpF_le {p q : Pt V} (h : ¬ cmpF q p < 0) : p.1.1 ≤ q.1.1 := by
  have := lt_cmpF q p
  unfold Go.Proofs.ltOf at this
  rw [decide_eq_false h] at this
  simp at this
  omega
def encP (ev : V → Value) (p : Pt V) : List Value := [.int .i64 p.1.1, .int .i64 p.1.2, ev p.2]
theorem encP_len (ev : V → Value) (p : Pt V) : (encP ev p).length = 3 := rfl
theorem encP_one {ev : V → Value} (he : ∀ v, one (ev v) = true) {p : Pt V} {u : Value} (h : u ∈ encP ev p) : one u = true := by
  simp only [encP, List.mem_cons, List.not_mem_nil, or_false] at h
  rcases h with rfl | rfl | rfl
  · exact one_int
  · exact one_int
  · exact he _
theorem flatP_one {ev : V → Value} (he : ∀ v, one (ev v) = true) {l : List (Pt V)} : ∀ u ∈ flat (encP ev) l, one u = true := fun u hu => by
  obtain ⟨s, _, h⟩ := List.mem_flatMap.1 hu
  exact encP_one he h
theorem parts_at {ev : V → Value} {w : World} {b o : Nat} {l : List (Pt V)} (hc : ∀ j, j < l.length * 3 → cel w b (o + j) = (flat (encP ev) l)[j]?) {i : Nat} {p : Pt V} (h : l[i]? = some p) :
    cel w b (o + i * 3) = some (.int .i64 p.1.1) ∧ cel w b (o + i * 3 + 1) = some (.int .i64 p.1.2) ∧ cel w b (o + i * 3 + 2) = some (ev p.2) := by
  have hi := (List.getElem?_eq_some_iff.1 h).1
  refine ⟨?_, ?_, ?_⟩
  · rw [hc _ (by omega)]; exact flat_get (enc := encP ev) (encP_len ev) h (j := 0) (by omega)
  · rw [Nat.add_assoc, hc _ (by omega)]; exact flat_get (enc := encP ev) (encP_len ev) h (j := 1) (by omega)
  · rw [Nat.add_assoc, hc _ (by omega)]; exact flat_get (enc := encP ev) (encP_len ev) h (j := 2) (by omega)
end
end Go.Sh
