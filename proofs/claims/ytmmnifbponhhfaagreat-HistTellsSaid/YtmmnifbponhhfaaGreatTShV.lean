/- Arguments whose values hold slices: how they are read off the statement's own reading. Conditions: none. -/
import Derived.Test.YtmmnifbponhhfaaGreatTShU
set_option linter.unusedSimpArgs false
set_option linter.unusedVariables false
namespace Go.Sh
open Go.ChangeShapes Go.WideShapes Go.RowKit Go.Deep

inductive LW where
  | b (k : LK)
  | rows (L : List LK)
/-- A slice's elements as lists of cells. -/
def RowsOk (w : World) (L : List LK) (v : Value) : Prop := ∃ (a : Option Addr) (l c : Nat) (xs : List (List Value)), v = .slice a l c ∧ xs.length = l ∧ Rd L.length w v l xs.flatten ∧ l ≤ maxLen ∧ ∀ x ∈ xs, AllOk L x
def LW.ok (w : World) : LW → Value → Prop
  | .b k, v => k.ok v
  | .rows L, v => RowsOk w L v
def AllOkW (w : World) : List LW → List Value → Prop
  | [], [] => True
  | k :: l, v :: vs => k.ok w v ∧ AllOkW w l vs
  | _, _ => False
theorem AllOkW.len {w : World} : ∀ {l : List LW} {vs : List Value}, AllOkW w l vs → vs.length = l.length
  | [], [], _ => rfl
  | _ :: l, _ :: vs, h => by simp [AllOkW.len h.2]
theorem AllOkW.append {w : World} : ∀ {a : List LW} {x : List Value} {b : List LW} {y : List Value}, AllOkW w a x → AllOkW w b y → AllOkW w (a ++ b) (x ++ y)
  | [], [], _, _, _, h => h
  | _ :: _, _ :: _, _, _, h, h' => ⟨h.1, AllOkW.append h.2 h'⟩
theorem AllOkW.cons {w : World} {k : LW} {l : List LW} {cs : List Value} (h : AllOkW w (k :: l) cs) : ∃ v vs, cs = v :: vs ∧ k.ok w v ∧ AllOkW w l vs := by
  cases cs with
  | nil => exact h.elim
  | cons v vs => exact ⟨v, vs, rfl, h.1, h.2⟩
theorem AllOkW.nil {w : World} {cs : List Value} (h : AllOkW w [] cs) : cs = [] := by
  cases cs with
  | nil => rfl
  | cons v vs => exact h.elim

def leafsFW (rec : TypeId → Option (List LW)) (P : Program) : List Field → Nat → Option (List LW)
  | [], _ => some []
  | f :: fs, off =>
    match rec f.type with
    | some l => cond (Nat.beq f.offset off && Nat.beq (P.cellsOf f.type) l.length) (match leafsFW rec P fs (off + l.length) with | some r => some (l ++ r) | none => none) none
    | none => none
/-- What the cells of a value of a type are, one after the other, slices of plain values among them. -/
def leafsW (P : Program) : Nat → TypeId → Option (List LW)
  | 0, _ => none
  | d + 1, t =>
    match P.underlying t with
    | some (.int k) => some [.b (.int k)]
    | some .string => some [.b .str]
    | some .bool => some [.b .bool]
    | some (.slice e) => match leafs P d e with | some L => cond (Nat.beq (P.cellsOf e) L.length && Nat.blt 0 L.length) (some [.rows L]) none | none => none
    | some (.struct fs) => leafsFW (leafsW P d) P fs.toList 0
    | _ => none

section
variable {H : Type} {enc : TypeId × Value → H} {P : Program} {w : World}

theorem rowsOk_of {L : List LK} {t e : TypeId} {d : Nat} {a : Option Addr} {l c : Nat} {dt : DataW H} {ps : List MemPlace} (hz : 0 < L.length)
    (ht : P.underlying t = some (.slice e)) (hL : leafs P d e = some L) (hc : P.cellsOf e = L.length) (h : DataW.Trod enc P w 0 (fun _ => true) true t (.slice a l c) dt ps) : RowsOk w L (.slice a l c) := by
  haveI : Inhabited {x : List Value // x.length = L.length} := ⟨⟨List.replicate L.length (.bool false), by simp⟩⟩
  obtain ⟨xs, h1, h2, h3, h4⟩ := rows_as (α := {x : List Value // x.length = L.length}) (fun s => s.1) (fun s => AllOk L s.1) (fun r hr => ⟨⟨r, hr.len⟩, rfl, hr⟩) (fun s => s.2) hz ht hL hc h
  refine ⟨a, l, c, xs.map Subtype.val, rfl, by simpa using h1, ?_, h3, fun x hx => ?_⟩
  · have e : flat (fun s : {x : List Value // x.length = L.length} => s.1) xs = (xs.map Subtype.val).flatten := by
      clear h1 h2 h4
      induction xs with
      | nil => rfl
      | cons x xs ih => simp [flat] at ih ⊢; try exact ih
    rw [← e]
    rw [h1] at h2
    exact h2
  · obtain ⟨s, hs, rfl⟩ := List.mem_map.1 hx
    exact h4 s hs

theorem leafsFW_ok {rec : TypeId → Option (List LW)} {n : Nat} {cs : List Value} (hrec : ∀ t l cs x, rec t = some l → P.cellsOf t = l.length → DataW.trod enc P w 0 (fun _ => true) true n t cs = some x → AllOkW w l cs) :
    ∀ (fs : List Field) (off : Nat) (r : List LW), leafsFW rec P fs off = some r → cs.length = off + r.length →
      (∀ f ∈ fs, ∃ y, DataW.trod enc P w 0 (fun _ => true) true n f.type ((cs.drop f.offset).take (P.cellsOf f.type)) = some y) → AllOkW w r (cs.drop off)
  | [], off, r, h, hl, _ => by
    simp only [leafsFW, Option.some.injEq] at h
    subst h
    rw [List.drop_of_length_le (by simpa using Nat.le_of_eq hl)]
    trivial
  | f :: fs, off, r, h, hl, hf => by
    unfold leafsFW at h
    cases hr : rec f.type with
    | none => rw [hr] at h; cases h
    | some l =>
      rw [hr] at h
      simp only at h
      cases hc : (Nat.beq f.offset off && Nat.beq (P.cellsOf f.type) l.length) with
      | false => rw [hc] at h; cases h
      | true =>
        rw [hc] at h
        simp only [Bool.and_eq_true] at hc
        have h1 := Nat.eq_of_beq_eq_true hc.1
        have h2 := Nat.eq_of_beq_eq_true hc.2
        cases hr' : leafsFW rec P fs (off + l.length) with
        | none => rw [hr'] at h; cases h
        | some r' =>
          rw [hr'] at h
          simp only [cond, Option.some.injEq] at h
          subst h
          rw [List.length_append] at hl
          obtain ⟨y, hy⟩ := hf f (by simp)
          rw [h1, h2] at hy
          have a1 := hrec _ _ _ _ hr h2 hy
          have a2 := leafsFW_ok hrec fs (off + l.length) r' hr' (by omega) (fun f' hf' => hf f' (by simp [hf']))
          have := a1.append a2
          rwa [← List.drop_drop, List.take_append_drop] at this

theorem leafsW_ok : ∀ (d : Nat) (fuel : Nat) (t : TypeId) (l : List LW) (cs : List Value) (x : DataW H × List MemPlace), leafsW P d t = some l → P.cellsOf t = l.length → DataW.trod enc P w 0 (fun _ => true) true fuel t cs = some x → AllOkW w l cs
  | 0, _, _, _, _, _, h, _, _ => by simp [leafsW] at h
  | d + 1, fuel, t, l, cs, x, h, hc, ht => by
    unfold leafsW at h
    split at h
    · rename_i k hu
      simp only [Option.some.injEq] at h
      subst h
      obtain ⟨n, rfl, _, hw⟩ := DataW.trod_int hu ht
      exact ⟨⟨n, rfl, hw⟩, trivial⟩
    · rename_i hu
      simp only [Option.some.injEq] at h
      subst h
      obtain ⟨s, rfl, _, hw⟩ := DataW.trod_string hu ht
      exact ⟨⟨s, rfl, hw⟩, trivial⟩
    · rename_i hu
      simp only [Option.some.injEq] at h
      subst h
      obtain ⟨b, rfl, _⟩ := DataW.trod_bool hu ht
      exact ⟨⟨b, rfl⟩, trivial⟩
    · rename_i e hu
      cases hL : leafs P d e with
      | none => rw [hL] at h; cases h
      | some L =>
        rw [hL] at h
        simp only at h
        cases hcc : (Nat.beq (P.cellsOf e) L.length && Nat.blt 0 L.length) with
        | false => rw [hcc] at h; cases h
        | true =>
          rw [hcc] at h
          simp only [cond, Option.some.injEq] at h
          subst h
          simp only [Bool.and_eq_true] at hcc
          have h1 := Nat.eq_of_beq_eq_true hcc.1
          have h2 : 0 < L.length := by have := hcc.2; simpa [Nat.blt_eq] using this
          rcases open_slice hu ht with ⟨rfl, _⟩ | ⟨a, len, cap, m, n, D, Pl, rfl, _⟩
          · exact ⟨rowsOk_of (dt := x.1) (ps := x.2) h2 hu hL h1 ⟨fuel, by simpa [Value.cells] using ht⟩, trivial⟩
          · exact ⟨rowsOk_of (dt := x.1) (ps := x.2) h2 hu hL h1 ⟨fuel, by simpa [Value.cells] using ht⟩, trivial⟩
    · rename_i fs hu
      obtain ⟨xs, n, rfl, _, hlen, hxl, hf⟩ := DataW.trod_struct hu ht
      have := leafsFW_ok (cs := cs) (fun t l cs x h1 h2 h3 => leafsW_ok d n t l cs x h1 h2 h3) fs.toList 0 l h (by omega) (fun f hf' => by
        obtain ⟨i, hi⟩ := List.mem_iff_getElem?.1 hf'
        have hi' : fs[i]? = some f := by simpa using hi
        have hlt : i < xs.length := by rw [hxl]; exact (Array.getElem?_eq_some_iff.1 hi').1
        exact ⟨xs[i], by rw [hf i f hi', List.getElem?_eq_getElem hlt]⟩)
      simpa using this
    · cases h

/-- A struct with slices inside. -/
theorem aggW_as {L : List LW} {t : TypeId} {fs : Array Field} {d : Nat} {r : Reach} {b0 : Nat} {v : Value} {dt : DataW H} {ps : List MemPlace}
    (ht : P.underlying t = some (.struct fs)) (hL : leafsW P d t = some L) (hc : P.cellsOf t = L.length) (hv : Value.okWide P w r b0 t v) (h : DataW.Trod enc P w 0 (fun _ => true) true t v dt ps) : ∃ cs : List Value, v = .agg cs.toArray ∧ AllOkW w L cs := by
  obtain ⟨cs, rfl, _⟩ := okWide_struct ht hv
  obtain ⟨fuel, hf⟩ := h
  have := leafsW_ok d fuel t L _ _ hL hc hf
  exact ⟨cs.toList, by simp, by simpa [Value.cells] using this⟩

/-- Rows of structs with slices inside. -/
theorem rowsW_as {L : List LW} {t e : TypeId} {d : Nat} {a : Option Addr} {l c : Nat} {dt : DataW H} {ps : List MemPlace} (hz : 0 < L.length)
    (ht : P.underlying t = some (.slice e)) (hL : leafsW P d e = some L) (hc : P.cellsOf e = L.length) (h : DataW.Trod enc P w 0 (fun _ => true) true t (.slice a l c) dt ps) :
    ∃ xs : List (List Value), xs.length = l ∧ Rd L.length w (.slice a l c) l xs.flatten ∧ l ≤ maxLen ∧ ∀ x ∈ xs, AllOkW w L x := by
  obtain ⟨fuel, hf⟩ := h
  rcases open_slice ht hf with ⟨hcs, _⟩ | ⟨x, len, cap, m, n, D, Pl, hcs, _, hl, hm, hmm, _, hx⟩
  · simp [Value.cells] at hcs
    obtain ⟨rfl, rfl, rfl⟩ := hcs
    exact ⟨[], rfl, Rd.nil _ _, Nat.zero_le _, by simp⟩
  · simp [Value.cells] at hcs
    obtain ⟨rfl, rfl, rfl⟩ := hcs
    simp only [if_true] at hmm
    subst hmm
    rw [hc] at hx
    have each : ∀ i, ∃ s : {x : List Value // x.length = L.length}, i < m → (AllOkW w L s.1 ∧ ∀ j, j < L.length → w.cell? ((x.add (i * L.length)).add j) = s.1[j]?) := fun i => by
      by_cases hi : i < m
      · obtain ⟨cs', h1, h2⟩ := hx i hi
        obtain ⟨_, hlen, hcell⟩ := World.cells?_some h1
        have ok := leafsW_ok d n e L cs' _ hL hc h2
        exact ⟨⟨cs', ok.len⟩, fun _ => ⟨ok, fun j hj => hcell j hj⟩⟩
      · exact ⟨⟨List.replicate L.length (.bool false), by simp⟩, fun h => absurd h hi⟩
    let g : Nat → {x : List Value // x.length = L.length} := fun i => Classical.choose (each i)
    have hg : ∀ i, i < m → (AllOkW w L (g i).1 ∧ ∀ j, j < L.length → w.cell? ((x.add (i * L.length)).add j) = (g i).1[j]?) := fun i => Classical.choose_spec (each i)
    have hk : ∀ s : {x : List Value // x.length = L.length}, s.1.length = L.length := fun s => s.2
    have ef : ∀ ys : List {x : List Value // x.length = L.length}, flat (fun s : {x : List Value // x.length = L.length} => s.1) ys = (ys.map Subtype.val).flatten := fun ys => by
      induction ys with
      | nil => rfl
      | cons x xs ih => simp [flat] at ih ⊢; try exact ih
    refine ⟨((List.range l).map g).map Subtype.val, by simp, ?_, by omega, fun s hs => ?_⟩
    · rw [← ef]
      refine ⟨by rw [flat_len hk]; simp, ?_⟩
      rcases Nat.eq_zero_or_pos l with rfl | hp
      · exact .inl ⟨rfl, _, _, rfl⟩
      · obtain ⟨b, o, spot⟩ := x
        have h0 := (hg 0 (by omega)).2 0 hz
        have hs : spot = none := by
          have hl0 : 0 < (g 0).1.length := by rw [hk]; exact hz
          rw [List.getElem?_eq_getElem hl0] at h0
          have := World.cell?_spot h0
          simpa [Addr.add] using this
        subst hs
        refine .inr ⟨b, o, m, rfl, hl, fun j hj => ?_⟩
        have hi : j / L.length < l := Nat.div_lt_of_lt_mul (by rw [Nat.mul_comm]; exact hj)
        have hm' : j % L.length < L.length := Nat.mod_lt _ hz
        have h1 := (hg (j / L.length) (by omega)).2 (j % L.length) hm'
        have e1 : ((⟨b, o, none⟩ : Addr).add (j / L.length * L.length)).add (j % L.length) = ⟨b, o + j, none⟩ := by
          have hj' : j / L.length * L.length + j % L.length = j := by rw [Nat.mul_comm]; exact Nat.div_add_mod j _
          rw [Addr.add_lit, Addr.add_lit, Nat.add_assoc, hj']
        rw [e1] at h1
        have h2 := flat_get hk (l := (List.range l).map g) (i := j / L.length) (s := g (j / L.length)) (by rw [List.getElem?_map, List.getElem?_range hi]; rfl) hm'
        rw [show j / L.length * L.length + j % L.length = j by rw [Nat.mul_comm]; exact Nat.div_add_mod j _] at h2
        rw [h2, ← h1]
        exact (cell_cel b (o + j)).symm
    · obtain ⟨s', hs', rfl⟩ := List.mem_map.1 hs
      obtain ⟨i, hi, rfl⟩ := List.mem_map.1 hs'
      exact (hg i (by have := List.mem_range.1 hi; omega)).1
end

/-- Rows of triples, decoded. -/
theorem rows3 {w : World} {L : List LK} {v : Value} (dec : ∀ r, AllOk L r → ∃ s, r = enc3 s ∧ good3 s) (h3 : L.length = 3) (h : RowsOk w L v) : ∃ (a : Option Addr) (l c : Nat) (xs : List I3), v = .slice a l c ∧ xs.length = l ∧ Rd 3 w v l (flat enc3 xs) ∧ l ≤ maxLen ∧ ∀ s ∈ xs, good3 s := by
  obtain ⟨a, l, c, xs, e, hl, hr, hm, ho⟩ := h
  have key : ∀ xs : List (List Value), (∀ x ∈ xs, AllOk L x) → ∃ ys : List I3, ys.length = xs.length ∧ flat enc3 ys = xs.flatten ∧ ∀ s ∈ ys, good3 s := by
    intro xs
    induction xs with
    | nil => intro _; exact ⟨[], rfl, rfl, by simp⟩
    | cons x xs ih =>
      intro hx
      obtain ⟨ys, y1, y2, y3⟩ := ih fun z hz => hx z (by simp [hz])
      obtain ⟨s, e, g⟩ := dec x (hx x (by simp))
      refine ⟨s :: ys, by simp [y1], ?_, ?_⟩
      · rw [List.flatten_cons, e, ← y2]; rfl
      · intro z hz; simp only [List.mem_cons] at hz; rcases hz with rfl | hz
        · exact g
        · exact y3 z hz
  obtain ⟨ys, y1, y2, y3⟩ := key xs ho
  exact ⟨a, l, c, ys, e, y1.trans hl, by rw [y2, ← h3]; exact hr, hm, y3⟩
end Go.Sh
