/- Arguments whose values have several parts, and slices of them: how they are read off the statement's own reading. Conditions: none. -/
import Derived.Test.YtcekmdpiloegcaaGreatShS
set_option linter.unusedSimpArgs false
set_option linter.unusedVariables false
namespace Go.Sh
open Go.ChangeShapes Go.WideShapes Go.RowKit Go.Deep

inductive LK where
  | int (k : IntKind)
  | str
  | bool
def LK.ok : LK → Value → Prop
  | .int k, v => ∃ n, v = .int k n ∧ (Lit.int k n).wf = true
  | .str, v => ∃ s, v = .string s ∧ s.size ≤ maxLen
  | .bool, v => ∃ b, v = .bool b
def AllOk : List LK → List Value → Prop
  | [], [] => True
  | k :: l, v :: vs => k.ok v ∧ AllOk l vs
  | _, _ => False
theorem AllOk.len : ∀ {l : List LK} {vs : List Value}, AllOk l vs → vs.length = l.length
  | [], [], _ => rfl
  | _ :: l, _ :: vs, h => by simp [AllOk.len h.2]
theorem AllOk.append : ∀ {a : List LK} {x : List Value} {b : List LK} {y : List Value}, AllOk a x → AllOk b y → AllOk (a ++ b) (x ++ y)
  | [], [], _, _, _, h => h
  | _ :: _, _ :: _, _, _, h, h' => ⟨h.1, AllOk.append h.2 h'⟩

def leafsF (rec : TypeId → Option (List LK)) (P : Program) : List Field → Nat → Option (List LK)
  | [], _ => some []
  | f :: fs, off =>
    match rec f.type with
    | some l => cond (Nat.beq f.offset off && Nat.beq (P.cellsOf f.type) l.length) (match leafsF rec P fs (off + l.length) with | some r => some (l ++ r) | none => none) none
    | none => none
/-- What the cells of a value of a type are, one after the other. -/
def leafs (P : Program) : Nat → TypeId → Option (List LK)
  | 0, _ => none
  | d + 1, t =>
    match P.underlying t with
    | some (.int k) => some [.int k]
    | some .string => some [.str]
    | some .bool => some [.bool]
    | some (.struct fs) => leafsF (leafs P d) P fs.toList 0
    | _ => none

section
variable {H : Type} {enc : TypeId × Value → H} {P : Program} {w : World} {base : Nat} {spare : Nat → Bool} {held : Bool}

theorem leafsF_ok {rec : TypeId → Option (List LK)} {n : Nat} {cs : List Value} (hrec : ∀ t l cs x, rec t = some l → P.cellsOf t = l.length → DataW.trod enc P w base spare held n t cs = some x → AllOk l cs) :
    ∀ (fs : List Field) (off : Nat) (r : List LK), leafsF rec P fs off = some r → cs.length = off + r.length →
      (∀ f ∈ fs, ∃ y, DataW.trod enc P w base spare held n f.type ((cs.drop f.offset).take (P.cellsOf f.type)) = some y) → AllOk r (cs.drop off)
  | [], off, r, h, hl, _ => by
    simp only [leafsF, Option.some.injEq] at h
    subst h
    rw [List.drop_of_length_le (by simpa using Nat.le_of_eq hl)]
    trivial
  | f :: fs, off, r, h, hl, hf => by
    unfold leafsF at h
    cases hr : rec f.type with
    | none => rw [hr] at h; cases h
    | some l =>
      rw [hr] at h
      simp only at h
      cases hc : (Nat.beq f.offset off && Nat.beq (P.cellsOf f.type) l.length) with
      | false => rw [hc] at h; cases h
      | true =>
        rw [hc] at h
        simp only [Bool.and_eq_true] at hc
        have h1 := Nat.eq_of_beq_eq_true hc.1
        have h2 := Nat.eq_of_beq_eq_true hc.2
        cases hr' : leafsF rec P fs (off + l.length) with
        | none => rw [hr'] at h; cases h
        | some r' =>
          rw [hr'] at h
          simp only [cond, Option.some.injEq] at h
          subst h
          rw [List.length_append] at hl
          obtain ⟨y, hy⟩ := hf f (by simp)
          rw [h1, h2] at hy
          have a1 := hrec _ _ _ _ hr h2 hy
          have a2 := leafsF_ok hrec fs (off + l.length) r' hr' (by omega) (fun f' hf' => hf f' (by simp [hf']))
          have := a1.append a2
          rwa [← List.drop_drop, List.take_append_drop] at this

theorem leafs_ok : ∀ (d : Nat) (fuel : Nat) (t : TypeId) (l : List LK) (cs : List Value) (x : DataW H × List MemPlace), leafs P d t = some l → P.cellsOf t = l.length → DataW.trod enc P w base spare held fuel t cs = some x → AllOk l cs
  | 0, _, _, _, _, _, h, _, _ => by simp [leafs] at h
  | d + 1, fuel, t, l, cs, x, h, hc, ht => by
    unfold leafs at h
    split at h
    · rename_i k hu
      simp only [Option.some.injEq] at h
      subst h
      obtain ⟨n, rfl, _, hw⟩ := DataW.trod_int hu ht
      exact ⟨⟨n, rfl, hw⟩, trivial⟩
    · rename_i hu
      simp only [Option.some.injEq] at h
      subst h
      obtain ⟨s, rfl, _, hw⟩ := DataW.trod_string hu ht
      exact ⟨⟨s, rfl, hw⟩, trivial⟩
    · rename_i hu
      simp only [Option.some.injEq] at h
      subst h
      obtain ⟨b, rfl, _⟩ := DataW.trod_bool hu ht
      exact ⟨⟨b, rfl⟩, trivial⟩
    · rename_i fs hu
      obtain ⟨xs, n, rfl, _, hlen, hxl, hf⟩ := DataW.trod_struct hu ht
      have := leafsF_ok (cs := cs) (fun t l cs x h1 h2 h3 => leafs_ok d n t l cs x h1 h2 h3) fs.toList 0 l h (by omega) (fun f hf' => by
        obtain ⟨i, hi⟩ := List.mem_iff_getElem?.1 hf'
        have hi' : fs[i]? = some f := by simpa using hi
        have hlt : i < xs.length := by rw [hxl]; exact (Array.getElem?_eq_some_iff.1 hi').1
        exact ⟨xs[i], by rw [hf i f hi', List.getElem?_eq_getElem hlt]⟩)
      simpa using this
    · cases h

theorem agg_as {α : Type} {L : List LK} {t : TypeId} {fs : Array Field} {d : Nat} {r : Reach} {b0 : Nat} {v : Value} {dt : DataW H} {ps : List MemPlace} (encA : α → List Value) (good : α → Prop) (dec : ∀ r, AllOk L r → ∃ s, r = encA s ∧ good s)
    (ht : P.underlying t = some (.struct fs)) (hL : leafs P d t = some L) (hc : P.cellsOf t = L.length) (hv : Value.okWide P w r b0 t v) (h : DataW.Trod enc P w base spare held t v dt ps) : ∃ s, v = .agg (encA s).toArray ∧ good s := by
  obtain ⟨cs, rfl, _⟩ := okWide_struct ht hv
  obtain ⟨fuel, hf⟩ := h
  have := leafs_ok d fuel t L _ _ hL hc hf
  obtain ⟨s, e, hg⟩ := dec _ this
  refine ⟨s, ?_, hg⟩
  rw [← e]
  simp [Value.cells]

theorem rows_as {α : Type} [Inhabited α] {L : List LK} {t e : TypeId} {d : Nat} {a : Option Addr} {l c : Nat} {dt : DataW H} {ps : List MemPlace} (encA : α → List Value) (good : α → Prop) (dec : ∀ r, AllOk L r → ∃ s, r = encA s ∧ good s) (hk : ∀ s, (encA s).length = L.length) (hz : 0 < L.length)
    (ht : P.underlying t = some (.slice e)) (hL : leafs P d e = some L) (hc : P.cellsOf e = L.length) (h : DataW.Trod enc P w 0 (fun _ => true) true t (.slice a l c) dt ps) :
    ∃ xs : List α, xs.length = l ∧ Rd L.length w (.slice a l c) xs.length (flat encA xs) ∧ l ≤ maxLen ∧ ∀ s ∈ xs, good s := by
  obtain ⟨fuel, hf⟩ := h
  rcases open_slice ht hf with ⟨hcs, _⟩ | ⟨x, len, cap, m, n, D, Pl, hcs, _, hl, hm, hmm, _, hx⟩
  · simp [Value.cells] at hcs
    obtain ⟨rfl, rfl, rfl⟩ := hcs
    exact ⟨[], rfl, Rd.nil _ _, Nat.zero_le _, by simp⟩
  · simp [Value.cells] at hcs
    obtain ⟨rfl, rfl, rfl⟩ := hcs
    simp only [if_true] at hmm
    subst hmm
    rw [hc] at hx
    have each : ∀ i, ∃ s : α, i < m → (good s ∧ ∀ j, j < L.length → w.cell? ((x.add (i * L.length)).add j) = (encA s)[j]?) := fun i => by
      by_cases hi : i < m
      · obtain ⟨cs', h1, h2⟩ := hx i hi
        obtain ⟨_, hlen, hcell⟩ := World.cells?_some h1
        obtain ⟨s, es, hg⟩ := dec _ (leafs_ok d n e L cs' _ hL hc h2)
        exact ⟨s, fun _ => ⟨hg, fun j hj => by rw [hcell j hj, es]⟩⟩
      · exact ⟨default, fun h => absurd h hi⟩
    let g : Nat → α := fun i => Classical.choose (each i)
    have hg : ∀ i, i < m → (good (g i) ∧ ∀ j, j < L.length → w.cell? ((x.add (i * L.length)).add j) = (encA (g i))[j]?) := fun i => Classical.choose_spec (each i)
    refine ⟨(List.range l).map g, by simp, ⟨by rw [flat_len hk], ?_⟩, by omega, fun s hs => ?_⟩
    · rw [List.length_map, List.length_range]
      rcases Nat.eq_zero_or_pos l with rfl | hp
      · exact .inl ⟨rfl, _, _, rfl⟩
      · obtain ⟨b, o, spot⟩ := x
        have h0 := (hg 0 (by omega)).2 0 hz
        have hs : spot = none := by
          have hl0 : 0 < (encA (g 0)).length := by rw [hk]; exact hz
          rw [List.getElem?_eq_getElem hl0] at h0
          have := World.cell?_spot h0
          simpa [Addr.add] using this
        subst hs
        refine .inr ⟨b, o, m, rfl, hl, fun j hj => ?_⟩
        have hi : j / L.length < l := Nat.div_lt_of_lt_mul (by rw [Nat.mul_comm]; exact hj)
        have hm' : j % L.length < L.length := Nat.mod_lt _ hz
        have h1 := (hg (j / L.length) (by omega)).2 (j % L.length) hm'
        have e1 : ((⟨b, o, none⟩ : Addr).add (j / L.length * L.length)).add (j % L.length) = ⟨b, o + j, none⟩ := by
          have hj' : j / L.length * L.length + j % L.length = j := by rw [Nat.mul_comm]; exact Nat.div_add_mod j _
          rw [Addr.add_lit, Addr.add_lit, Nat.add_assoc, hj']
        rw [e1] at h1
        have h2 := flat_get hk (l := (List.range l).map g) (i := j / L.length) (s := g (j / L.length)) (by rw [List.getElem?_map, List.getElem?_range hi]; rfl) hm'
        rw [show j / L.length * L.length + j % L.length = j by rw [Nat.mul_comm]; exact Nat.div_add_mod j _] at h2
        rw [h2, ← h1]
        exact (cell_cel b (o + j)).symm
    · obtain ⟨i, hi, rfl⟩ := List.mem_map.1 hs
      exact (hg i (by have := List.mem_range.1 hi; omega)).1
end

/-- A range as it comes in. -/
def rngS (s : Int × Int) : Prop := -9223372036854775808 ≤ s.1 ∧ s.1 ≤ 9223372036854775807 ∧ -9223372036854775808 ≤ s.2 ∧ s.2 ≤ 9223372036854775807
theorem dec_span (r : List Value) (h : AllOk [.int .i64, .int .i64] r) : ∃ s, r = encS s ∧ rngS s := by
  cases r with
  | nil => exact h.elim
  | cons x r =>
    cases r with
    | nil => exact h.2.elim
    | cons y r =>
      cases r with
      | cons z r => exact h.2.2.elim
      | nil =>
        obtain ⟨⟨a, ha, wa⟩, ⟨b, hb, wb⟩, _⟩ := h
        exact ⟨(a, b), by rw [ha, hb]; rfl, (wf64 wa).1, (wf64 wa).2, (wf64 wb).1, (wf64 wb).2⟩

/-! ### structs of so many integers -/
abbrev I3 := Int × Int × Int
def enc3 (s : I3) : List Value := [.int .i64 s.1, .int .i64 s.2.1, .int .i64 s.2.2]
def good3 (s : I3) : Prop := (-9223372036854775808 ≤ s.1 ∧ s.1 ≤ 9223372036854775807) ∧ (-9223372036854775808 ≤ s.2.1 ∧ s.2.1 ≤ 9223372036854775807) ∧ (-9223372036854775808 ≤ s.2.2 ∧ s.2.2 ≤ 9223372036854775807)
theorem enc3_len (s : I3) : (enc3 s).length = 3 := rfl
theorem dec3 (r : List Value) (h : AllOk [.int .i64, .int .i64, .int .i64] r) : ∃ s, r = enc3 s ∧ good3 s := by
  cases r with
  | nil => exact h.elim
  | cons x0 r =>
    cases r with
    | nil => exact h.2.elim
    | cons x1 r =>
      cases r with
      | nil => exact h.2.2.elim
      | cons x2 r =>
        cases r with
        | cons y r => exact h.2.2.2.elim
        | nil =>
          obtain ⟨⟨a0, h0, w0⟩, ⟨a1, h1, w1⟩, ⟨a2, h2, w2⟩, _⟩ := h
          exact ⟨(a0, a1, a2), by rw [h0, h1, h2]; rfl, wf64 w0, wf64 w1, wf64 w2⟩
abbrev I5 := Int × Int × Int × Int × Int
def enc5 (s : I5) : List Value := [.int .i64 s.1, .int .i64 s.2.1, .int .i64 s.2.2.1, .int .i64 s.2.2.2.1, .int .i64 s.2.2.2.2]
def good5 (s : I5) : Prop := (-9223372036854775808 ≤ s.1 ∧ s.1 ≤ 9223372036854775807) ∧ (-9223372036854775808 ≤ s.2.1 ∧ s.2.1 ≤ 9223372036854775807) ∧ (-9223372036854775808 ≤ s.2.2.1 ∧ s.2.2.1 ≤ 9223372036854775807) ∧ (-9223372036854775808 ≤ s.2.2.2.1 ∧ s.2.2.2.1 ≤ 9223372036854775807) ∧ (-9223372036854775808 ≤ s.2.2.2.2 ∧ s.2.2.2.2 ≤ 9223372036854775807)
theorem enc5_len (s : I5) : (enc5 s).length = 5 := rfl
theorem dec5 (r : List Value) (h : AllOk [.int .i64, .int .i64, .int .i64, .int .i64, .int .i64] r) : ∃ s, r = enc5 s ∧ good5 s := by
  cases r with
  | nil => exact h.elim
  | cons x0 r =>
    cases r with
    | nil => exact h.2.elim
    | cons x1 r =>
      cases r with
      | nil => exact h.2.2.elim
      | cons x2 r =>
        cases r with
        | nil => exact h.2.2.2.elim
        | cons x3 r =>
          cases r with
          | nil => exact h.2.2.2.2.elim
          | cons x4 r =>
            cases r with
            | cons y r => exact h.2.2.2.2.2.elim
            | nil =>
              obtain ⟨⟨a0, h0, w0⟩, ⟨a1, h1, w1⟩, ⟨a2, h2, w2⟩, ⟨a3, h3, w3⟩, ⟨a4, h4, w4⟩, _⟩ := h
              exact ⟨(a0, a1, a2, a3, a4), by rw [h0, h1, h2, h3, h4]; rfl, wf64 w0, wf64 w1, wf64 w2, wf64 w3, wf64 w4⟩
end Go.Sh
