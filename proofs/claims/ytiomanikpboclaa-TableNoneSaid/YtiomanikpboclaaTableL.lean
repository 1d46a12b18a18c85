/- The table of locks, block by block: what each node holds of a block; a map that is told block by block; the least block that hinders. Conditions: as each says. -/
import Derived.Test.YtiomanikpboclaaTableK
set_option linter.unusedSimpArgs false
set_option linter.unusedVariables false
namespace Go.Proofs.Ytiomanikpboclaa
open Go.Sh Go.Proofs.Ytiomanikpboclaa.Mi
set_option maxRecDepth 100000
section
/-- The list of the runs of a function of blocks below n. -/
def scanL (f : Int → Option Int) : Nat → List (Pt Int)
  | 0 => []
  | n + 1 => match f n with
    | some v => mstepP (scanL f n) (((n : Int), (n : Int) + 1), v)
    | none => scanL f n
theorem scanL_ok (f : Int → Option Int) : ∀ n, Canon (scanL f n) ∧ (∀ x, valB (scanL f n) x = if 0 ≤ x ∧ x < (n : Int) then f x else none) ∧ ∀ p ∈ scanL f n, p.1.2 ≤ (n : Int)
  | 0 => ⟨Canon.nil, fun x => by rw [if_neg (by omega)]; rfl, fun p hp => by cases hp⟩
  | n + 1 => by
    obtain ⟨h1, h2, h3⟩ := scanL_ok f n
    unfold scanL
    cases hf : f n with
    | none =>
      refine ⟨h1, fun x => ?_, fun p hp => by have := h3 p hp; omega⟩
      show valB (scanL f n) x = _
      rw [h2]
      by_cases hx : 0 ≤ x ∧ x < (n : Int)
      · rw [if_pos hx, if_pos (by omega)]
      · rw [if_neg hx]
        by_cases hx' : 0 ≤ x ∧ x < ((n + 1 : Nat) : Int)
        · have : x = n := by omega
          rw [if_pos hx', this, hf]
        · rw [if_neg hx']
    | some v =>
      have hok : ok (((n : Int), (n : Int) + 1), v).1 := by
        show (0 : Int) ≤ n ∧ (n : Int) < n + 1
        omega
      obtain ⟨g1, g2, g3⟩ := mstepP_canon (p := (((n : Int), (n : Int) + 1), v)) h1 hok h3
      refine ⟨g1, fun x => ?_, fun p hp => by have := g3 p hp; dsimp only at this; omega⟩
      show valB (mstepP (scanL f n) _) x = _
      have hb : hasB ((n : Int), (n : Int) + 1) x ↔ x = n := by
        show (ok _ ∧ _ ∧ _) ↔ _
        unfold ok
        dsimp only
        omega
      have e1 : valB [(((n : Int), (n : Int) + 1), v)] x = if x = n then some v else none := by
        rw [valB_cons]
        by_cases h : x = n
        · rw [if_pos (hb.2 h), if_pos h]
        · rw [if_neg (fun h' => h (hb.1 h')), if_neg h]; rfl
      rw [g2, h2, e1]
      by_cases hx : 0 ≤ x ∧ x < (n : Int)
      · have h1' : 0 ≤ x ∧ x < ((n + 1 : Nat) : Int) := by omega
        have h2' : ¬ x = n := by omega
        rw [if_pos hx, if_pos h1', if_neg h2']
        cases f x <;> rfl
      · rw [if_neg hx]
        by_cases hx' : x = n
        · have h1' : 0 ≤ x ∧ x < ((n + 1 : Nat) : Int) := by omega
          rw [if_pos hx', if_pos h1', hx', hf]; rfl
        · have h1' : ¬ (0 ≤ x ∧ x < ((n + 1 : Nat) : Int)) := by omega
          rw [if_neg hx', if_neg h1']; rfl
/-- The list of a function of blocks. -/
def canonL (f : Int → Option Int) : List (Pt Int) := scanL f 4096
theorem canonL_canon (f : Int → Option Int) : Canon (canonL f) ∧ Bd 4096 (canonL f) := ⟨(scanL_ok f 4096).1, (scanL_ok f 4096).2.2⟩
/-- A function of the blocks 0..4095. -/
def Sup (f : Int → Option Int) : Prop := ∀ x, f x ≠ none → 0 ≤ x ∧ x < 4096
theorem canonL_val {f : Int → Option Int} (h : Sup f) (x : Int) : valB (canonL f) x = f x := by
  unfold canonL
  rw [(scanL_ok f 4096).2.1]
  by_cases hx : 0 ≤ x ∧ x < ((4096 : Nat) : Int)
  · rw [if_pos hx]
  · rw [if_neg hx]
    cases hf : f x with
    | none => rfl
    | some v => exact absurd (h x (by rw [hf]; exact fun e => by cases e)) (by omega)
theorem canonL_eq {l : List (Pt Int)} {f : Int → Option Int} (hc : Canon l) (hb : Bd 4096 l) (h : ∀ x, valB l x = f x) : canonL f = l := by
  refine canon_unique _ _ (canonL_canon f).1 hc fun x => ?_
  rw [canonL_val (fun y hy => ?_), h]
  rw [← h] at hy
  refine ⟨Classical.byContradiction fun hn => hy (val_neg (by omega)), Classical.byContradiction fun hn => hy (val_of_bd hb (by omega))⟩
theorem sup_val {l : List (Pt Int)} (hb : Bd 4096 l) : Sup (valB l) := fun x hy => ⟨Classical.byContradiction fun hn => hy (val_neg (by omega)), Classical.byContradiction fun hn => hy (val_of_bd hb (by omega))⟩
/-! ### the least of a list -/
section
variable {α : Type} (c : α → Prop) [DecidablePred c] (g : α → Int)
def mn (f : Int) (p : α) : Int := if c p then min f (g p) else f
theorem mn_le : ∀ (l : List α) (f : Int), l.foldl (mn c g) f ≤ f
  | [], f => Int.le_refl _
  | p :: l, f => by
    refine Int.le_trans (mn_le l (mn c g f p)) ?_
    unfold mn
    split <;> omega
theorem mn_mem : ∀ (l : List α) (f : Int) {p : α}, p ∈ l → c p → l.foldl (mn c g) f ≤ g p
  | q :: l, f, p, hp, hc => by
    rcases List.mem_cons.1 hp with rfl | hp
    · refine Int.le_trans (mn_le c g l (mn c g f p)) ?_
      unfold mn
      rw [if_pos hc]
      omega
    · exact mn_mem l (mn c g f q) hp hc
theorem mn_at : ∀ (l : List α) (f : Int), l.foldl (mn c g) f = f ∨ ∃ p ∈ l, c p ∧ l.foldl (mn c g) f = g p
  | [], f => .inl rfl
  | q :: l, f => by
    rcases mn_at l (mn c g f q) with h | ⟨p, hp, hc, h⟩
    · rw [List.foldl_cons, h]
      unfold mn
      split
      · rename_i hc
        rcases Int.le_total f (g q) with h1 | h1
        · exact .inl (Int.min_eq_left h1)
        · exact .inr ⟨q, by simp, hc, Int.min_eq_right h1⟩
      · exact .inl rfl
    · exact .inr ⟨p, by simp [hp], hc, h⟩
end
theorem hp1_mn (md : Int) : hp1 md = mn (fun p : Pt Int => ¬ fitP p.2 md) (fun p => p.1.1) := by
  funext f p
  unfold hp1 mn
  by_cases h : fitP p.2 md
  · rw [if_pos h, if_neg (fun h' => h' h)]
  · rw [if_neg h, if_pos h]
theorem wp1_mn (node a b md : Int) : wp1 node a b md = mn (fun k : I5 => meetsB (k.2.2.1, k.2.2.2.1) (a, b) ∧ k.2.1 ≠ node ∧ ¬ fitP k.2.2.2.2 md) (fun k => max k.2.2.1 a) := rfl
/-! ### block by block -/
/-- What a node holds of a block. -/
def bl (s : TS) (o : Nat) (x : Int) : Option Int := valB (s.hs[o]?.getD []) x
/-- Another node holds what does not fit. -/
def HxN (s : TS) (node md x : Int) : Prop := ∃ o : Nat, 1 ≤ o ∧ (o : Int) ≤ s.nodes ∧ (o : Int) ≠ node ∧ ∃ v, bl s o x = some v ∧ ¬ fitP v md
/-- A claim that does not fit. -/
def HxA (A : List I5) (node md x : Int) : Prop := ∃ k ∈ A, k.2.1 ≠ node ∧ ¬ fitP k.2.2.2.2 md ∧ hasB (k.2.2.1, k.2.2.2.1) x
/-- The lists of a state are lists of runs. -/
def Lists (s : TS) : Prop := ∀ l ∈ s.hs, Canon l
theorem Lists.at {s : TS} (h : Lists s) (o : Nat) : Canon (s.hs[o]?.getD []) := by
  cases e : s.hs[o]? with
  | none => exact Canon.nil
  | some l => exact h l (List.mem_of_getElem? e)
theorem part_in {a b : Int} {l : List (Pt Int)} (hc : Canon l) {p : Pt Int} (hp : p ∈ partsL (a, b) l) {x : Int} (hx : hasB p.1 x) : valB l x = some p.2 ∧ hasB (a, b) x := by
  have hv := valB_mem (partsL_canon (s := (a, b)) hc).apart hp hx
  rw [partsL_val _ _ hc.1] at hv
  by_cases h : hasB (a, b) x
  · rw [if_pos h] at hv
    exact ⟨hv, h⟩
  · rw [if_neg h] at hv; cases hv
theorem part_of {a b : Int} {l : List (Pt Int)} (hc : Canon l) {x v : Int} (hx : hasB (a, b) x) (hv : valB l x = some v) : ∃ p ∈ partsL (a, b) l, hasB p.1 x ∧ p.2 = v := by
  have := partsL_val (a, b) l hc.1 x
  rw [if_pos hx, hv] at this
  exact valB_some this
theorem hAll_le (s : TS) (node a b md : Int) : ∀ n, hAll s node a b md n ≤ b
  | 0 => Int.le_refl _
  | n + 1 => by
    refine Int.le_trans ?_ (hAll_le s node a b md n)
    show hNode s node a b md (hAll s node a b md n) (n + 1) ≤ _
    unfold hNode
    split
    · exact Int.le_refl _
    · rw [hp1_mn]; exact mn_le _ _ _ _
theorem hAll_mem {s : TS} (hl : Lists s) {node a b md x v : Int} (hx : hasB (a, b) x) {o : Nat} (ho : 1 ≤ o) (hon : (o : Int) ≠ node) (hv : bl s o x = some v) (hf : ¬ fitP v md) : ∀ n, o ≤ n → hAll s node a b md n ≤ x
  | 0, h => by omega
  | n + 1, h => by
    show hNode s node a b md (hAll s node a b md n) (n + 1) ≤ _
    by_cases e : o = n + 1
    · subst e
      unfold hNode
      rw [if_neg hon, hp1_mn]
      obtain ⟨p, hp, h1, rfl⟩ := part_of (hl.at _) hx hv
      refine Int.le_trans (mn_mem _ _ _ _ hp hf) ?_
      exact h1.2.1
    · have ih := hAll_mem hl hx ho hon hv hf n (by omega)
      unfold hNode
      split
      · exact ih
      · rw [hp1_mn]
        exact Int.le_trans (mn_le _ _ _ _) ih
theorem hAll_at {s : TS} (hl : Lists s) {node a b md : Int} : ∀ n : Nat, (n : Int) ≤ s.nodes → hAll s node a b md n = b ∨ (hasB (a, b) (hAll s node a b md n) ∧ HxN s node md (hAll s node a b md n))
  | 0, _ => .inl rfl
  | n + 1, hn => by
    have ih := hAll_at hl (node := node) (a := a) (b := b) (md := md) n (by omega)
    have e : hAll s node a b md (n + 1) = hNode s node a b md (hAll s node a b md n) (n + 1) := rfl
    rw [e]
    unfold hNode
    split
    · exact ih
    · rename_i hon
      rw [hp1_mn]
      rcases mn_at (fun p : Pt Int => ¬ fitP p.2 md) (fun p => p.1.1) (partsL (a, b) (s.hs[n + 1]?.getD [])) (hAll s node a b md n) with h | ⟨p, hp, hc, h⟩
      · rw [h]; exact ih
      · rw [h]
        have hc' := partsL_canon (s := (a, b)) (hl.at (n + 1))
        have hh : hasB p.1 p.1.1 := ⟨hc'.1 p hp, Int.le_refl _, (hc'.1 p hp).2⟩
        obtain ⟨h1, h2⟩ := part_in (hl.at (n + 1)) hp hh
        exact .inr ⟨h2, n + 1, by omega, hn, hon, p.2, h1, hc⟩
theorem hind_le_b (s : TS) (A : List I5) (node a b md : Int) : hindF s A node a b md ≤ b := by
  unfold hindF
  rw [wp1_mn]
  exact Int.le_trans (mn_le _ _ _ _) (hAll_le _ _ _ _ _ _)
theorem hind_mem {s : TS} (hl : Lists s) {A : List I5} {node a b md x : Int} (hx : hasB (a, b) x) (h : HxN s node md x ∨ HxA A node md x) : hindF s A node a b md ≤ x := by
  unfold hindF
  rw [wp1_mn]
  rcases h with ⟨o, ho, ho', hon, v, hv, hf⟩ | ⟨k, hk, h1, h2, h3⟩
  · exact Int.le_trans (mn_le _ _ _ _) (hAll_mem hl hx ho hon hv hf _ (by omega))
  · refine Int.le_trans (mn_mem _ _ _ _ hk ⟨?_, h1, h2⟩) ?_
    · refine ⟨h3.1, hx.1, ?_, ?_⟩
      · show (0 : Int) ≤ max k.2.2.1 a
        have := hx.1.1
        dsimp only at this
        omega
      · show max k.2.2.1 a < min k.2.2.2.1 b
        have := h3.2; have := hx.2
        dsimp only at *
        omega
    · have := h3.2.1; have := hx.2.1
      dsimp only at *
      omega
theorem hind_at {s : TS} (hl : Lists s) (hn : 0 ≤ s.nodes) {A : List I5} {node a b md : Int} (h : hindF s A node a b md < b) : hasB (a, b) (hindF s A node a b md) ∧ (HxN s node md (hindF s A node a b md) ∨ HxA A node md (hindF s A node a b md)) := by
  unfold hindF at *
  rw [wp1_mn] at *
  rcases mn_at (fun k : I5 => meetsB (k.2.2.1, k.2.2.2.1) (a, b) ∧ k.2.1 ≠ node ∧ ¬ fitP k.2.2.2.2 md) (fun k => max k.2.2.1 a) A (hAll s node a b md s.nodes.toNat) with e | ⟨k, hk, hc, e⟩
  · rw [e] at h ⊢
    rcases hAll_at hl (node := node) (a := a) (b := b) (md := md) s.nodes.toNat (by omega) with h1 | ⟨h1, h2⟩
    · omega
    · exact ⟨h1, .inl h2⟩
  · rw [e] at h ⊢
    obtain ⟨⟨m1, m2, m3⟩, h1, h2⟩ := hc
    have m4 : max k.2.2.1 a < min k.2.2.2.1 b := m3.2
    have q1 : hasB (a, b) (max k.2.2.1 a) := ⟨m2, by show a ≤ max k.2.2.1 a; omega, by show max k.2.2.1 a < b; omega⟩
    exact ⟨q1, .inr ⟨k, hk, h1, h2, m1, by show k.2.2.1 ≤ max k.2.2.1 a; omega, by show max k.2.2.1 a < k.2.2.2.1; omega⟩⟩
/-- Nothing hinders: no block is hindered. -/
theorem hind_free {s : TS} (hl : Lists s) (hn : 0 ≤ s.nodes) {A : List I5} {node a b md : Int} : ¬ hindF s A node a b md < b ↔ ∀ x, hasB (a, b) x → ¬ (HxN s node md x ∨ HxA A node md x) := by
  constructor
  · intro h x hx hh
    have := hind_mem hl hx hh
    have := hx.2.2
    dsimp only at this
    omega
  · intro h hlt
    obtain ⟨h1, h2⟩ := hind_at hl hn hlt
    exact h _ h1 h2
end
end Go.Proofs.Ytiomanikpboclaa
