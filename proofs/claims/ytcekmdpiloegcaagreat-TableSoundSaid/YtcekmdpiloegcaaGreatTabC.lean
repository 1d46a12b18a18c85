/- The table of locks, block by block: what each node holds of a block; a map that is told block by block; the least block that hinders. Conditions: as each says. -/
import Derived.Test.YtcekmdpiloegcaaGreatTabB
set_option linter.unusedSimpArgs false
set_option linter.unusedVariables false
namespace Go.Proofs.YtcekmdpiloegcaaGreat
open Go.Sh Go.Proofs.YtcekmdpiloegcaaGreat.Mi
set_option maxRecDepth 100000
section
/-- The list of the runs of a function of blocks below n. -/
def scanL (f : Int → Option Int) : Nat → List (Pt Int)
  | 0 => []
  | n + 1 => match f n with
    | some v => mstepP (scanL f n) (((n : Int), (n : Int) + 1), v)
    | none => scanL f n
theorem scanL_ok (f : Int → Option Int) : ∀ n, Canon (scanL f n) ∧ (∀ x, valB (scanL f n) x = if 0 ≤ x ∧ x < (n : Int) then f x else none) ∧ ∀ p ∈ scanL f n, p.1.2 ≤ (n : Int)
  | 0 => ⟨Canon.nil, fun x => by rw [if_neg (by omega)]; rfl, fun p hp => by cases hp⟩
  | n + 1 => by
    obtain ⟨h1, h2, h3⟩ := scanL_ok f n
    unfold scanL
    cases hf : f n with
    | none =>
      refine ⟨h1, fun x => ?_, fun p hp => by have := h3 p hp; omega⟩
      show valB (scanL f n) x = _
      rw [h2]
      by_cases hx : 0 ≤ x ∧ x < (n : Int)
      · rw [if_pos hx, if_pos (by omega)]
      · rw [if_neg hx]
        by_cases hx' : 0 ≤ x ∧ x < ((n + 1 : Nat) : Int)
        · have : x = n := by omega
          rw [if_pos hx', this, hf]
        · rw [if_neg hx']
    | some v =>
      have hok : ok (((n : Int), (n : Int) + 1), v).1 := by
        show (0 : Int) ≤ n ∧ (n : Int) < n + 1
        omega
      obtain ⟨g1, g2, g3⟩ := mstepP_canon (p := (((n : Int), (n : Int) + 1), v)) h1 hok h3
      refine ⟨g1, fun x => ?_, fun p hp => by have := g3 p hp; dsimp only at this; omega⟩
      show valB (mstepP (scanL f n) _) x = _
      have hb : hasB ((n : Int), (n : Int) + 1) x ↔ x = n := by
        show (ok _ ∧ _ ∧ _) ↔ _
        unfold ok
        dsimp only
        omega
      have e1 : valB [(((n : Int), (n : Int) + 1), v)] x = if x = n then some v else none := by
        rw [valB_cons]
        by_cases h : x = n
        · rw [if_pos (hb.2 h), if_pos h]
        · rw [if_neg (fun h' => h (hb.1 h')), if_neg h]; rfl
      rw [g2, h2, e1]
      by_cases hx : 0 ≤ x ∧ x < (n : Int)
      · have h1' : 0 ≤ x ∧ x < ((n + 1 : Nat) : Int) := by omega
        have h2' : ¬ x = n := by omega
        rw [if_pos hx, if_pos h1', if_neg h2']
        cases f x <;> rfl
      · rw [if_neg hx]
        by_cases hx' : x = n
        · have h1' : 0 ≤ x ∧ x < ((n + 1 : Nat) : Int) := by omega
          rw [if_pos hx', if_pos h1', hx', hf]; rfl
        · have h1' : ¬ (0 ≤ x ∧ x < ((n + 1 : Nat) : Int)) := by omega
          rw [if_neg hx', if_neg h1']; rfl
/-- The list of a function of blocks. -/
def canonL (f : Int → Option Int) : List (Pt Int) := scanL f 4096
theorem canonL_canon (f : Int → Option Int) : Canon (canonL f) ∧ Bd 4096 (canonL f) := ⟨(scanL_ok f 4096).1, (scanL_ok f 4096).2.2⟩
/-- A function of the blocks 0..4095. -/
def Sup (f : Int → Option Int) : Prop := ∀ x, f x ≠ none → 0 ≤ x ∧ x < 4096
theorem canonL_val {f : Int → Option Int} (h : Sup f) (x : Int) : valB (canonL f) x = f x := by
  unfold canonL
  rw [(scanL_ok f 4096).2.1]
  by_cases hx : 0 ≤ x ∧ x < ((4096 : Nat) : Int)
  · rw [if_pos hx]
  · rw [if_neg hx]
    cases hf : f x with
    | none => rfl
    | some v => exact absurd (h x (by rw [hf]; exact fun e => by cases e)) (by omega)
theorem canonL_eq {l : List (Pt Int)} {f : Int → Option Int} (hc : Canon l) (hb : Bd 4096 l) (h : ∀ x, valB l x = f x) : canonL f = l := by
  refine canon_unique _ _ (canonL_canon f).1 hc fun x => ?_
  rw [canonL_val (fun y hy => ?_), h]
  rw [← h] at hy
  refine ⟨Classical.byContradiction fun hn => hy (val_neg (by omega)), Classical.byContradiction fun hn => hy (val_of_bd hb (by omega))⟩
theorem sup_val {l : List (Pt Int)} (hb : Bd 4096 l) : Sup (valB l) := fun x hy => ⟨Classical.byContradiction fun hn => hy (val_neg (by omega)), Classical.byContradiction fun hn => hy (val_of_bd hb (by omega))⟩
/-! ### the least of a list -/
section
variable {α : Type} (c : α → Prop) [DecidablePred c] (g : α → Int)
def mn (f : Int) (p : α) : Int := if c p then min f (g p) else f
theorem mn_le : ∀ (l : List α) (f : Int), l.foldl (mn c g) f ≤ f
  | [], f => Int.le_refl _
  | p :: l, f => by
    refine Int.le_trans (mn_le l (mn c g f p)) ?_
    unfold mn
    split <;> omega
theorem mn_mem : ∀ (l : List α) (f : Int) {p : α}, p ∈ l → c p → l.foldl (mn c g) f ≤ g p
  | q :: l, f, p, hp, hc => by
    rcases List.mem_cons.1 hp with rfl | hp
    · refine Int.le_trans (mn_le c g l (mn c g f p)) ?_
      unfold mn
      rw [if_pos hc]
      omega
    · exact mn_mem l (mn c g f q) hp hc
theorem mn_at : ∀ (l : List α) (f : Int), l.foldl (mn c g) f = f ∨ ∃ p ∈ l, c p ∧ l.foldl (mn c g) f = g p
  | [], f => .inl rfl
  | q :: l, f => by
    rcases mn_at l (mn c g f q) with h | ⟨p, hp, hc, h⟩
    · rw [List.foldl_cons, h]
      unfold mn
      split
      · rename_i hc
        rcases Int.le_total f (g q) with h1 | h1
        · exact .inl (Int.min_eq_left h1)
        · exact .inr ⟨q, by simp, hc, Int.min_eq_right h1⟩
      · exact .inl rfl
    · exact .inr ⟨p, by simp [hp], hc, h⟩
end
theorem hp1_mn (md : Int) : hp1 md = mn (fun p : Pt Int => ¬ fitP p.2 md) (fun p => p.1.1) := by
  funext f p
  unfold hp1 mn
  by_cases h : fitP p.2 md
  · rw [if_pos h, if_neg (fun h' => h' h)]
  · rw [if_neg h, if_pos h]
theorem wp1_mn (node a b md : Int) : wp1 node a b md = mn (fun k : I5 => meetsB (k.2.2.1, k.2.2.2.1) (a, b) ∧ k.2.1 ≠ node ∧ ¬ fitP k.2.2.2.2 md) (fun k => max k.2.2.1 a) := rfl
/-! ### block by block -/
/-- What a node holds of a block. -/
def bl (s : TS) (o : Nat) (x : Int) : Option Int := valB (s.hs[o]?.getD []) x
/-- Another node holds what does not fit. -/
def HxN (s : TS) (node md x : Int) : Prop := ∃ o : Nat, 1 ≤ o ∧ (o : Int) ≤ s.nodes ∧ (o : Int) ≠ node ∧ ∃ v, bl s o x = some v ∧ ¬ fitP v md
/-- A claim that does not fit. -/
def HxA (A : List I5) (node md x : Int) : Prop := ∃ k ∈ A, k.2.1 ≠ node ∧ ¬ fitP k.2.2.2.2 md ∧ hasB (k.2.2.1, k.2.2.2.1) x
/-- The lists of a state are lists of runs. -/
def Lists (s : TS) : Prop := ∀ l ∈ s.hs, Canon l
theorem Lists.at {s : TS} (h : Lists s) (o : Nat) : Canon (s.hs[o]?.getD []) := by
  cases e : s.hs[o]? with
  | none => exact Canon.nil
  | some l => exact h l (List.mem_of_getElem? e)
theorem part_in {a b : Int} {l : List (Pt Int)} (hc : Canon l) {p : Pt Int} (hp : p ∈ partsL (a, b) l) {x : Int} (hx : hasB p.1 x) : valB l x = some p.2 ∧ hasB (a, b) x := by
  have hv := valB_mem (partsL_canon (s := (a, b)) hc).apart hp hx
  rw [partsL_val _ _ hc.1] at hv
  by_cases h : hasB (a, b) x
  · rw [if_pos h] at hv
    exact ⟨hv, h⟩
  · rw [if_neg h] at hv; cases hv
theorem part_of {a b : Int} {l : List (Pt Int)} (hc : Canon l) {x v : Int} (hx : hasB (a, b) x) (hv : valB l x = some v) : ∃ p ∈ partsL (a, b) l, hasB p.1 x ∧ p.2 = v := by
  have := partsL_val (a, b) l hc.1 x
  rw [if_pos hx, hv] at this
  exact valB_some this
theorem hAll_le (s : TS) (node a b md : Int) : ∀ n, hAll s node a b md n ≤ b
  | 0 => Int.le_refl _
  | n + 1 => by
    refine Int.le_trans ?_ (hAll_le s node a b md n)
    show hNode s node a b md (hAll s node a b md n) (n + 1) ≤ _
    unfold hNode
    split
    · exact Int.le_refl _
    · rw [hp1_mn]; exact mn_le _ _ _ _
theorem hAll_mem {s : TS} (hl : Lists s) {node a b md x v : Int} (hx : hasB (a, b) x) {o : Nat} (ho : 1 ≤ o) (hon : (o : Int) ≠ node) (hv : bl s o x = some v) (hf : ¬ fitP v md) : ∀ n, o ≤ n → hAll s node a b md n ≤ x
  | 0, h => by omega
  | n + 1, h => by
    show hNode s node a b md (hAll s node a b md n) (n + 1) ≤ _
    by_cases e : o = n + 1
    · subst e
      unfold hNode
      rw [if_neg hon, hp1_mn]
      obtain ⟨p, hp, h1, rfl⟩ := part_of (hl.at _) hx hv
      refine Int.le_trans (mn_mem _ _ _ _ hp hf) ?_
      exact h1.2.1
    · have ih := hAll_mem hl hx ho hon hv hf n (by omega)
      unfold hNode
      split
      · exact ih
      · rw [hp1_mn]
        exact Int.le_trans (mn_le _ _ _ _) ih
theorem hAll_at {s : TS} (hl : Lists s) {node a b md : Int} : ∀ n : Nat, (n : Int) ≤ s.nodes → hAll s node a b md n = b ∨ (hasB (a, b) (hAll s node a b md n) ∧ HxN s node md (hAll s node a b md n))
  | 0, _ => .inl rfl
  | n + 1, hn => by
    have ih := hAll_at hl (node := node) (a := a) (b := b) (md := md) n (by omega)
    have e : hAll s node a b md (n + 1) = hNode s node a b md (hAll s node a b md n) (n + 1) := rfl
    rw [e]
    unfold hNode
    split
    · exact ih
    · rename_i hon
      rw [hp1_mn]
      rcases mn_at (fun p : Pt Int => ¬ fitP p.2 md) (fun p => p.1.1) (partsL (a, b) (s.hs[n + 1]?.getD [])) (hAll s node a b md n) with h | ⟨p, hp, hc, h⟩
      · rw [h]; exact ih
      · rw [h]
        have hc' := partsL_canon (s := (a, b)) (hl.at (n + 1))
        have hh : hasB p.1 p.1.1 := ⟨hc'.1 p hp, Int.le_refl _, (hc'.1 p hp).2⟩
        obtain ⟨h1, h2⟩ := part_in (hl.at (n + 1)) hp hh
        exact .inr ⟨h2, n + 1, by omega, hn, hon, p.2, h1, hc⟩
theorem hind_le_b (s : TS) (A : List I5) (node a b md : Int) : hindF s A node a b md ≤ b := by
  unfold hindF
  rw [wp1_mn]
  exact Int.le_trans (mn_le _ _ _ _) (hAll_le _ _ _ _ _ _)
theorem hind_mem {s : TS} (hl : Lists s) {A : List I5} {node a b md x : Int} (hx : hasB (a, b) x) (h : HxN s node md x ∨ HxA A node md x) : hindF s A node a b md ≤ x := by
  unfold hindF
  rw [wp1_mn]
  rcases h with ⟨o, ho, ho', hon, v, hv, hf⟩ | ⟨k, hk, h1, h2, h3⟩
  · exact Int.le_trans (mn_le _ _ _ _) (hAll_mem hl hx ho hon hv hf _ (by omega))
  · refine Int.le_trans (mn_mem _ _ _ _ hk ⟨?_, h1, h2⟩) ?_
    · refine ⟨h3.1, hx.1, ?_, ?_⟩
      · show (0 : Int) ≤ max k.2.2.1 a
        have := hx.1.1
        dsimp only at this
        omega
      · show max k.2.2.1 a < min k.2.2.2.1 b
        have := h3.2; have := hx.2
        dsimp only at *
        omega
    · have := h3.2.1; have := hx.2.1
      dsimp only at *
      omega
theorem hind_at {s : TS} (hl : Lists s) (hn : 0 ≤ s.nodes) {A : List I5} {node a b md : Int} (h : hindF s A node a b md < b) : hasB (a, b) (hindF s A node a b md) ∧ (HxN s node md (hindF s A node a b md) ∨ HxA A node md (hindF s A node a b md)) := by
  unfold hindF at *
  rw [wp1_mn] at *
  rcases mn_at (fun k : I5 => meetsB (k.2.2.1, k.2.2.2.1) (a, b) ∧ k.2.1 ≠ node ∧ ¬ fitP k.2.2.2.2 md) (fun k => max k.2.2.1 a) A (hAll s node a b md s.nodes.toNat) with e | ⟨k, hk, hc, e⟩
  · rw [e] at h ⊢
    rcases hAll_at hl (node := node) (a := a) (b := b) (md := md) s.nodes.toNat (by omega) with h1 | ⟨h1, h2⟩
    · omega
    · exact ⟨h1, .inl h2⟩
  · rw [e] at h ⊢
    obtain ⟨⟨m1, m2, m3⟩, h1, h2⟩ := hc
    have m4 : max k.2.2.1 a < min k.2.2.2.1 b := m3.2
    have q1 : hasB (a, b) (max k.2.2.1 a) := ⟨m2, by show a ≤ max k.2.2.1 a; omega, by show max k.2.2.1 a < b; omega⟩
    exact ⟨q1, .inr ⟨k, hk, h1, h2, m1, by show k.2.2.1 ≤ max k.2.2.1 a; omega, by show max k.2.2.1 a < k.2.2.2.1; omega⟩⟩
/-- Nothing hinders: no block is hindered. -/
theorem hind_free {s : TS} (hl : Lists s) (hn : 0 ≤ s.nodes) {A : List I5} {node a b md : Int} : ¬ hindF s A node a b md < b ↔ ∀ x, hasB (a, b) x → ¬ (HxN s node md x ∨ HxA A node md x) := by
  constructor
  · intro h x hx hh
    have := hind_mem hl hx hh
    have := hx.2.2
    dsimp only at this
    omega
  · intro h hlt
    obtain ⟨h1, h2⟩ := hind_at hl hn hlt
    exact h _ h1 h2
end
end Go.Proofs.YtcekmdpiloegcaaGreat
/- The table of locks: rows of requests and of parts searched and thinned. Conditions: as each says. -/
namespace Go.Proofs.YtcekmdpiloegcaaGreat
open Go.Sh Go.Proofs.YtcekmdpiloegcaaGreat.Mi
set_option maxRecDepth 100000
section
theorem pp_at {b o : Nat} {w : World} {l : List (Pt Int)} (hc : ∀ j, j < l.length * 3 → cel w b (o + j) = (flat enc l)[j]?) {i : Nat} {p : (Pt Int)} (h : l[i]? = some p) :
    cel w b (o + i * 3) = some (.int .i64 p.1.1) ∧ cel w b (o + i * 3 + 1) = some (.int .i64 p.1.2) ∧ cel w b (o + i * 3 + 2) = some (.int .i64 p.2) := by
  have hi := (List.getElem?_eq_some_iff.1 h).1
  have hb : (i + 1) * 3 ≤ l.length * 3 := Nat.mul_le_mul_right _ hi
  have g : ∀ j, j < 3 → cel w b (o + i * 3 + j) = (enc p)[j]? := fun j hj => by
    rw [Nat.add_assoc, hc _ (by omega)]
    exact flat_get (enc := enc) (encP_len ev) h (by omega)
  exact ⟨g 0 (by omega), g 1 (by omega), g 2 (by omega)⟩
theorem pp_index {f v : Value} {l : List (Pt Int)} {P : (Pt Int) → Prop} [DecidablePred P] {F : Nat → Prop} {w : World} {Q : Value → World → Prop} (h : Rd 3 w v l.length (flat enc l)) (hl : l.length ≤ 1000000)
    (hp : ∀ w1 s (Q : Value → World → Prop), K0 w w1 → s ∈ l → (∀ w2, K0 w1 w2 → Q (.bool (decide (P s))) w2) → callF Tryz.prog f #[.agg #[.int .i64 s.1.1, .int .i64 s.1.2, .int .i64 s.2]] Q w1)
    (hq1 : ∀ w', K0 w w' → (∀ s ∈ l, ¬ P s) → Q (.int .i64 (-1)) w')
    (hq2 : ∀ w' (i : Nat) s, K0 w w' → l[i]? = some s → P s → (∀ s ∈ l.take i, ¬ P s) → Q (.int .i64 (i : Int)) w') :
    callS Tryz.prog 55 #[v, f] Q w := by
  refine ref55 ?_
  unfold S55
  obtain ⟨a, c, rfl⟩ := h.form
  simp only [stp, Nat.reduceAdd, Int.reduceLT, Int.reduceLE, Int.reduceEq, Int.reduceNe, ne_eq, bne_self_eq_false, beq_self_eq_true]
  refine lp1 (fun m x w' => K0 w w' ∧ ∃ i : Nat, x = .int .i64 (i : Int) ∧ i ≤ l.length ∧ m = l.length - i ∧ ∀ s ∈ l.take i, ¬ P s) l.length ⟨Keep.refl _ _, 0, rfl, Nat.zero_le _, by omega, by simp⟩ ?_
  rintro m x w' ⟨k, i, rfl, hi, rfl, hok⟩ J hJ _
  by_cases hlt : i < l.length
  · have hlt' : ((i : Int) < (l.length : Int)) := by omega
    obtain ⟨b, o, c', e, hc', hcel⟩ := (h.keep0 k).at (by omega)
    injection e with e1 _ e2
    subst e1 e2
    have hs : l[i]? = some l[i] := List.getElem?_eq_getElem hlt
    obtain ⟨c0, c1, c2⟩ := pp_at hcel hs
    simp only [stp, Nat.reduceAdd, Int.reduceLT, Int.reduceLE, Int.reduceEq, Int.reduceNe, ne_eq, bne_self_eq_false, beq_self_eq_true, hlt']
    rw [ix_62 hlt]
    simp only [stp, Nat.reduceAdd, Int.reduceLT, Int.reduceLE, Int.reduceEq, Int.reduceNe, ne_eq, bne_self_eq_false, beq_self_eq_true, stm, c0, c1, c2]
    refine hp _ _ _ k (List.getElem_mem hlt) fun w2 g2 => ?_
    have hw := wrap_succ (i := i) (by omega)
    by_cases h0 : P l[i]
    · simp only [stp, Nat.reduceAdd, Int.reduceLT, Int.reduceLE, Int.reduceEq, Int.reduceNe, ne_eq, bne_self_eq_false, beq_self_eq_true, h0, hw]
      exact hq2 _ i _ (k.trans g2) hs h0 hok
    · simp only [stp, Nat.reduceAdd, Int.reduceLT, Int.reduceLE, Int.reduceEq, Int.reduceNe, ne_eq, bne_self_eq_false, beq_self_eq_true, h0, hw]
      refine hJ (l.length - (i + 1)) _ _ (by omega) ⟨k.trans g2, i + 1, rfl, by omega, rfl, fun s hm => ?_⟩
      rw [List.take_add_one, hs] at hm
      rcases List.mem_append.1 hm with hm | hm
      · exact hok s hm
      · simp at hm; subst hm; exact h0
  · have hlt' : ¬ ((i : Int) < (l.length : Int)) := by omega
    simp only [stp, Nat.reduceAdd, Int.reduceLT, Int.reduceLE, Int.reduceEq, Int.reduceNe, ne_eq, bne_self_eq_false, beq_self_eq_true, hlt']
    refine hq1 _ k fun s hs => hok s ?_
    rw [List.take_of_length_le (by omega)]; exact hs
theorem wt_at {b o : Nat} {w : World} {l : List I5} (hc : ∀ j, j < l.length * 5 → cel w b (o + j) = (flat enc5 l)[j]?) {i : Nat} {p : I5} (h : l[i]? = some p) :
    cel w b (o + i * 5) = some (.int .i64 p.1) ∧ cel w b (o + i * 5 + 1) = some (.int .i64 p.2.1) ∧ cel w b (o + i * 5 + 2) = some (.int .i64 p.2.2.1) ∧ cel w b (o + i * 5 + 3) = some (.int .i64 p.2.2.2.1) ∧ cel w b (o + i * 5 + 4) = some (.int .i64 p.2.2.2.2) := by
  have hi := (List.getElem?_eq_some_iff.1 h).1
  have hb : (i + 1) * 5 ≤ l.length * 5 := Nat.mul_le_mul_right _ hi
  have g : ∀ j, j < 5 → cel w b (o + i * 5 + j) = (enc5 p)[j]? := fun j hj => by
    rw [Nat.add_assoc, hc _ (by omega)]
    exact flat_get (enc := enc5) enc5_len h (by omega)
  exact ⟨g 0 (by omega), g 1 (by omega), g 2 (by omega), g 3 (by omega), g 4 (by omega)⟩
theorem wt_index {f v : Value} {l : List I5} {P : I5 → Prop} [DecidablePred P] {F : Nat → Prop} {w : World} {Q : Value → World → Prop} (h : Rd 5 w v l.length (flat enc5 l)) (hl : l.length ≤ 1000000)
    (hp : ∀ w1 s (Q : Value → World → Prop), K0 w w1 → s ∈ l → (∀ w2, K0 w1 w2 → Q (.bool (decide (P s))) w2) → callF Tryz.prog f #[.agg #[.int .i64 s.1, .int .i64 s.2.1, .int .i64 s.2.2.1, .int .i64 s.2.2.2.1, .int .i64 s.2.2.2.2]] Q w1)
    (hq1 : ∀ w', K0 w w' → (∀ s ∈ l, ¬ P s) → Q (.int .i64 (-1)) w')
    (hq2 : ∀ w' (i : Nat) s, K0 w w' → l[i]? = some s → P s → (∀ s ∈ l.take i, ¬ P s) → Q (.int .i64 (i : Int)) w') :
    callS Tryz.prog 46 #[v, f] Q w := by
  refine ref46 ?_
  unfold S46
  obtain ⟨a, c, rfl⟩ := h.form
  simp only [stp, Nat.reduceAdd, Int.reduceLT, Int.reduceLE, Int.reduceEq, Int.reduceNe, ne_eq, bne_self_eq_false, beq_self_eq_true]
  refine lp1 (fun m x w' => K0 w w' ∧ ∃ i : Nat, x = .int .i64 (i : Int) ∧ i ≤ l.length ∧ m = l.length - i ∧ ∀ s ∈ l.take i, ¬ P s) l.length ⟨Keep.refl _ _, 0, rfl, Nat.zero_le _, by omega, by simp⟩ ?_
  rintro m x w' ⟨k, i, rfl, hi, rfl, hok⟩ J hJ _
  by_cases hlt : i < l.length
  · have hlt' : ((i : Int) < (l.length : Int)) := by omega
    obtain ⟨b, o, c', e, hc', hcel⟩ := (h.keep0 k).at (by omega)
    injection e with e1 _ e2
    subst e1 e2
    have hs : l[i]? = some l[i] := List.getElem?_eq_getElem hlt
    obtain ⟨c0, c1, c2, c3, c4⟩ := wt_at hcel hs
    simp only [stp, Nat.reduceAdd, Int.reduceLT, Int.reduceLE, Int.reduceEq, Int.reduceNe, ne_eq, bne_self_eq_false, beq_self_eq_true, hlt']
    rw [ix_35 hlt]
    simp only [stp, Nat.reduceAdd, Int.reduceLT, Int.reduceLE, Int.reduceEq, Int.reduceNe, ne_eq, bne_self_eq_false, beq_self_eq_true, stm, c0, c1, c2, c3, c4]
    refine hp _ _ _ k (List.getElem_mem hlt) fun w2 g2 => ?_
    have hw := wrap_succ (i := i) (by omega)
    by_cases h0 : P l[i]
    · simp only [stp, Nat.reduceAdd, Int.reduceLT, Int.reduceLE, Int.reduceEq, Int.reduceNe, ne_eq, bne_self_eq_false, beq_self_eq_true, h0, hw]
      exact hq2 _ i _ (k.trans g2) hs h0 hok
    · simp only [stp, Nat.reduceAdd, Int.reduceLT, Int.reduceLE, Int.reduceEq, Int.reduceNe, ne_eq, bne_self_eq_false, beq_self_eq_true, h0, hw]
      refine hJ (l.length - (i + 1)) _ _ (by omega) ⟨k.trans g2, i + 1, rfl, by omega, rfl, fun s hm => ?_⟩
      rw [List.take_add_one, hs] at hm
      rcases List.mem_append.1 hm with hm | hm
      · exact hok s hm
      · simp at hm; subst hm; exact h0
  · have hlt' : ¬ ((i : Int) < (l.length : Int)) := by omega
    simp only [stp, Nat.reduceAdd, Int.reduceLT, Int.reduceLE, Int.reduceEq, Int.reduceNe, ne_eq, bne_self_eq_false, beq_self_eq_true, hlt']
    refine hq1 _ k fun s hs => hok s ?_
    rw [List.take_of_length_le (by omega)]; exact hs
theorem wt_delete {base : Nat} {f v : Value} {l : List I5} {P : I5 → Prop} [DecidablePred P] {w : World} {Q : Value → World → Prop} (hown : Own w base 50 5 v l.length (flat enc5 l)) (hl : l.length ≤ 1000000)
    (hp : ∀ w1 s (Q : Value → World → Prop), Keep (fun b => v.ownBlock = some b) w w1 → s ∈ l → (∀ w2, K0 w1 w2 → Q (.bool (decide (P s))) w2) → callF Tryz.prog f #[.agg #[.int .i64 s.1, .int .i64 s.2.1, .int .i64 s.2.2.1, .int .i64 s.2.2.2.1, .int .i64 s.2.2.2.2]] Q w1)
    (hq : ∀ w' v' (l' : List I5), l' = l.filter (fun s => decide (¬ P s)) → Own w' base 50 5 v' l'.length (flat enc5 l') → Keep (fun b => v.ownBlock = some b) w w' → (∀ g, v'.ownBlock = some g → v.ownBlock = some g) → Q v' w') :
    callS Tryz.prog 27 #[v, f] Q w := by
  refine ref27 ?_
  unfold S27
  refine wt_index (P := P) (F := fun _ => False) hown.rd hl (fun w1 s Q k hs hq => hp w1 s Q k.none hs hq) (fun w1 k1 hok => ?_) (fun w1 i0 s0 k1 hs0 hns hok => ?_)
  · simp only [stp, Nat.reduceAdd, Int.reduceLT, Int.reduceLE, Int.reduceEq, Int.reduceNe, ne_eq, bne_self_eq_false, beq_self_eq_true]
    refine hq w1 v l (by rw [List.filter_eq_self.2]; intro s hs; exact decide_eq_true (hok s hs)) (hown.keep k1 fun _ _ => id) k1.none fun _ => id
  · have hi0 := (List.getElem?_eq_some_iff.1 hs0).1
    obtain ⟨g, cap, rfl, hbg, hgs, hcap, hcm, hgf, _⟩ := hown.at (by omega)
    have hne : ¬ ((i0 : Int) = -1) := by omega
    have hw0 := wrap_succ (i := i0) (by omega)
    simp only [stp, Nat.reduceAdd, Int.reduceLT, Int.reduceLE, Int.reduceEq, Int.reduceNe, ne_eq, bne_self_eq_false, beq_self_eq_true, hne, hw0]
    have o1 := hown.keep k1 fun _ _ => id
    have hown1 : (Value.slice (some ⟨g, 0, none⟩) l.length cap).ownBlock = some g := rfl
    have f0 : (l.take (i0 + 1)).filter (fun s => decide (¬ P s)) = l.take i0 := by
      rw [List.take_add_one, hs0, List.filter_append, List.filter_eq_self.2 (fun s hs => decide_eq_true (hok s hs))]
      simp [hns]
    refine lp2 (fun m x y w' => Keep (fun b => b = g) w w' ∧ ∃ (i j : Nat) (cur : List I5), x = .int .i64 (i : Int) ∧ y = .int .i64 (j : Int) ∧ i < j ∧ j ≤ l.length ∧ m = l.length - j ∧ cur.length = l.length ∧
      Own w' base 50 5 (.slice (some ⟨g, 0, none⟩) l.length cap) l.length (flat enc5 cur) ∧ cur.take i = (l.take j).filter (fun s => decide (¬ P s)) ∧ cur.drop j = l.drop j) (l.length - (i0 + 1))
      ⟨k1.none, i0, i0 + 1, l, rfl, rfl, by omega, by omega, rfl, rfl, o1, f0.symm, rfl⟩ ?_
    rintro m x y w2 ⟨k2, i, j, cur, rfl, rfl, hij, hjl, rfl, hcl, o2, ht, hd⟩ J hJ _
    have s2 := k2.size
    simp only [stp, Nat.reduceAdd, Int.reduceLT, Int.reduceLE, Int.reduceEq, Int.reduceNe, ne_eq, bne_self_eq_false, beq_self_eq_true]
    by_cases hlt : j < l.length
    · have hlt' : ((j : Int) < (l.length : Int)) := by omega
      obtain ⟨g', cap', e, _, _, _, _, gf2, hcel⟩ := o2.at (by omega)
      injection e with e1 _ e2
      injection e1 with e1
      injection e1 with e1 _ _
      subst e1 e2
      have hsj : cur[j]? = some l[j] := by
        have := congrArg (fun r => r[0]?) hd
        simp only [List.getElem?_drop, Nat.add_zero] at this
        rw [this]; exact List.getElem?_eq_getElem hlt
      have hlj : l[j]? = some l[j] := List.getElem?_eq_getElem hlt
      obtain ⟨c0, c1, c2, c3, c4⟩ := wt_at (b := g) (o := 0) (l := cur) (by rw [hcl]; intro j' hj'; rw [Nat.zero_add]; exact hcel j' hj') hsj
      rw [Nat.zero_add] at c0 c1 c2 c3 c4
      have hd1 : cur.drop (j + 1) = l.drop (j + 1) := by
        have := congrArg (List.drop 1) hd
        simpa [List.drop_drop, Nat.add_comm] using this
      have ht1 : (l.take (j + 1)).filter (fun s => decide (¬ P s)) = (l.take j).filter (fun s => decide (¬ P s)) ++ (if P l[j] then [] else [l[j]]) := by
        rw [List.take_add_one, hlj, List.filter_append]
        by_cases h : P l[j] <;> simp [h]
      simp only [stp, Nat.reduceAdd, Int.reduceLT, Int.reduceLE, Int.reduceEq, Int.reduceNe, ne_eq, bne_self_eq_false, beq_self_eq_true, hlt']
      have hwj := wrap_succ (i := j) (by omega)
      have hwi := wrap_succ (i := i) (by omega)
      refine jn1 (fun x w' => Keep (fun b => b = g) w w' ∧ ∃ (i : Nat) (cur : List I5), x = .int .i64 (i : Int) ∧ i < j + 1 ∧ cur.length = l.length ∧
        Own w' base 50 5 (.slice (some ⟨g, 0, none⟩) l.length cap) l.length (flat enc5 cur) ∧ cur.take i = (l.take (j + 1)).filter (fun s => decide (¬ P s)) ∧ cur.drop (j + 1) = l.drop (j + 1)) (fun J' hJ' => ?_) ?_
      · rw [ix_35 hlt]
        simp only [stp, Nat.reduceAdd, Int.reduceLT, Int.reduceLE, Int.reduceEq, Int.reduceNe, ne_eq, bne_self_eq_false, beq_self_eq_true, stm, c0, c1, c2, c3, c4]
        have k3 := (Keep.refl (fun _ => False) w2).alloc (.cells #[.int .i64 l[j].1, .int .i64 l[j].2.1, .int .i64 l[j].2.2.1, .int .i64 l[j].2.2.2.1, .int .i64 l[j].2.2.2.2] 50)
        have o3 := o2.keep k3 fun _ _ => id
        have x0 : cel (w2.alloc (.cells #[.int .i64 l[j].1, .int .i64 l[j].2.1, .int .i64 l[j].2.2.1, .int .i64 l[j].2.2.2.1, .int .i64 l[j].2.2.2.2] 50)) (siz w2) 0 = some (.int .i64 l[j].1) := cel_alloc_new
        have x1 : cel (w2.alloc (.cells #[.int .i64 l[j].1, .int .i64 l[j].2.1, .int .i64 l[j].2.2.1, .int .i64 l[j].2.2.2.1, .int .i64 l[j].2.2.2.2] 50)) (siz w2) 1 = some (.int .i64 l[j].2.1) := cel_alloc_new
        have x2 : cel (w2.alloc (.cells #[.int .i64 l[j].1, .int .i64 l[j].2.1, .int .i64 l[j].2.2.1, .int .i64 l[j].2.2.2.1, .int .i64 l[j].2.2.2.2] 50)) (siz w2) 2 = some (.int .i64 l[j].2.2.1) := cel_alloc_new
        have x3 : cel (w2.alloc (.cells #[.int .i64 l[j].1, .int .i64 l[j].2.1, .int .i64 l[j].2.2.1, .int .i64 l[j].2.2.2.1, .int .i64 l[j].2.2.2.2] 50)) (siz w2) 3 = some (.int .i64 l[j].2.2.2.1) := cel_alloc_new
        have x4 : cel (w2.alloc (.cells #[.int .i64 l[j].1, .int .i64 l[j].2.1, .int .i64 l[j].2.2.1, .int .i64 l[j].2.2.2.1, .int .i64 l[j].2.2.2.2] 50)) (siz w2) 4 = some (.int .i64 l[j].2.2.2.2) := cel_alloc_new
        generalize w2.alloc (.cells #[.int .i64 l[j].1, .int .i64 l[j].2.1, .int .i64 l[j].2.2.1, .int .i64 l[j].2.2.2.1, .int .i64 l[j].2.2.2.2] 50) = w3 at k3 o3 x0 x1 x2 x3 x4
        refine hp _ _ _ ((k2.trans k3.none).mono fun b _ e => by subst e; rfl) (List.getElem_mem hlt) fun w4 k43 => ?_
        have k4 := k2.trans ((k3.trans k43).none)
        have o4 := o3.keep k43 fun _ _ => id
        have y0 := k43.cel x0 (by exact fun h => h)
        have y1 := k43.cel x1 (by exact fun h => h)
        have y2 := k43.cel x2 (by exact fun h => h)
        have y3 := k43.cel x3 (by exact fun h => h)
        have y4 := k43.cel x4 (by exact fun h => h)
        by_cases h0 : P l[j]
        · simp only [stp, Nat.reduceAdd, Int.reduceLT, Int.reduceLE, Int.reduceEq, Int.reduceNe, ne_eq, bne_self_eq_false, beq_self_eq_true, h0]
          refine hJ' _ _ ⟨k4, i, cur, rfl, by omega, hcl, o4, ?_, hd1⟩
          rw [ht1, if_pos h0, List.append_nil, ht]
        · simp only [stp, Nat.reduceAdd, Int.reduceLT, Int.reduceLE, Int.reduceEq, Int.reduceNe, ne_eq, bne_self_eq_false, beq_self_eq_true, stm, h0, y0, y1, y2, y3, y4]
          rw [ix_35 (show i < l.length by omega)]
          obtain ⟨g', cap', e, _, _, _, _, gf4, hcel4⟩ := o4.at (by omega)
          injection e with e1 _ e2
          injection e1 with e1
          injection e1 with e1 _ _
          subst e1 e2
          have z' : ∀ k, k < 5 → (cel w4 g (i * 5 + k)).isSome = true := fun k hk => by
            rw [hcel4 _ (by omega), List.getElem?_eq_getElem (by rw [flat_len enc5_len, hcl]; omega)]; rfl
          have z : ∀ k, k < 5 → (cel w4 g (0 + i * 5 + k)).isSome = true := fun k hk => by rw [Nat.zero_add]; exact z' k hk
          rw [st_50 one_int one_int one_int one_int one_int (show (cel w4 g (0 + i * 5)).isSome = true from z 0 (by omega)) (z 1 (by omega)) (z 2 (by omega)) (z 3 (by omega)) (z 4 (by omega)) gf4]
          simp only [stp, Nat.reduceAdd, Int.reduceLT, Int.reduceLE, Int.reduceEq, Int.reduceNe, ne_eq, bne_self_eq_false, beq_self_eq_true, hwi]
          have o5 := Own.setL [.int .i64 l[j].1, .int .i64 l[j].2.1, .int .i64 l[j].2.2.1, .int .i64 l[j].2.2.2.1, .int .i64 l[j].2.2.2.2] o4 (j := i * 5) (by simp; omega)
          have e5 : (flat enc5 cur).take (i * 5) ++ ([.int .i64 l[j].1, .int .i64 l[j].2.1, .int .i64 l[j].2.2.1, .int .i64 l[j].2.2.2.1, .int .i64 l[j].2.2.2.2] ++ (flat enc5 cur).drop (i * 5 + List.length (α := Value) [.int .i64 l[j].1, .int .i64 l[j].2.1, .int .i64 l[j].2.2.1, .int .i64 l[j].2.2.2.1, .int .i64 l[j].2.2.2.2])) = flat enc5 (cur.set i l[j]) := by
            rw [List.set_eq_take_append_cons_drop, if_pos (by omega), flat_append, flat_cons, ← flat_take enc5_len, ← flat_drop enc5_len]
            simp only [List.length_cons, List.length_nil, Nat.add_mul]
            rfl
          rw [e5] at o5
          try rw [Nat.zero_add]
          refine hJ' _ _ ⟨Keep.stoL _ _ k4 (.inl rfl), i + 1, cur.set i l[j], rfl, by omega, by rw [List.length_set]; exact hcl, ?_, ?_, ?_⟩
          · exact o5
          · rw [ht1, if_neg h0, ← ht, List.take_add_one, List.getElem?_set_self (by omega)]
            rw [List.take_set_of_le (by omega)]; rfl
          · rw [List.drop_set_of_lt (by omega), hd1]
      · rintro x w5 ⟨k5, i', cur', rfl, hi', hcl', o5, ht5, hd5⟩ _
        simp only [stp, Nat.reduceAdd, Int.reduceLT, Int.reduceLE, Int.reduceEq, Int.reduceNe, ne_eq, bne_self_eq_false, beq_self_eq_true, hwj]
        exact hJ (l.length - (j + 1)) _ _ _ (by omega) ⟨k5, i', j + 1, cur', rfl, rfl, hi', by omega, rfl, hcl', o5, ht5, hd5⟩
    · have hlt' : ¬ ((j : Int) < (l.length : Int)) := by omega
      have hj : j = l.length := by omega
      subst hj
      rw [List.take_length] at ht
      have hli : i = (l.filter (fun s => decide (¬ P s))).length := by
        rw [← ht, List.length_take]; omega
      have hkk : Keep (fun b => (Value.slice (some ⟨g, 0, none⟩) l.length cap).ownBlock = some b) w w2 := k2.mono fun b _ e => by subst e; rfl
      simp only [stp, Nat.reduceAdd, Int.reduceLT, Int.reduceLE, Int.reduceEq, Int.reduceNe, ne_eq, bne_self_eq_false, beq_self_eq_true, hlt']
      obtain ⟨g', cap', e, _, _, _, _, gf2, hcel⟩ := o2.at (by omega)
      injection e with e1 _ e2
      injection e1 with e1
      injection e1 with e1 _ _
      subst e1 e2
      have hne' : ¬ cap = i := by omega
      rw [slf_35 (show i ≤ l.length by omega) hcap, if_neg hne']
      have hzc : (Builtin.zeroCells (Value.agg #[.int .i64 0, .int .i64 0, .int .i64 0, .int .i64 0, .int .i64 0]).cells (l.length - i)).size = (l.length - i) * 5 := by simp [Builtin.zeroCells, Value.cells]
      rw [act_clearN (z := .agg #[.int .i64 0, .int .i64 0, .int .i64 0, .int .i64 0, .int .i64 0]) (fun w => Tryz.runUnderlying35 w) (fun w => Tryz.zeroValue50 w) (fun u hu => ?_) (fun j hj => ?_) gf2, slt_35 (show i ≤ cap by omega)]
      · have o3 := o2.cutL (m := i) (by omega) (Builtin.zeroCells (Value.agg #[.int .i64 0, .int .i64 0, .int .i64 0, .int .i64 0, .int .i64 0]).cells (l.length - i)).toList (by rw [Array.length_toList, hzc])
        rw [flat_take enc5_len, ht] at o3
        try rw [Nat.zero_add]
        refine hq _ _ _ rfl ?_ (Keep.stoL _ _ hkk (.inl rfl)) fun _ => id
        rw [← hli]; exact o3
      · simp only [Builtin.zeroCells, Array.toList_map, List.mem_map] at hu
        obtain ⟨t, _, rfl⟩ := hu
        simp only [Value.cells, List.size_toArray, List.length_cons, List.length_nil, Nat.zero_add, Nat.reduceAdd]
        have hm : t % 5 < 5 := Nat.mod_lt _ (by omega)
        generalize t % 5 = r at hm
        have hr : r = 0 ∨ r = 1 ∨ r = 2 ∨ r = 3 ∨ r = 4 := by omega
        clear hm
        rcases hr with rfl | rfl | rfl | rfl | rfl <;> first | exact one_int | exact one_str | exact one_bool | exact one_slice
      · simp only [Value.cells, List.size_toArray, List.length_cons, List.length_nil, Nat.zero_add, Nat.reduceAdd] at hj
        have hi2 : i * 5 + j < l.length * 5 := by
          have : l.length - i + i = l.length := by omega
          have := Nat.add_mul (l.length - i) i 5
          omega
        rw [Nat.zero_add, hcel _ hi2, List.getElem?_eq_getElem (by rw [flat_len enc5_len, hcl]; omega)]; rfl
end
end Go.Proofs.YtcekmdpiloegcaaGreat
/- The table of locks: whether a request would wait for one that waits for it. Conditions: as each says. -/
namespace Go.Proofs.YtcekmdpiloegcaaGreat
open Go.Sh Go.Proofs.YtcekmdpiloegcaaGreat.Mi
set_option maxRecDepth 100000
section
variable {w w' : World} {Q : Value → World → Prop} {B t : Nat} {s : TS}
theorem dead1_c {a b v : Int} (hq : ∀ w', K0 w w' → Q (.bool (decide (v = 1))) w') : callS Tryz.prog 42 #[.agg #[.int .i64 a, .int .i64 b, .int .i64 v]] Q w := by
  refine ref42 ?_
  unfold S42
  simp only [stp, Nat.reduceAdd, Int.reduceLT, Int.reduceLE, Int.reduceEq, Int.reduceNe, ne_eq, bne_self_eq_false, beq_self_eq_true, stm, act_box, agg_cells]
  have b1 : blk (w.alloc (.cells #[.int .i64 a, .int .i64 b, .int .i64 v] 65)) (siz w) = some (.cells #[.int .i64 a, .int .i64 b, .int .i64 v] 65) := blk_alloc_new
  have k1 : K0 w (w.alloc (.cells #[.int .i64 a, .int .i64 b, .int .i64 v] 65)) := (K0.refl w).alloc _
  generalize w.alloc (.cells #[.int .i64 a, .int .i64 b, .int .i64 v] 65) = w1 at b1 k1
  exact hq _ k1
theorem contains_c {v : Value} {l : List (Pt Int)} (h : Rd 3 w v l.length (flat enc l)) (hl : l.length ≤ 1000000) (hq : ∀ w', K0 w w' → Q (.bool (decide (∃ p ∈ l, p.2 = 1))) w') :
    callS Tryz.prog 41 #[v, .func (.func 42) #[] #[]] Q w := by
  refine ref41 ?_
  unfold S41
  refine pp_index (P := fun p : Pt Int => p.2 = 1) (F := fun _ => False) h hl (fun w1 s Q k hs hq => ?_) (fun w1 k1 hno => ?_) (fun w1 i p k1 hp h1 _ => ?_)
  · rw [callF_plain]
    exact dead1_c hq
  · have hn : ¬ ((0 : Int) ≤ -1) := by omega
    simp only [stp, Nat.reduceAdd, Int.reduceLT, Int.reduceLE, Int.reduceEq, Int.reduceNe, ne_eq, bne_self_eq_false, beq_self_eq_true, hn]
    have := hq _ k1
    rw [decide_eq_false (fun h => by obtain ⟨p, hp, h1⟩ := h; exact hno p hp h1)] at this
    exact this
  · have hn : (0 : Int) ≤ i := by omega
    simp only [stp, Nat.reduceAdd, Int.reduceLT, Int.reduceLE, Int.reduceEq, Int.reduceNe, ne_eq, bne_self_eq_false, beq_self_eq_true, hn]
    have := hq _ k1
    rw [decide_eq_true ⟨p, List.mem_of_getElem? hp, h1⟩] at this
    exact this
/-- A part that both hold shared, of one that waits to hold it alone. -/
def deadX (s : TS) (node : Nat) (k : I5) (sp : Sp) : Prop := ∃ x, hasB sp x ∧ hasB (k.2.2.1, k.2.2.2.1) x ∧ bl s node x = some 1
def deadK (s : TS) (node : Nat) (a b : Int) (k : I5) : Prop := k.2.1 ≠ (node : Int) ∧ k.2.2.2.2 = 2 ∧ ∃ p ∈ partsL (a, b) (s.hs[k.2.1.toNat]?.getD []), p.2 = 1 ∧ deadX s node k p.1
def deadP (s : TS) (node : Nat) (a b md : Int) : Prop := md = 2 ∧ ∃ k ∈ s.ws, deadK s node a b k
theorem TLr.c18 {ms : List Nat} {wv : Value} (h : TLr w B t s ms wv) : cel w t 18 = some wv := by
  rw [cel_b h.b]
  unfold tcells
  rw [List.getElem?_toArray, show (18 : Nat) = 17 + 1 from rfl, List.getElem?_cons_succ, List.getElem?_append_right (by simp [ptrs, h.n])]
  simp [ptrs, h.n]
theorem TLr.lists {ms : List Nat} {wv : Value} (h : TLr w B t s ms wv) : Lists s := fun l hl => by
  obtain ⟨i, hi, rfl⟩ := List.getElem_of_mem hl
  have hi' : i < 17 := by rw [h.hn] at hi; exact hi
  obtain ⟨m, l, _, e2, _, hm, _⟩ := h.node hi'
  rw [List.getElem?_eq_getElem hi] at e2
  injection e2 with e2
  rw [e2]
  exact hm.canon
theorem TL.lists (h : TL w B t s) : Lists s := by obtain ⟨_, _, h⟩ := h; exact h.lists
/-- Requests that wait are of nodes that there are. -/
def WsN (s : TS) : Prop := ∀ k ∈ s.ws, 1 ≤ k.2.1 ∧ k.2.1 ≤ s.nodes
theorem dead_c {node : Nat} {a b md : Int} (h : TL w B t s) (hok : WsOk s.ws) (hwn : WsN s) (hn : 1 ≤ node) (hn' : (node : Int) ≤ s.nodes)
    (hq : ∀ w' r, (r = true ↔ deadP s node a b md) → K0 w w' → Q (.bool r) w') :
    callS Tryz.prog 21 #[.pointer (some ⟨t, 0, none⟩), .int .i64 (node : Int), .agg #[.int .i64 a, .int .i64 b, .int .i64 md]] Q w := by
  refine ref21 ?_
  unfold S21
  have hL := h.lists
  obtain ⟨ms, wv, h⟩ := h
  simp only [stp, Nat.reduceAdd, Int.reduceLT, Int.reduceLE, Int.reduceEq, Int.reduceNe, ne_eq, bne_self_eq_false, beq_self_eq_true, stm, act_box, agg_cells]
  have b1 : blk (w.alloc (.cells #[.int .i64 a, .int .i64 b, .int .i64 md] 29)) (siz w) = some (.cells #[.int .i64 a, .int .i64 b, .int .i64 md] 29) := blk_alloc_new
  have k1 : K0 w (w.alloc (.cells #[.int .i64 a, .int .i64 b, .int .i64 md] 29)) := (K0.refl w).alloc _
  generalize w.alloc (.cells #[.int .i64 a, .int .i64 b, .int .i64 md] 29) = w1 at b1 k1
  have c2 : cel w1 (siz w) 2 = some (.int .i64 md) := by rw [cel_b b1]; rfl
  by_cases hmd : md = 2
  case neg =>
    simp only [stp, Nat.reduceAdd, Int.reduceLT, Int.reduceLE, Int.reduceEq, Int.reduceNe, ne_eq, bne_self_eq_false, beq_self_eq_true, stm, c2, hmd]
    exact hq _ _ ⟨fun h => (by cases h), fun h => absurd h.1 hmd⟩ k1
  subst hmd
  have hwr := (h.keep0 k1).wr.rd
  have c18 := (h.keep0 k1).c18
  obtain ⟨pa, ca, rfl⟩ := hwr.form
  have hlw := hok.1
  have hnlt : node < 17 := by have := h.nn.2; omega
  simp only [stp, Nat.reduceAdd, Int.reduceLT, Int.reduceLE, Int.reduceEq, Int.reduceNe, ne_eq, bne_self_eq_false, beq_self_eq_true, stm, c2, c18]
  refine lpc1 s.ws.length (by omega) (fun i w' => K0 w1 w' ∧ ∀ k ∈ s.ws.take i, ¬ deadK s node a b k) ⟨K0.refl _, by simp⟩ ?_ ?_
  · rintro i w2 hi ⟨k2, hno⟩ J hJ _j
    have hi' : (i : Int) < (s.ws.length : Int) := by omega
    have h2 := (h.keep0 k1).keep0 k2
    have b2 := k2.blk b1 (by exact fun h => h)
    obtain ⟨b0, o, rfl, q0, q1, q2, q3, q4⟩ := ws_at (hwr.keep0 k2) hi
    simp only [stp, Nat.reduceAdd, Int.reduceLT, Int.reduceLE, Int.reduceEq, Int.reduceNe, ne_eq, bne_self_eq_false, beq_self_eq_true, hi']
    refine jn0 (fun w' => K0 w1 w' ∧ ¬ deadK s node a b s.ws[i]) (fun J1 hJ1 => ?_) ?_
    · rw [ix_35 hi]
      simp only [stp, Nat.reduceAdd, Int.reduceLT, Int.reduceLE, Int.reduceEq, Int.reduceNe, ne_eq, bne_self_eq_false, beq_self_eq_true, stm, q0, q1, q2, q3, q4]
      have k3 : K0 w2 (w2.alloc (.cells #[.int .i64 s.ws[i].1, .int .i64 s.ws[i].2.1, .int .i64 s.ws[i].2.2.1, .int .i64 s.ws[i].2.2.2.1, .int .i64 s.ws[i].2.2.2.2] 50)) := (K0.refl w2).alloc _
      have b3 : blk (w2.alloc (.cells #[.int .i64 s.ws[i].1, .int .i64 s.ws[i].2.1, .int .i64 s.ws[i].2.2.1, .int .i64 s.ws[i].2.2.2.1, .int .i64 s.ws[i].2.2.2.2] 50)) (siz w2) = some (.cells #[.int .i64 s.ws[i].1, .int .i64 s.ws[i].2.1, .int .i64 s.ws[i].2.2.1, .int .i64 s.ws[i].2.2.2.1, .int .i64 s.ws[i].2.2.2.2] 50) := blk_alloc_new
      generalize w2.alloc (.cells #[.int .i64 s.ws[i].1, .int .i64 s.ws[i].2.1, .int .i64 s.ws[i].2.2.1, .int .i64 s.ws[i].2.2.2.1, .int .i64 s.ws[i].2.2.2.2] 50) = w3 at k3 b3
      have hkn := hwn _ (List.getElem_mem hi)
      have hkw : s.ws[i] ∈ s.ws := List.getElem_mem hi
      have hdK : deadK s node a b s.ws[i] → deadP s node a b 2 := fun h => ⟨rfl, _, hkw, h⟩
      generalize s.ws[i] = k at *
      obtain ⟨z0, z1, z2, z3, z4⟩ := wait_cells b3
      by_cases hkn1 : k.2.1 = (node : Int)
      · simp only [stp, Nat.reduceAdd, Int.reduceLT, Int.reduceLE, Int.reduceEq, Int.reduceNe, ne_eq, bne_self_eq_false, beq_self_eq_true, stm, z1, hkn1]
        exact hJ1 _ ⟨k2.trans k3, fun h => h.1 hkn1⟩
      by_cases hkm : k.2.2.2.2 = 2
      case neg =>
        simp only [stp, Nat.reduceAdd, Int.reduceLT, Int.reduceLE, Int.reduceEq, Int.reduceNe, ne_eq, bne_self_eq_false, beq_self_eq_true, stm, z1, z4, hkn1, hkm]
        exact hJ1 _ ⟨k2.trans k3, fun h => hkm h.2.1⟩
      simp only [stp, Nat.reduceAdd, Int.reduceLT, Int.reduceLE, Int.reduceEq, Int.reduceNe, ne_eq, bne_self_eq_false, beq_self_eq_true, stm, z1, z4, hkn1, hkm]
      have h3 := h2.keep0 k3
      have b13 := k3.blk b2 (by exact fun h => h)
      obtain ⟨u, hu⟩ : ∃ u : Nat, k.2.1 = (u : Int) := ⟨k.2.1.toNat, by omega⟩
      have hu17 : u < 17 := by have := h.nn.2; omega
      obtain ⟨m, l, e1, e2, e3, hm, hd⟩ := h3.node hu17
      have hl := canon_len (n := 4096) hm.canon hd
      have y0 : cel w3 (siz w) 0 = some (.int .i64 a) := by rw [cel_b b13]; rfl
      have y1 : cel w3 (siz w) 1 = some (.int .i64 b) := by rw [cel_b b13]; rfl
      rw [hu, ixa hu17]
      simp only [stp, Nat.reduceAdd, Int.reduceLT, Int.reduceLE, Int.reduceEq, Int.reduceNe, ne_eq, bne_self_eq_false, beq_self_eq_true, stm, e3, y0, y1]
      refine parts_c (a := a) (b := b) (w := w3.drew) (hm.keep0 (K0.refl _).drew) (by omega) fun w4 v4 o4 k4 => ?_
      have k4 : K0 w3 w4 := ((K0.refl w3).drew).trans k4
      have hPl := partsL_len (a, b) l
      have hPc := partsL_canon (s := (a, b)) hm.canon
      have hkP : ∀ p ∈ partsL (a, b) l, p.2 = 1 → deadX s node k p.1 → deadK s node a b k := fun p hp h1 h2 => ⟨hkn1, hkm, p, by rw [show k.2.1.toNat = u by omega, e2]; exact hp, h1, h2⟩
      have hkP' : deadK s node a b k → ∃ p ∈ partsL (a, b) l, p.2 = 1 ∧ deadX s node k p.1 := fun h => by
        obtain ⟨_, _, p, hp, h1, h2⟩ := h
        rw [show k.2.1.toNat = u by omega, e2] at hp
        exact ⟨p, hp, h1, h2⟩
      generalize hP : partsL (a, b) l = P at *
      obtain ⟨p4, c4, rfl⟩ := o4.form
      have b4 := k4.blk b3 (by exact fun h => h)
      simp only [stp, Nat.reduceAdd, Int.reduceLT, Int.reduceLE, Int.reduceEq, Int.reduceNe, ne_eq, bne_self_eq_false, beq_self_eq_true]
      refine lpc1 P.length (by omega) (fun j w' => K0 w4 w' ∧ ∀ p ∈ P.take j, ¬ (p.2 = 1 ∧ deadX s node k p.1)) ⟨K0.refl _, by simp⟩ ?_ ?_
      · rintro j w5 hj ⟨k5, hnp⟩ J2 hJ2 _j
        have hj' : (j : Int) < (P.length : Int) := by omega
        obtain ⟨g, rfl, r0, r1, r2⟩ := part_at (o4.keep k5 fun _ _ e => e) hj
        have b5 := k5.blk b4 (by exact fun h => h)
        have hcn := hPc.1 _ (List.getElem_mem hj)
        simp only [stp, Nat.reduceAdd, Int.reduceLT, Int.reduceLE, Int.reduceEq, Int.reduceNe, ne_eq, bne_self_eq_false, beq_self_eq_true, hj']
        refine jn0 (fun w' => K0 w4 w' ∧ ¬ (P[j].2 = 1 ∧ deadX s node k P[j].1)) (fun J3 hJ3 => ?_) ?_
        · rw [ix_62 hj, Nat.zero_add]
          simp only [stp, Nat.reduceAdd, Int.reduceLT, Int.reduceLE, Int.reduceEq, Int.reduceNe, ne_eq, bne_self_eq_false, beq_self_eq_true, stm, r0, r1, r2]
          have b6 : blk (w5.alloc (.cells #[.int .i64 P[j].1.1, .int .i64 P[j].1.2, .int .i64 P[j].2] 65)) (siz w5) = some (.cells #[.int .i64 P[j].1.1, .int .i64 P[j].1.2, .int .i64 P[j].2] 65) := blk_alloc_new
          have k6 : K0 w5 (w5.alloc (.cells #[.int .i64 P[j].1.1, .int .i64 P[j].1.2, .int .i64 P[j].2] 65)) := (K0.refl w5).alloc _
          generalize w5.alloc (.cells #[.int .i64 P[j].1.1, .int .i64 P[j].1.2, .int .i64 P[j].2] 65) = w6 at b6 k6
          have d0 : cel w6 (siz w5) 0 = some (.int .i64 P[j].1.1) := by rw [cel_b b6]; rfl
          have d1 : cel w6 (siz w5) 1 = some (.int .i64 P[j].1.2) := by rw [cel_b b6]; rfl
          have b36 := k6.blk b5 (by exact fun h => h)
          obtain ⟨z0, z1, z2, z3, z4⟩ := wait_cells b36
          have hPj : P[j] ∈ P := List.getElem_mem hj
          generalize P[j] = p at *
          simp only [stp, Nat.reduceAdd, Int.reduceLT, Int.reduceLE, Int.reduceEq, Int.reduceNe, ne_eq, bne_self_eq_false, beq_self_eq_true, stm, d0, d1, z2, z3]
          refine meet_c fun w7 g7 => ?_
          have k7 : K0 w6 w7 := g7.1
          have kk7 := (k5.trans k6).trans k7
          by_cases hm7 : meetsB p.1 (k.2.2.1, k.2.2.2.1)
          case neg =>
            rw [if_neg (show ¬ (ok (p.1.1, p.1.2) ∧ ok (k.2.2.1, k.2.2.2.1) ∧ ok (max p.1.1 k.2.2.1, min p.1.2 k.2.2.2.1)) from hm7)]
            simp only [stp, Nat.reduceAdd, Int.reduceLT, Int.reduceLE, Int.reduceEq, Int.reduceNe, ne_eq, bne_self_eq_false, beq_self_eq_true, stm]
            refine hJ3 _ ⟨kk7.alloc _, fun ⟨_, x, h1, h2, _⟩ => hm7 ⟨h1.1, h2.1, ?_, ?_⟩⟩
            · have := h1.1.1; have := h2.1.1
              dsimp only at *
              omega
            · have := h1.2; have := h2.2
              dsimp only at *
              omega
          rw [if_pos (show ok (p.1.1, p.1.2) ∧ ok (k.2.2.1, k.2.2.2.1) ∧ ok (max p.1.1 k.2.2.1, min p.1.2 k.2.2.2.1) from hm7)]
          simp only [stp, Nat.reduceAdd, Int.reduceLT, Int.reduceLE, Int.reduceEq, Int.reduceNe, ne_eq, bne_self_eq_false, beq_self_eq_true, stm]
          have k8 : K0 w7 (w7.alloc (.cells #[.int .i64 (max p.1.1 k.2.2.1), .int .i64 (min p.1.2 k.2.2.2.1)] 27)) := (K0.refl w7).alloc _
          have b8 : blk (w7.alloc (.cells #[.int .i64 (max p.1.1 k.2.2.1), .int .i64 (min p.1.2 k.2.2.2.1)] 27)) (siz w7) = some (.cells #[.int .i64 (max p.1.1 k.2.2.1), .int .i64 (min p.1.2 k.2.2.2.1)] 27) := blk_alloc_new
          generalize w7.alloc (.cells #[.int .i64 (max p.1.1 k.2.2.1), .int .i64 (min p.1.2 k.2.2.2.1)] 27) = w8 at k8 b8
          have d2 : cel w8 (siz w5) 2 = some (.int .i64 p.2) := by rw [cel_b (k8.blk (k7.blk b6 (by exact fun h => h)) (by exact fun h => h))]; rfl
          by_cases hp1 : p.2 = 1
          case neg =>
            simp only [stp, Nat.reduceAdd, Int.reduceLT, Int.reduceLE, Int.reduceEq, Int.reduceNe, ne_eq, bne_self_eq_false, beq_self_eq_true, stm, d2, hp1]
            exact hJ3 _ ⟨kk7.trans k8, fun h => hp1 h.1⟩
          simp only [stp, Nat.reduceAdd, Int.reduceLT, Int.reduceLE, Int.reduceEq, Int.reduceNe, ne_eq, bne_self_eq_false, beq_self_eq_true, stm, d2, hp1]
          have kA := ((k4.trans kk7).trans k8)
          have h8 := h3.keep0 kA
          obtain ⟨mn, ln, en1, en2, en3, hmn, hdn⟩ := h8.node hnlt
          have hln := canon_len (n := 4096) hmn.canon hdn
          rw [ixa hnlt]
          have s0 : cel w8 (siz w7) 0 = some (.int .i64 (max p.1.1 k.2.2.1)) := by rw [cel_b b8]; rfl
          have s1 : cel w8 (siz w7) 1 = some (.int .i64 (min p.1.2 k.2.2.2.1)) := by rw [cel_b b8]; rfl
          simp only [stp, Nat.reduceAdd, Int.reduceLT, Int.reduceLE, Int.reduceEq, Int.reduceNe, ne_eq, bne_self_eq_false, beq_self_eq_true, stm, en3, s0, s1]
          refine parts_c (a := max p.1.1 k.2.2.1) (b := min p.1.2 k.2.2.2.1) (w := w8.drew) (hmn.keep0 (K0.refl _).drew) (by omega) fun w9 v9 o9 k9 => ?_
          have k9 : K0 w8 w9 := ((K0.refl w8).drew).trans k9
          have hPn := partsL_len (max p.1.1 k.2.2.1, min p.1.2 k.2.2.2.1) ln
          refine contains_c o9.rd (by omega) fun w10 k10 => ?_
          have kk10 := ((kk7.trans k8).trans k9).trans k10
          have key : (∃ q ∈ partsL (max p.1.1 k.2.2.1, min p.1.2 k.2.2.2.1) ln, q.2 = 1) ↔ deadX s node k p.1 := by
            have hb : bl s node = valB ln := by unfold bl; rw [en2]; rfl
            constructor
            · rintro ⟨q, hq, hq1⟩
              have hqc := (partsL_canon (s := (max p.1.1 k.2.2.1, min p.1.2 k.2.2.2.1)) hmn.canon).1 q hq
              obtain ⟨v1, v2⟩ := part_in hmn.canon hq (x := q.1.1) ⟨hqc, Int.le_refl _, hqc.2⟩
              have v3 := v2.2
              dsimp only at v3
              refine ⟨q.1.1, ⟨hm7.1, by omega, by omega⟩, ⟨hm7.2.1, ?_, ?_⟩, ?_⟩
              · show k.2.2.1 ≤ q.1.1; omega
              · show q.1.1 < k.2.2.2.1; omega
              · rw [hb, v1, hq1]
            · rintro ⟨x, x1, x2, x3⟩
              rw [hb] at x3
              obtain ⟨q, hq, _, hq2⟩ := part_of hmn.canon (a := max p.1.1 k.2.2.1) (b := min p.1.2 k.2.2.2.1) (x := x) ⟨hm7.2.2, by have := x1.2.1; have := x2.2.1; dsimp only at *; omega, by have := x1.2.2; have := x2.2.2; dsimp only at *; omega⟩ x3
              exact ⟨q, hq, hq2⟩
          by_cases hx : ∃ q ∈ partsL (max p.1.1 k.2.2.1, min p.1.2 k.2.2.2.1) ln, q.2 = 1
          · rw [decide_eq_true hx]
            simp only [stp, Nat.reduceAdd, Int.reduceLT, Int.reduceLE, Int.reduceEq, Int.reduceNe, ne_eq, bne_self_eq_false, beq_self_eq_true]
            exact hq _ _ ⟨fun _ => hdK (hkP p hPj hp1 (key.1 hx)), fun _ => rfl⟩ ((((k1.trans k2).trans k3).trans k4).trans kk10)
          · rw [decide_eq_false hx]
            simp only [stp, Nat.reduceAdd, Int.reduceLT, Int.reduceLE, Int.reduceEq, Int.reduceNe, ne_eq, bne_self_eq_false, beq_self_eq_true]
            exact hJ3 _ ⟨kk10, fun h => hx (key.2 h.2)⟩
        · rintro w6 ⟨k6, hnp'⟩ _j
          refine hJ2 _ ⟨k6, fun p hp => ?_⟩
          rw [List.take_add_one, List.getElem?_eq_getElem hj, Option.toList_some, List.mem_append, List.mem_singleton] at hp
          rcases hp with hp | rfl
          · exact hnp p hp
          · exact hnp'
      · rintro w5 ⟨k5, hnp⟩ J2 _j
        have hn : ¬ ((P.length : Int) < (P.length : Int)) := by omega
        rw [List.take_length] at hnp
        simp only [stp, Nat.reduceAdd, Int.reduceLT, Int.reduceLE, Int.reduceEq, Int.reduceNe, ne_eq, bne_self_eq_false, beq_self_eq_true, hn]
        refine hJ1 _ ⟨((k2.trans k3).trans k4).trans k5, fun h => ?_⟩
        obtain ⟨p, hp, h1⟩ := hkP' h
        exact hnp p hp h1
    · rintro w3 ⟨k3, hnk⟩ _j
      refine hJ _ ⟨k3, fun k hk => ?_⟩
      rw [List.take_add_one, List.getElem?_eq_getElem hi, Option.toList_some, List.mem_append, List.mem_singleton] at hk
      rcases hk with hk | rfl
      · exact hno k hk
      · exact hnk
  · rintro w2 ⟨k2, hno⟩ J _j
    have hn : ¬ ((s.ws.length : Int) < (s.ws.length : Int)) := by omega
    rw [List.take_length] at hno
    simp only [stp, Nat.reduceAdd, Int.reduceLT, Int.reduceLE, Int.reduceEq, Int.reduceNe, ne_eq, bne_self_eq_false, beq_self_eq_true, hn]
    refine hq _ _ ⟨fun h => (by cases h), fun h => ?_⟩ (k1.trans k2)
    obtain ⟨_, k, hk, h1⟩ := h
    exact absurd h1 (hno k hk)
end
end Go.Proofs.YtcekmdpiloegcaaGreat
