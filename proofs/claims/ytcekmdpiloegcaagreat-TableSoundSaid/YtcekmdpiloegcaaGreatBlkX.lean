/- Maps of blocks, pointwise: their sizes; what raising, cutting and asking leave: plain, of no program. Conditions: none. -/
import Derived.Test.YtcekmdpiloegcaaGreatModeX
set_option linter.unusedVariables false
set_option linter.unusedSectionVars false
set_option linter.unusedSimpArgs false
namespace Go.Sh

abbrev BF := Int → Option Int
/-- All blocks lie below n. -/
def Bd {V : Type} (n : Int) (l : List (Pt V)) : Prop := ∀ p ∈ l, p.1.2 ≤ n
section
variable {V : Type} [DecidableEq V]
theorem canon_len_from {n : Int} : ∀ {l : List (Pt V)} {a : Int}, Canon l → Bd n l → (∀ p ∈ l, a ≤ p.1.1) → a ≤ n → (l.length : Int) ≤ n - a
  | [], a, _, _, _, h => by simp; omega
  | p :: l, a, hc, hb, ha, hn => by
    have h1 := hc.1 p (by simp)
    have h2 := ha p (by simp)
    have h3 := hb p (by simp)
    have hpw := List.pairwise_cons.1 hc.2
    have := canon_len_from (l := l) (a := p.1.2) ⟨fun q hq => hc.1 q (by simp [hq]), hpw.2⟩ (fun q hq => hb q (by simp [hq])) (fun q hq => by
      rcases hpw.1 q hq with h | h <;> omega) h3
    have := h1.2
    rw [List.length_cons]; omega
theorem canon_len {n : Nat} {l : List (Pt V)} (hc : Canon l) (hb : Bd (n : Int) l) : l.length ≤ n := by
  have := canon_len_from hc hb (a := 0) (fun p hp => (hc.1 p hp).1) (by omega)
  omega
/-- Below n, told by the blocks. -/
theorem bd_of_val {n : Int} {l : List (Pt V)} (hc : Canon l) (h : ∀ x, n ≤ x → valB l x = none) : Bd n l := fun p hp => by
  have ho := hc.1 p hp
  rcases Int.lt_or_le n p.1.2 with h1 | h1
  · have h2 := ho.2
    have := valB_mem hc.apart hp (x := p.1.2 - 1) ⟨ho, by omega, by omega⟩
    rw [h _ (by omega)] at this
    cases this
  · exact h1
theorem val_of_bd {n : Int} {l : List (Pt V)} (h : Bd n l) {x : Int} (hx : n ≤ x) : valB l x = none := valB_none.2 fun p hp hh => by
  have := h p hp
  have := hh.2.2
  omega
theorem val_neg {l : List (Pt V)} {x : Int} (hx : x < 0) : valB l x = none := valB_none.2 fun p hp hh => by
  have := hh.1.1
  have := hh.2.1
  omega
theorem chg_canon {l : List (Pt V)} : Chg (valB l) (l.flatMap fun p => [p.1.1, p.1.2]) := by
  induction l with
  | nil => exact fun x hx => absurd rfl hx
  | cons p l ih =>
    have := chg_upd (s := p.1) (g := fun _ => some p.2) (f' := valB (p :: l)) ih fun x => by rw [valB_cons]
    exact this.mono fun x hx => by simpa [or_assoc] using hx
theorem flat2_len (l : List (Pt V)) : (l.flatMap fun p => [p.1.1, p.1.2]).length = 2 * l.length := by
  induction l with
  | nil => rfl
  | cons p l ih => rw [List.flatMap_cons, List.length_append, ih, List.length_cons]; simp; omega
/-- Where a map is made of two others, block by block. -/
def Chp {U : Type} (g : Int → U) (E : List Int) : Prop := ∀ x, g x ≠ g (x - 1) → x ∈ E
theorem chg_pair {U W : Type} {f : Int → Option U} {g : Int → Option W} {E G : List Int} (hf : Chg f E) (hg : Chg g G) : Chp (fun x => (f x, g x)) (E ++ G) := fun x hx => by
  by_cases h1 : f x = f (x - 1)
  · by_cases h2 : g x = g (x - 1)
    · exact absurd (by simp only [h1, h2]) hx
    · exact List.mem_append.2 (.inr (hg x h2))
  · exact List.mem_append.2 (.inl (hf x h1))
theorem chg_two {U W : Type} {f : Int → Option V} {g : Int → U} {h : Int → Option W} {E G : List Int} (F : Option V → U → Option W) (hf : Chg f E) (hg : Chp g G) (hh : ∀ x, h x = F (f x) (g x)) : Chg h (E ++ G) := fun x hx => by
  by_cases h1 : f x = f (x - 1)
  · by_cases h2 : g x = g (x - 1)
    · exact absurd (by rw [hh, hh, h1, h2]) hx
    · exact List.mem_append.2 (.inr (hg x h2))
  · exact List.mem_append.2 (.inl (hf x h1))
end
/-- Modes that locks may have. -/
def okM (l : List (Pt Int)) : Prop := ∀ p ∈ l, p.2 = 1 ∨ p.2 = 2
theorem ask1_none {f : BF} {k : I3} {x : Int} (h : ¬ onM k x) : ask1 f k x = f x := by
  unfold ask1
  split
  · rename_i hm
    unfold updM
    rw [if_neg fun hx => h ⟨hm, hx⟩]
  · rfl
theorem ask1_on {f : BF} {k : I3} {x : Int} (h : onM k x) : ask1 f k x = some (match f x with | some v => max v k.2.2 | none => k.2.2) := by
  unfold ask1
  rw [if_pos h.1]
  unfold updM
  rw [if_pos h.2]
  cases f x <;> rfl
/-- A canonical list, asked for as locks, is what it was. -/
theorem askF_asLocks {l : List (Pt Int)} (hc : Canon l) (hm : okM l) : askF (asLocks l) = valB l := funext fun x => by
  have h1 := askF_is (asLocks l) x
  cases hv : valB l x with
  | none =>
    rw [valB_none] at hv
    cases ha : askF (asLocks l) x with
    | none => rfl
    | some v =>
      rw [ha] at h1
      obtain ⟨⟨k, hk, h2, _⟩, _⟩ := h1
      obtain ⟨p, hp, rfl⟩ := List.mem_map.1 hk
      exact absurd h2.2 (hv p hp)
  | some v =>
    obtain ⟨p, hp, hh, rfl⟩ := valB_some hv
    have hon : onM (p.1.1, p.1.2, p.2) x := ⟨hm p hp, hh⟩
    have hmem : (p.1.1, p.1.2, p.2) ∈ asLocks l := List.mem_map.2 ⟨p, hp, rfl⟩
    cases ha : askF (asLocks l) x with
    | none =>
      rw [ha] at h1
      exact absurd hon (h1 _ hmem)
    | some u =>
      rw [ha] at h1
      obtain ⟨⟨k, hk, h2, rfl⟩, _⟩ := h1
      obtain ⟨q, hq, rfl⟩ := List.mem_map.1 hk
      have := valB_mem hc.apart hq h2.2
      rw [hv] at this
      injection this with this
      simp [this]
theorem okM_of {l : List (Pt Int)} {L : List I3} (hc : Canon l) (h : ∀ x, valB l x = askF L x) : okM l := fun p hp => by
  have ho := hc.1 p hp
  have := valB_mem hc.apart hp ⟨ho, Int.le_refl _, ho.2⟩
  rw [h] at this
  exact askF_mode this
theorem take_val {V : Type} [DecidableEq V] {l : List (Pt V)} (h : Apart l) {i : Nat} (hi : i < l.length) (x : Int) : valB (l.take (i + 1)) x = (if hasB l[i].1 x then some l[i].2 else valB (l.take i) x) ∧ (hasB l[i].1 x → valB (l.take i) x = none) := by
  have hsi : l[i]? = some l[i] := List.getElem?_eq_getElem hi
  have e : l.take i ++ [l[i]] = l.take (i + 1) := by rw [List.take_add_one, hsi]; rfl
  have ha : Apart (l.take i ++ [l[i]]) := by
    rw [e]
    exact ⟨fun p hp => h.1 p (List.mem_of_mem_take hp), h.2.sublist (List.take_sublist _ _)⟩
  have hdis : hasB l[i].1 x → valB (l.take i) x = none := fun hx => valB_none.2 fun p hp hh => (List.pairwise_append.1 ha.2).2.2 p hp l[i] (by simp) x ⟨hh, hx⟩
  refine ⟨?_, hdis⟩
  rw [← e, valB_append]
  by_cases hx : hasB l[i].1 x
  · rw [if_pos hx, hdis hx]; simp [valB, hx]
  · rw [if_neg hx]; simp [valB, hx]
theorem valB_take_none {V : Type} [DecidableEq V] {l : List (Pt V)} {x : Int} (h : valB l x = none) (i : Nat) : valB (l.take i) x = none :=
  valB_none.2 fun p hp => valB_none.1 h p (List.mem_of_mem_take hp)
/-- Turned where another map has blocks. -/
def overB (F : Option Int → Int → Option Int) (H A : BF) : BF := fun x => match A x with | none => H x | some v => F (H x) v
theorem over_none {F : Option Int → Int → Option Int} {H A : BF} {x : Int} (h : A x = none) : overB F H A x = H x := by unfold overB; rw [h]
theorem over_some {F : Option Int → Int → Option Int} {H A : BF} {x v : Int} (h : A x = some v) : overB F H A x = F (H x) v := by unfold overB; rw [h]
theorem over_nil {F : Option Int → Int → Option Int} {H : BF} : overB F H (valB ([] : List (Pt Int))) = H := rfl
theorem over_take {F : Option Int → Int → Option Int} {H : BF} {N : List (Pt Int)} (hc : Apart N) {i : Nat} (hi : i < N.length) (x : Int) :
    overB F H (valB (N.take (i + 1))) x = if hasB N[i].1 x then F (overB F H (valB (N.take i)) x) N[i].2 else overB F H (valB (N.take i)) x := by
  obtain ⟨h1, h2⟩ := take_val hc hi x
  by_cases hx : hasB N[i].1 x
  · rw [if_pos hx] at h1 ⊢
    rw [over_some h1, over_none (h2 hx)]
  · rw [if_neg hx] at h1 ⊢
    unfold overB
    rw [h1]
theorem over_bd {F : Option Int → Int → Option Int} {H : BF} {N : List (Pt Int)} {n : Int} (hH : ∀ x, n ≤ x → H x = none) (hN : Bd n N) (i : Nat) {x : Int} (hx : n ≤ x) : overB F H (valB (N.take i)) x = none := by
  rw [over_none (valB_take_none (val_of_bd hN hx) i)]; exact hH x hx
/-- Turned where another map has blocks, each block in its own way. -/
def overX (F : Int → Option Int → Int → Option Int) (H A : BF) : BF := fun x => match A x with | none => H x | some v => F x (H x) v
theorem overX_none {F : Int → Option Int → Int → Option Int} {H A : BF} {x : Int} (h : A x = none) : overX F H A x = H x := by unfold overX; rw [h]
theorem overX_some {F : Int → Option Int → Int → Option Int} {H A : BF} {x v : Int} (h : A x = some v) : overX F H A x = F x (H x) v := by unfold overX; rw [h]
theorem overX_take {F : Int → Option Int → Int → Option Int} {H : BF} {N : List (Pt Int)} (hc : Apart N) {i : Nat} (hi : i < N.length) (x : Int) :
    overX F H (valB (N.take (i + 1))) x = if hasB N[i].1 x then F x (overX F H (valB (N.take i)) x) N[i].2 else overX F H (valB (N.take i)) x := by
  obtain ⟨h1, h2⟩ := take_val hc hi x
  by_cases hx : hasB N[i].1 x
  · rw [if_pos hx] at h1 ⊢
    rw [overX_some h1, overX_none (h2 hx)]
  · rw [if_neg hx] at h1 ⊢
    unfold overX
    rw [h1]
theorem overX_bd {F : Int → Option Int → Int → Option Int} {H : BF} {N : List (Pt Int)} {n : Int} (hH : ∀ x, n ≤ x → H x = none) (hN : Bd n N) (i : Nat) {x : Int} (hx : n ≤ x) : overX F H (valB (N.take i)) x = none := by
  rw [overX_none (valB_take_none (val_of_bd hN hx) i)]; exact hH x hx
/-- What is revoked: the least mode counts. -/
def gone1 (f : BF) (k : I3) : BF := fun x => if hasB (k.1, k.2.1) x then some (match f x with | some v => min v k.2.2 | none => k.2.2) else f x
def goneF (L : List I3) : BF := L.foldl gone1 fun _ => none
theorem goneF_snoc (L : List I3) (k : I3) : goneF (L ++ [k]) = gone1 (goneF L) k := by unfold goneF; rw [List.foldl_append]; rfl
theorem goneF_bd {n x : Int} (hx : n ≤ x) : ∀ (L : List I3) {f : BF}, (∀ k ∈ L, k.2.1 ≤ n) → f x = none → L.foldl gone1 f x = none
  | [], f, _, hf => hf
  | k :: L, f, h, hf => goneF_bd hx L (fun q hq => h q (by simp [hq])) (by
    unfold gone1
    have := h k (by simp)
    rw [if_neg fun hh => by have := hh.2.2; simp only at this; omega]; exact hf)
def rF (h : Option Int) (v : Int) : Option Int := some (match h with | some u => max u v | none => v)
def sF (_ : Option Int) (v : Int) : Option Int := some v
def zF (_ : Option Int) (_ : Int) : Option Int := some 0
/-- Raised by what is asked for. -/
def raiseB (H A : BF) : BF := fun x => match A x with | none => H x | some md => some (match H x with | some v => max v md | none => md)
theorem raiseB_over (H A : BF) : raiseB H A = overB rF H A := funext fun x => by
  unfold raiseB overB rF
  cases A x <;> rfl
theorem updM_rF (f : BF) (s : Sp) (md x : Int) : updM f s md x = if hasB s x then rF (f x) md else f x := by
  unfold updM rF
  rfl
theorem askF_append (L M : List I3) : askF (L ++ M) = raiseB (askF L) (askF M) := funext fun x => by
  refine askIs_unique (L := L ++ M) (L' := L ++ M) (fun _ => Iff.rfl) (askF_is _ x) ?_
  have h1 := askF_is L x
  have h2 := askF_is M x
  unfold raiseB
  cases hM : askF M x with
  | none =>
    rw [hM] at h2
    simp only
    cases hL : askF L x with
    | none =>
      rw [hL] at h1
      exact fun k hk hon => by
        rcases List.mem_append.1 hk with h | h
        · exact h1 k h hon
        · exact h2 k h hon
    | some v =>
      rw [hL] at h1
      obtain ⟨⟨k, hk, a, b⟩, c⟩ := h1
      exact ⟨⟨k, List.mem_append.2 (.inl hk), a, b⟩, fun q hq hon => by
        rcases List.mem_append.1 hq with h | h
        · exact c q h hon
        · exact absurd hon (h2 q h)⟩
  | some m =>
    rw [hM] at h2
    obtain ⟨⟨k, hk, a, b⟩, c⟩ := h2
    simp only
    cases hL : askF L x with
    | none =>
      rw [hL] at h1
      exact ⟨⟨k, List.mem_append.2 (.inr hk), a, b⟩, fun q hq hon => by
        rcases List.mem_append.1 hq with h | h
        · exact absurd hon (h1 q h)
        · exact c q h hon⟩
    | some v =>
      rw [hL] at h1
      obtain ⟨⟨k', hk', a', b'⟩, c'⟩ := h1
      refine ⟨?_, fun q hq hon => ?_⟩
      · rcases Int.le_total v m with h | h
        · exact ⟨k, List.mem_append.2 (.inr hk), a, by simp only; omega⟩
        · exact ⟨k', List.mem_append.2 (.inl hk'), a', by simp only; omega⟩
      · simp only
        rcases List.mem_append.1 hq with h | h
        · have := c' q h hon; omega
        · have := c q h hon; omega
/-- Below n, of what is asked for. -/
theorem askF_bd {L : List I3} {n x : Int} (h : ∀ k ∈ L, k.2.1 ≤ n) (hx : n ≤ x) : askF L x = none := by
  have h1 := askF_is L x
  cases ha : askF L x with
  | none => rfl
  | some v =>
    rw [ha] at h1
    obtain ⟨⟨k, hk, h2, _⟩, _⟩ := h1
    have := h k hk
    have := h2.2.2.2
    simp only at this
    omega
/-- Ranges set one after the other. -/
def set1 (f : BF) (k : I3) : BF := fun x => if hasB (k.1, k.2.1) x then some k.2.2 else f x
def setF (L : List I3) : BF := L.foldl set1 fun _ => none
theorem setF_snoc (L : List I3) (k : I3) : setF (L ++ [k]) = set1 (setF L) k := by unfold setF; rw [List.foldl_append]; rfl
theorem setF_none {L : List I3} {x : Int} (h : ∀ k ∈ L, ¬ hasB (k.1, k.2.1) x) : setF L x = none := by
  have : ∀ (L : List I3) (f : BF), (∀ k ∈ L, ¬ hasB (k.1, k.2.1) x) → f x = none → L.foldl set1 f x = none := by
    intro L
    induction L with
    | nil => intro f _ hf; exact hf
    | cons k L ih =>
      intro f h hf
      exact ih _ (fun q hq => h q (by simp [hq])) (by unfold set1; rw [if_neg (h k (by simp))]; exact hf)
  exact this L _ h rfl
theorem setF_some {L : List I3} {x m : Int} (h : ∀ k ∈ L, hasB (k.1, k.2.1) x → k.2.2 = m) (he : ∃ k ∈ L, hasB (k.1, k.2.1) x) : setF L x = some m := by
  have : ∀ (L : List I3) (f : BF), (∀ k ∈ L, hasB (k.1, k.2.1) x → k.2.2 = m) → ((∃ k ∈ L, hasB (k.1, k.2.1) x) ∨ f x = some m) → L.foldl set1 f x = some m := by
    intro L
    induction L with
    | nil => intro f _ hf; exact hf.resolve_left (by rintro ⟨k, hk, _⟩; cases hk)
    | cons k L ih =>
      intro f h hf
      refine ih _ (fun q hq => h q (by simp [hq])) ?_
      by_cases hk : hasB (k.1, k.2.1) x
      · right; unfold set1; rw [if_pos hk, h k (by simp) hk]
      · rcases hf with ⟨q, hq, hx⟩ | hf
        · rcases List.mem_cons.1 hq with rfl | hq
          · exact absurd hx hk
          · exact .inl ⟨q, hq, hx⟩
        · right; unfold set1; rw [if_neg hk]; exact hf
  exact this L _ h (.inl he)
theorem setF_bd {L : List I3} {n x : Int} (h : ∀ k ∈ L, k.2.1 ≤ n) (hx : n ≤ x) : setF L x = none := setF_none fun k hk hh => by
  have := h k hk
  have := hh.2.2
  simp only at this
  omega
/-- Below e alone. -/
def cutB (e : Int) (W : BF) : BF := fun x => if x < e then W x else none
theorem hasB_cut {a b e x : Int} (h : ok (a, b)) : hasB (a, min b e) x ↔ hasB (a, b) x ∧ x < e := by
  unfold hasB ok at *
  simp only at *
  constructor
  · rintro ⟨_, h2, h3⟩; exact ⟨⟨h, h2, by omega⟩, by omega⟩
  · rintro ⟨⟨_, h2, h3⟩, h4⟩; exact ⟨⟨h.1, by omega⟩, h2, by omega⟩
/-- Is more used of a block than may be kept? -/
def usesOver (V : BF) (md x : Int) : Bool := match V x with | some v => decide (md < v) | none => false
/-- Is a block of these given, down to their mode? -/
def gives (V H : BF) (k : I3) (x : Int) : Bool := decide (0 ≤ k.2.2 ∧ k.2.2 ≤ 2) && decide (hasB (k.1, k.2.1) x) && (match H x with | some h => decide (k.2.2 < h) | none => false) && !usesOver V k.2.2 x
def chgS (V : BF) (f : BF × BF) (k : I3) : BF × BF := (fun x => if gives V f.1 k x = true then some k.2.2 else f.1 x, fun x => if gives V f.1 k x = true then some k.2.2 else f.2 x)
def chgF (V H : BF) (L : List I3) : BF × BF := L.foldl (chgS V) (H, fun _ => none)
theorem chgF_snoc (V H : BF) (L : List I3) (k : I3) : chgF V H (L ++ [k]) = chgS V (chgF V H L) k := by unfold chgF; rw [List.foldl_append]; rfl
def freeX (V : BF) (md : Int) (x : Int) (o : Option Int) (h : Int) : Option Int := if md < h then (if usesOver V md x = true then none else some md) else o
def dropF (md : Int) (o : Option Int) (v : Int) : Option Int := if md < v then none else o
theorem chgF_bd {V H : BF} {x : Int} (hH : H x = none) (L : List I3) : (chgF V H L).1 x = none ∧ (chgF V H L).2 x = none := by
  have : ∀ (L : List I3) (f : BF × BF), f.1 x = none → f.2 x = none → (L.foldl (chgS V) f).1 x = none ∧ (L.foldl (chgS V) f).2 x = none := by
    intro L
    induction L with
    | nil => intro f h1 h2; exact ⟨h1, h2⟩
    | cons k L ih =>
      intro f h1 h2
      have hg : gives V f.1 k x = false := by unfold gives; rw [h1]; simp
      exact ih _ (by simp [chgS, hg, h1]) (by simp [chgS, hg, h2])
  exact this L _ hH rfl
/-- What is given is held in a greater mode, and no more of it is used. -/
theorem chgF_mem {V H : BF} {x m : Int} : ∀ {L : List I3}, (chgF V H L).2 x = some m → (chgF V H L).1 x = some m ∧ (0 ≤ m ∧ m ≤ 2) ∧ (∃ h, H x = some h ∧ m < h) ∧ usesOver V m x = false := by
  intro L
  have key : ∀ (L M : List I3), (∀ m, (chgF V H M).2 x = some m → (chgF V H M).1 x = some m ∧ (0 ≤ m ∧ m ≤ 2) ∧ (∃ h, H x = some h ∧ m < h) ∧ usesOver V m x = false) → ((chgF V H M).2 x = none → (chgF V H M).1 x = H x) →
      ∀ m, (chgF V H (M ++ L)).2 x = some m → (chgF V H (M ++ L)).1 x = some m ∧ (0 ≤ m ∧ m ≤ 2) ∧ (∃ h, H x = some h ∧ m < h) ∧ usesOver V m x = false := by
    intro L
    induction L with
    | nil => intro M h1 _ m hm; rw [List.append_nil] at hm ⊢; exact h1 m hm
    | cons k L ih =>
      intro M h1 h0 m hm
      have e : M ++ k :: L = (M ++ [k]) ++ L := by simp
      rw [e] at hm ⊢
      refine ih (M ++ [k]) (fun m' hm' => ?_) (fun hn => ?_) m hm
      · rw [chgF_snoc] at hm' ⊢
        by_cases hg : gives V (chgF V H M).1 k x = true
        · simp only [chgS, hg, if_true] at hm' ⊢
          injection hm' with hm'
          subst hm'
          refine ⟨rfl, ?_⟩
          unfold gives at hg
          simp only [Bool.and_eq_true, decide_eq_true_eq, Bool.not_eq_true'] at hg
          obtain ⟨⟨⟨g1, _⟩, g3⟩, g4⟩ := hg
          refine ⟨g1, ?_, g4⟩
          cases hM : (chgF V H M).2 x with
          | none =>
            rw [h0 hM] at g3
            cases hH : H x with
            | none => rw [hH] at g3; cases g3
            | some h => rw [hH] at g3; exact ⟨h, rfl, by simpa using g3⟩
          | some m0 =>
            obtain ⟨a, _, ⟨h, b, c⟩, _⟩ := h1 m0 hM
            rw [a] at g3
            have g3 : k.2.2 < m0 := by simpa using g3
            exact ⟨h, b, by omega⟩
        · simp only [chgS, if_neg hg] at hm' ⊢
          exact h1 m' hm'
      · rw [chgF_snoc] at hn ⊢
        by_cases hg : gives V (chgF V H M).1 k x = true
        · simp only [chgS, if_pos hg] at hn; cases hn
        · simp only [chgS, if_neg hg] at hn ⊢
          exact h0 hn
  intro h
  have := key L [] (fun m hm => by cases hm) (fun _ => rfl) m
  rw [List.nil_append] at this
  exact this h
end Go.Sh
