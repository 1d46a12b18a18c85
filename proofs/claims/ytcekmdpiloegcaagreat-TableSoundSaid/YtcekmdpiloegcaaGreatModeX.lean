/- Locks: of each block the greatest mode counts; how few parts a map of blocks can have: plain, of no program. Conditions: none. -/
import Derived.Test.YtcekmdpiloegcaaGreatImapX
import Derived.Test.YtcekmdpiloegcaaGreatShU
set_option linter.unusedSimpArgs false
set_option linter.unusedVariables false
set_option linter.unusedVariables false
set_option linter.unusedSectionVars false
namespace Go.Sh

/-! ### where a map of blocks changes -/
section
variable {V : Type} [DecidableEq V]
def Chg (f : Int → Option V) (E : List Int) : Prop := ∀ x, f x ≠ f (x - 1) → x ∈ E
theorem chg_upd {f f' : Int → Option V} {E : List Int} {s : Sp} {g : Option V → Option V} (h : Chg f E) (hf : ∀ x, f' x = if hasB s x then g (f x) else f x) : Chg f' (s.1 :: s.2 :: E) := fun x hx => by
  by_cases h1 : x = s.1
  · simp [h1]
  · by_cases h2 : x = s.2
    · simp [h2]
    · have : hasB s x ↔ hasB s (x - 1) := by
        unfold hasB
        constructor <;> rintro ⟨h5, h6, h7⟩ <;> exact ⟨h5, by omega, by omega⟩
      have h3 : x ∈ E := h x fun e => hx (by rw [hf, hf]; by_cases h4 : hasB s x <;> simp [this.symm, h4, e])
      simp [h3]
theorem Chg.mono {f : Int → Option V} {E E' : List Int} (h : Chg f E) (hE : ∀ x ∈ E, x ∈ E') : Chg f E' := fun x hx => hE x (h x hx)
theorem nodup_len : ∀ (a E : List Int), a.Nodup → (∀ x ∈ a, x ∈ E) → a.length ≤ E.length
  | [], _, _, _ => Nat.zero_le _
  | x :: a, E, hn, h => by
    obtain ⟨h1, h2⟩ := List.nodup_cons.1 hn
    have hx := h x (by simp)
    have := nodup_len a (E.erase x) h2 fun y hy => (List.mem_erase_of_ne (fun e => h1 (by rw [← e]; exact hy))).2 (h y (by simp [hy]))
    rw [List.length_erase_of_mem hx] at this
    have := List.length_pos_of_mem hx
    rw [List.length_cons]; omega
theorem canon_from {l : List (Pt V)} (h : Canon l) {p : Pt V} (hp : p ∈ l) : valB l p.1.1 = some p.2 ∧ valB l (p.1.1 - 1) ≠ some p.2 := by
  have ho := h.1 p hp
  refine ⟨valB_mem h.apart hp ⟨ho, Int.le_refl _, ho.2⟩, fun e => ?_⟩
  obtain ⟨q, hq, h1, h2⟩ := valB_some e
  obtain ⟨i, hi, rfl⟩ := List.mem_iff_getElem.1 hp
  obtain ⟨j, hj, rfl⟩ := List.mem_iff_getElem.1 hq
  have hpw := List.pairwise_iff_getElem.1 h.2
  have b1 := h1.2.1
  have b2 := h1.2.2
  have b3 := ho.2
  rcases Nat.lt_trichotomy i j with hij | hij | hij
  · rcases hpw i j hi hj hij with hn | hn <;> omega
  · subst hij; omega
  · rcases hpw j i hj hi hij with hn | hn
    · omega
    · exact hn.2 h2
theorem chg_len {l : List (Pt V)} {E : List Int} (h : Canon l) (hE : Chg (valB l) E) : l.length ≤ E.length := by
  have h1 : (l.map fun p => p.1.1).Nodup := by
    unfold List.Nodup
    refine List.pairwise_map.2 (h.2.imp_of_mem fun {p q} hp hq hn => ?_)
    have := (h.1 p hp).2
    rcases hn with hn | hn <;> omega
  have := nodup_len _ E h1 fun x hx => by
    obtain ⟨p, hp, rfl⟩ := List.mem_map.1 hx
    obtain ⟨c1, c2⟩ := canon_from h hp
    exact hE _ (by rw [c1]; exact fun e => c2 e.symm)
  rwa [List.length_map] at this
end

/-! ### what locks ask for -/
def updM (f : Int → Option Int) (s : Sp) (md : Int) : Int → Option Int := fun x => if hasB s x then some (match f x with | some v => max v md | none => md) else f x
def isM (k : I3) : Prop := k.2.2 = 1 ∨ k.2.2 = 2
instance (k : I3) : Decidable (isM k) := by unfold isM; infer_instance
def ask1 (f : Int → Option Int) (k : I3) : Int → Option Int := if isM k then updM f (k.1, k.2.1) k.2.2 else f
def askF (L : List I3) : Int → Option Int := L.foldl ask1 fun _ => none
theorem askF_snoc (L : List I3) (k : I3) : askF (L ++ [k]) = ask1 (askF L) k := by unfold askF; rw [List.foldl_append]; rfl
def onM (k : I3) (x : Int) : Prop := isM k ∧ hasB (k.1, k.2.1) x
instance (k : I3) (x : Int) : Decidable (onM k x) := by unfold onM; infer_instance
def AskIs (L : List I3) (x : Int) : Option Int → Prop
  | none => ∀ k ∈ L, ¬ onM k x
  | some v => (∃ k ∈ L, onM k x ∧ k.2.2 = v) ∧ ∀ k ∈ L, onM k x → k.2.2 ≤ v
theorem askIs_unique {L L' : List I3} {x : Int} (hL : ∀ k, k ∈ L ↔ k ∈ L') : ∀ {r r' : Option Int}, AskIs L x r → AskIs L' x r' → r = r'
  | none, none, _, _ => rfl
  | none, some v, h, h' => by
    obtain ⟨⟨k, hk, h1, _⟩, _⟩ := h'
    exact absurd h1 (h k ((hL k).2 hk))
  | some v, none, h, h' => by
    obtain ⟨⟨k, hk, h1, _⟩, _⟩ := h
    exact absurd h1 (h' k ((hL k).1 hk))
  | some v, some v', h, h' => by
    obtain ⟨⟨k, hk, h1, rfl⟩, h2⟩ := h
    obtain ⟨⟨k', hk', h1', rfl⟩, h2'⟩ := h'
    have a := h2 k' ((hL k').2 hk') h1'
    have b := h2' k ((hL k).1 hk) h1
    rw [Int.le_antisymm b a]
theorem ask1_is {L : List I3} {f : Int → Option Int} {x : Int} (h : AskIs L x (f x)) (k : I3) : AskIs (L ++ [k]) x (ask1 f k x) := by
  unfold ask1
  by_cases hk : isM k
  · rw [if_pos hk]
    unfold updM
    by_cases hx : hasB (k.1, k.2.1) x
    · rw [if_pos hx]
      cases hf : f x with
      | none =>
        rw [hf] at h
        exact ⟨⟨k, by simp, ⟨hk, hx⟩, rfl⟩, fun q hq hon => by
          rcases List.mem_append.1 hq with hq | hq
          · exact absurd hon (h q hq)
          · simp at hq; subst hq; exact Int.le_refl _⟩
      | some v =>
        rw [hf] at h
        obtain ⟨⟨q, hq, h1, h2⟩, h3⟩ := h
        refine ⟨?_, fun r hr hon => ?_⟩
        · rcases Int.le_total v k.2.2 with hle | hle
          · exact ⟨k, by simp, ⟨hk, hx⟩, by simp only; omega⟩
          · exact ⟨q, by simp [hq], h1, by simp only; omega⟩
        · simp only
          rcases List.mem_append.1 hr with hr | hr
          · have := h3 r hr hon; omega
          · simp at hr; subst hr; omega
    · rw [if_neg hx]
      have key : ∀ q, q ∈ L ++ [k] → onM q x → q ∈ L := fun q hq hon => by
        rcases List.mem_append.1 hq with hq | hq
        · exact hq
        · simp at hq; subst hq; exact absurd hon.2 hx
      cases hf : f x with
      | none => rw [hf] at h; exact fun q hq hon => h q (key q hq hon) hon
      | some v =>
        rw [hf] at h
        obtain ⟨⟨q, hq, h1, h2⟩, h3⟩ := h
        exact ⟨⟨q, by simp [hq], h1, h2⟩, fun r hr hon => h3 r (key r hr hon) hon⟩
  · rw [if_neg hk]
    have key : ∀ q, q ∈ L ++ [k] → onM q x → q ∈ L := fun q hq hon => by
      rcases List.mem_append.1 hq with hq | hq
      · exact hq
      · simp at hq; subst hq; exact absurd hon.1 hk
    cases hf : f x with
    | none => rw [hf] at h; exact fun q hq hon => h q (key q hq hon) hon
    | some v =>
      rw [hf] at h
      obtain ⟨⟨q, hq, h1, h2⟩, h3⟩ := h
      exact ⟨⟨q, by simp [hq], h1, h2⟩, fun r hr hon => h3 r (key r hr hon) hon⟩
theorem askF_is (L : List I3) (x : Int) : AskIs L x (askF L x) := by
  have : ∀ (L M : List I3) (f : Int → Option Int), AskIs M x (f x) → AskIs (M ++ L) x (L.foldl ask1 f x) := by
    intro L
    induction L with
    | nil => intro M f h; simpa using h
    | cons k L ih =>
      intro M f h
      have := ih (M ++ [k]) (ask1 f k) (ask1_is h k)
      rwa [List.append_assoc] at this
  have := this L [] (fun _ => none) (by simp [AskIs])
  rwa [List.nil_append] at this
theorem askF_perm {L L' : List I3} (h : ∀ k, k ∈ L ↔ k ∈ L') : askF L = askF L' := funext fun x => askIs_unique h (askF_is L x) (askF_is L' x)
/-- The ends of locks. -/
def ends (L : List I3) : List Int := L.flatMap fun k => [k.1, k.2.1]
theorem ends_len (L : List I3) : (ends L).length = 2 * L.length := by
  induction L with
  | nil => rfl
  | cons k L ih => unfold ends at *; rw [List.flatMap_cons, List.length_append, ih, List.length_cons]; simp; omega
theorem ask1_chg {f : Int → Option Int} {E : List Int} (h : Chg f E) (k : I3) : Chg (ask1 f k) (k.1 :: k.2.1 :: E) := by
  unfold ask1
  split
  · exact chg_upd (s := (k.1, k.2.1)) (g := fun o => some (match o with | some v => max v k.2.2 | none => k.2.2)) h fun x => rfl
  · exact h.mono fun x hx => by simp [hx]
theorem askF_chg (L : List I3) : Chg (askF L) (ends L) := by
  have : ∀ (L : List I3) (f : Int → Option Int) (E : List Int), Chg f E → Chg (L.foldl ask1 f) (ends L ++ E) := by
    intro L
    induction L with
    | nil => intro f E h; simpa [ends] using h
    | cons k L ih =>
      intro f E h
      refine (ih (ask1 f k) _ (ask1_chg h k)).mono fun x hx => ?_
      simp only [ends, List.flatMap_cons, List.mem_append, List.mem_cons, List.not_mem_nil, or_false] at *
      rcases hx with hx | hx | hx | hx
      · exact .inl (.inr hx)
      · exact .inl (.inl (.inl hx))
      · exact .inl (.inl (.inr hx))
      · exact .inr hx
  have := this L (fun _ => none) [] (fun x hx => absurd rfl hx)
  simpa [askF] using this
theorem askF_mode {L : List I3} {x v : Int} (h : askF L x = some v) : v = 1 ∨ v = 2 := by
  have := askF_is L x
  rw [h] at this
  obtain ⟨⟨k, _, h1, rfl⟩, _⟩ := this
  exact h1.1
/-- Locks as the parts of a map. -/
def asLocks (l : List (Pt Int)) : List I3 := l.map fun p => (p.1.1, p.1.2, p.2)
theorem asLocks_flat (l : List (Pt Int)) : flat enc3 (asLocks l) = flat (encP fun v : Int => Value.int .i64 v) l := by
  induction l with
  | nil => rfl
  | cons p l ih => unfold asLocks at *; rw [List.map_cons, flat_cons, ih]; rfl
theorem asLocks_len (l : List (Pt Int)) : (asLocks l).length = l.length := by simp [asLocks]
end Go.Sh
