/- The table of locks, apart from memory. Conditions: as each says. -/
import Derived.Test.YtiomanikpboclaaTabF
set_option linter.unusedSimpArgs false
set_option linter.unusedVariables false
namespace Go.Proofs.Ytiomanikpboclaa
open Go.Sh Go.Proofs.Ytiomanikpboclaa.Mi
set_option maxRecDepth 100000
section
variable {w w' : World} {Q : Value → World → Prop} {B t : Nat} {s : TS}
/-- What holds of each table's state. -/
structure Pu (s : TS) : Prop where
  hn : s.hs.length = 17
  nn : 1 ≤ s.nodes ∧ s.nodes ≤ 16
  li : Lists s
  su : ∀ i, Sup (bl s i)
theorem TL.pu (h : TL w B t s) : Pu s := ⟨h.hn, h.nn, h.lists, h.sup⟩
theorem Pu.turn (h : Pu s) {i : Nat} {f : Int → Option Int} (hi : i < 17) (hf : Sup f) : Pu (s.turn i f) := by
  refine ⟨?_, h.nn, fun l hl => ?_, fun j x hx => ?_⟩
  · show (s.hs.set i _).length = 17
    rw [List.length_set]; exact h.hn
  · unfold TS.turn at hl
    rcases List.mem_or_eq_of_mem_set hl with hl | rfl
    · exact h.li l hl
    · exact (canonL_canon _).1
  · rw [bl_turn (by rw [h.hn]; exact hi) hf] at hx
    split at hx
    · exact hf x hx
    · exact h.su j x hx
theorem Pu.raise (h : Pu s) {i : Nat} {a b md : Int} (hi : i < 17) (ha : 0 ≤ a) (hb : b ≤ 4096) : Pu (s.raise i a b md) := h.turn hi (sup_upd (h.su i) ha hb)
theorem Pu.release (h : Pu s) {i : Nat} {a b keep : Int} (hi : i < 17) : Pu (s.release i a b keep) := h.turn hi (sup_rel (h.su i))
theorem Pu.wait (h : Pu s) (node a b md : Int) : Pu (s.wait node a b md) := ⟨h.hn, h.nn, h.li, h.su⟩
theorem Pu.bl_raise (h : Pu s) {i : Nat} {a b md : Int} (hi : i < 17) (ha : 0 ≤ a) (hb : b ≤ 4096) (o : Nat) (x : Int) : bl (s.raise i a b md) o x = if o = i then updM (bl s i) (a, b) md x else bl s o x :=
  bl_turn (by rw [h.hn]; exact hi) (sup_upd (h.su i) ha hb) o x
theorem Pu.bl_release (h : Pu s) {i : Nat} {a b keep : Int} (hi : i < 17) (o : Nat) (x : Int) : bl (s.release i a b keep) o x = if o = i then relF (bl s i) (a, b) keep x else bl s o x :=
  bl_turn (by rw [h.hn]; exact hi) (sup_rel (h.su i)) o x
theorem Pu.free (h : Pu s) {A : List I5} {node a b md : Int} : ¬ hindF s A node a b md < b ↔ ∀ x, hasB (a, b) x → ¬ (HxN s node md x ∨ HxA A node md x) := hind_free h.li (by have := h.nn; omega)
theorem hxA_nil (node md x : Int) : ¬ HxA [] node md x := fun h => by obtain ⟨k, hk, _⟩ := h; cases hk
theorem Pu.free_nil (h : Pu s) (hw : s.ws = []) {node a b md : Int} : freeP s node a b md ↔ ∀ x, hasB (a, b) x → ¬ HxN s node md x := by
  unfold freeP
  rw [hw]
  refine h.free.trans ⟨fun g x hx hh => g x hx (.inl hh), fun g x hx hh => ?_⟩
  rcases hh with hh | hh
  · exact g x hx hh
  · exact hxA_nil _ _ _ hh
def inR (a b x : Int) : Prop := a ≤ x ∧ x < b
instance (a b x : Int) : Decidable (inR a b x) := by unfold inR; infer_instance
theorem hasB_in {a b x : Int} (h : 0 ≤ a) : hasB (a, b) x ↔ inR a b x := hasB_iff h
theorem updM_in {f : Int → Option Int} {a b md x : Int} (h : 0 ≤ a) : updM f (a, b) md x = if inR a b x then some (match f x with | some v => max v md | none => md) else f x := by
  unfold updM
  by_cases hx : hasB (a, b) x
  · rw [if_pos hx, if_pos ((hasB_in h).1 hx)]
    cases f x <;> rfl
  · rw [if_neg hx, if_neg fun h' => hx ((hasB_in h).2 h')]
theorem relF_in {f : Int → Option Int} {a b keep x : Int} (h : 0 ≤ a) : relF f (a, b) keep x = if inR a b x then (match f x with | some v => relV keep (some v) v | none => none) else f x := by
  unfold relF
  by_cases hx : hasB (a, b) x
  · rw [if_pos hx, if_pos ((hasB_in h).1 hx)]
    cases f x <;> rfl
  · rw [if_neg hx, if_neg fun h' => hx ((hasB_in h).2 h')]
theorem Pu.fresh {n : Int} (hn : 1 ≤ n ∧ n ≤ 16) : Pu (TS.fresh n) := by
  refine ⟨rfl, hn, fun l hl => ?_, fun i x hx => absurd (bl_fresh n i x) hx⟩
  have : l = [] := List.eq_of_mem_replicate hl
  subst this
  exact Canon.nil
theorem grant_nil (h : s.ws = []) : s.granted = s ∧ grantOut s = [] := by
  obtain ⟨n, hs, ws, la⟩ := s
  have h : ws = [] := h
  subst h
  exact ⟨rfl, rfl⟩
/-- One waits, and is free. -/
theorem grant_one {k : I5} (h : s.ws = [k]) (hf : ¬ hindF s [] k.2.1 k.2.2.1 k.2.2.2.1 k.2.2.2.2 < k.2.2.2.1) :
    s.granted = { s.raise k.2.1.toNat k.2.2.1 k.2.2.2.1 k.2.2.2.2 with ws := [] } ∧ grantOut s = [k] := by
  have hg : grantG s s.ws = (s.raise k.2.1.toNat k.2.2.1 k.2.2.2.1 k.2.2.2.2, [], [], [k]) := by
    rw [h]
    show gr1 (s, [], [], []) k = _
    unfold gr1
    dsimp only
    rw [if_neg hf]
    rfl
  unfold TS.granted grantOut
  rw [hg]
  exact ⟨rfl, rfl⟩
/-- One waits, and goes on to wait. -/
theorem grant_stay {k : I5} (h : s.ws = [k]) (hf : hindF s [] k.2.1 k.2.2.1 k.2.2.2.1 k.2.2.2.2 < k.2.2.2.1) : s.granted = s ∧ grantOut s = [] := by
  have hg : grantG s s.ws = (s, [k], [claimOf k (hindF s [] k.2.1 k.2.2.1 k.2.2.2.1 k.2.2.2.2)], []) := by
    rw [h]
    show gr1 (s, [], [], []) k = _
    unfold gr1
    dsimp only
    rw [if_pos hf]
    rfl
  unfold TS.granted grantOut
  rw [hg]
  refine ⟨?_, rfl⟩
  obtain ⟨n, hs, ws, la⟩ := s
  have h : ws = [k] := h
  subst h
  rfl
theorem tmode_bl {i : Nat} {x : Int} (h : TL w B t s) (hi : 1 ≤ i) (hi' : (i : Int) ≤ s.nodes) (hq : ∀ w', K0 w w' → Q (.int .i64 ((bl s i x).getD 0)) w') :
    callS Try.prog 12 #[.pointer (some ⟨t, 0, none⟩), .int .i64 (i : Int), .int .i64 x] Q w :=
  tmode_c h hi hi' fun w' l e k => by
    have := hq w' k
    unfold bl at this
    rw [e] at this
    exact this
/-- A row of requests: its element. -/
theorem wait_row {A : Nat} {v : Value} {l : List I5} (h : Own w A 36 5 v l.length (flat enc5 l)) {i : Nat} (hi : i < l.length) :
    ∃ g c, v = .slice (some ⟨g, 0, none⟩) l.length c ∧ cel w g (i * 5) = some (.int .i64 l[i].1) ∧ cel w g (i * 5 + 1) = some (.int .i64 l[i].2.1) := by
  obtain ⟨g, cg, rfl, _, _, _, _, _, hcel⟩ := h.at (by omega)
  obtain ⟨b, o, e, q0, q1, _⟩ := ws_at h.rd hi
  injection e with e
  injection e with e1 e2 _
  subst e1 e2
  rw [Nat.zero_add] at q0 q1
  exact ⟨g, cg, rfl, q0, q1⟩
end
end Go.Proofs.Ytiomanikpboclaa
