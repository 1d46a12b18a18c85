/- The table of locks, block by block: what each call makes of it; a first play. Conditions: as each says. -/
import Derived.Test.YtiomanikpboclaaTableV
set_option linter.unusedSimpArgs false
set_option linter.unusedVariables false
namespace Go.Proofs.Ytiomanikpboclaa
open Go.Sh Go.Proofs.Ytiomanikpboclaa.Mi
set_option maxRecDepth 100000
section
variable {w w' : World} {Q : Value → World → Prop} {B t : Nat} {s : TS}
theorem TL.hn (h : TL w B t s) : s.hs.length = 17 := by obtain ⟨_, _, h⟩ := h; exact h.hn
theorem TL.nn (h : TL w B t s) : 1 ≤ s.nodes ∧ s.nodes ≤ 16 := by obtain ⟨_, _, h⟩ := h; exact h.nn
theorem bl_raise (h : TL w B t s) {i : Nat} {a b md : Int} (hi : i < 17) (ha : 0 ≤ a) (hb : b ≤ 4096) (o : Nat) (x : Int) : bl (s.raise i a b md) o x = if o = i then updM (bl s i) (a, b) md x else bl s o x :=
  bl_turn (by rw [h.hn]; exact hi) (sup_upd (h.sup i) ha hb) o x
theorem bl_release (h : TL w B t s) {i : Nat} {a b keep : Int} (hi : i < 17) (o : Nat) (x : Int) : bl (s.release i a b keep) o x = if o = i then relF (bl s i) (a, b) keep x else bl s o x :=
  bl_turn (by rw [h.hn]; exact hi) (sup_rel (h.sup i)) o x
theorem bl_fresh (n : Int) (o : Nat) (x : Int) : bl (TS.fresh n) o x = none := by
  unfold bl TS.fresh
  dsimp only
  rw [List.getElem?_replicate]
  split <;> rfl
theorem bl_wait (node a b md : Int) (o : Nat) (x : Int) : bl (s.wait node a b md) o x = bl s o x := rfl
/-- All fits, block by block. -/
def soundB (s : TS) : Prop := ∀ (n o : Nat) (x u v : Int), 1 ≤ n → (n : Int) ≤ s.nodes → 1 ≤ o → (o : Int) ≤ s.nodes → o ≠ n → bl s n x = some v → bl s o x = some u → fitP u v
theorem sound_iff (hl : Lists s) (hn : s.hs.length = 17) (hnn : s.nodes ≤ 16) : soundP s ↔ soundB s := by
  constructor
  · intro h n o x u v h1 h2 h3 h4 h5 hv hu
    have en : s.hs[n]? = some s.hs[n] := List.getElem?_eq_getElem (by omega)
    have eo : s.hs[o]? = some s.hs[o] := List.getElem?_eq_getElem (by omega)
    unfold bl at hv hu
    rw [en] at hv
    rw [eo] at hu
    obtain ⟨q, hq, hqx, rfl⟩ := valB_some hv
    obtain ⟨p, hp, hpx, rfl⟩ := part_of (hl _ (List.getElem_mem (by omega))) (a := q.1.1) (b := q.1.2) hqx hu
    exact h n _ h1 h2 en q hq o _ h3 h4 (by omega) eo p hp
  · intro h n l h1 h2 en q hq o l' h3 h4 h5 eo p hp
    have hcn := hl l (List.mem_of_getElem? en)
    have hco := hl l' (List.mem_of_getElem? eo)
    have hpo := (partsL_canon (s := q.1) hco).1 p hp
    have hpx : hasB p.1 p.1.1 := ⟨hpo, Int.le_refl _, hpo.2⟩
    obtain ⟨g1, g2⟩ := part_in (a := q.1.1) (b := q.1.2) hco hp hpx
    have g3 := valB_mem hcn.apart hq g2
    exact h n o p.1.1 p.2 q.2 h1 h2 h3 h4 (by omega) (by unfold bl; rw [en]; exact g3) (by unfold bl; rw [eo]; exact g1)
theorem TL.sound_iff (h : TL w B t s) : soundP s ↔ soundB s := Go.Proofs.Ytiomanikpboclaa.sound_iff h.lists h.hn h.nn.2
theorem hasB_iff {a b x : Int} (h : 0 ≤ a) : hasB (a, b) x ↔ a ≤ x ∧ x < b := by
  unfold hasB ok
  dsimp only
  omega
theorem free_iff (h : TL w B t s) {node a b md : Int} : freeP s node a b md ↔ ∀ x, hasB (a, b) x → ¬ (HxN s node md x ∨ HxA (claimsF s s.ws) node md x) := by
  unfold freeP
  exact hind_free h.lists (by have := h.nn; omega)
theorem ask_free {i : Nat} {a b md : Int} (h : TL w B t s) (hok : WsOk s.ws) (hwn : WsN s) (hla : 0 ≤ s.last ∧ s.last ≤ 1000000000) (hB : B ≤ siz w)
    (h1 : rightA s i a b md) (h2 : ¬ hasP s i a b md) (h3 : freeP s i a b md) (hq : ∀ w', TL w' B t (s.raise i a b md) → KO B tp w w' → Q (.tuple #[.int .i64 0, .bool true, .int .i64 0]) w') :
    callS Try.prog 10 #[.pointer (some ⟨t, 0, none⟩), .int .i64 (i : Int), .agg #[.int .i64 a, .int .i64 b, .int .i64 md]] Q w := by
  refine ask_c h hok hwn hla hB (fun w' g _ => absurd h1 g) (fun w' j e _ g _ _ => ?_) (fun w' j e _ _ _ g k => ?_) (fun w' j e _ _ g => absurd h3 g) (fun w' j e _ _ g => absurd h3 g) (fun w' j e _ _ g => absurd h3 g)
  · have : j = i := by omega
    subst this
    exact absurd g h2
  · have : j = i := by omega
    subst this
    exact hq w' g k
theorem ask_wait {i : Nat} {a b md : Int} (h : TL w B t s) (hok : WsOk s.ws) (hwn : WsN s) (hla : 0 ≤ s.last ∧ s.last ≤ 1000000000) (hB : B ≤ siz w)
    (h1 : rightA s i a b md) (h2 : ¬ hasP s i a b md) (h3 : ¬ freeP s i a b md) (h4 : ¬ deadP s i a b md) (h5 : s.ws.length < 1000) (hq : ∀ w', TL w' B t (s.wait i a b md) → KO B tp w w' → Q (.tuple #[.int .i64 (s.last + 1), .bool false, .int .i64 0]) w') :
    callS Try.prog 10 #[.pointer (some ⟨t, 0, none⟩), .int .i64 (i : Int), .agg #[.int .i64 a, .int .i64 b, .int .i64 md]] Q w := by
  refine ask_c h hok hwn hla hB (fun w' g _ => absurd h1 g) (fun w' j e _ g _ _ => ?_) (fun w' j e _ _ g => absurd g h3) (fun w' j e _ _ _ g _ _ => ?_) (fun w' j e _ _ _ _ g => absurd h5 (by omega)) (fun w' j e _ _ _ _ _ g k => hq w' g k)
  · have : j = i := by omega
    subst this
    exact absurd g h2
  · have : j = i := by omega
    subst this
    exact absurd g h4
theorem ask_dead {i : Nat} {a b md : Int} (h : TL w B t s) (hok : WsOk s.ws) (hwn : WsN s) (hla : 0 ≤ s.last ∧ s.last ≤ 1000000000) (hB : B ≤ siz w)
    (h1 : rightA s i a b md) (h2 : ¬ hasP s i a b md) (h3 : ¬ freeP s i a b md) (h4 : deadP s i a b md) (hq : ∀ w', TL w' B t s → KO B tp w w' → Q (.tuple #[.int .i64 0, .bool false, .int .i64 33]) w') :
    callS Try.prog 10 #[.pointer (some ⟨t, 0, none⟩), .int .i64 (i : Int), .agg #[.int .i64 a, .int .i64 b, .int .i64 md]] Q w := by
  refine ask_c h hok hwn hla hB (fun w' g _ => absurd h1 g) (fun w' j e _ g _ _ => ?_) (fun w' j e _ _ g => absurd g h3) (fun w' j e _ _ _ _ g k => hq w' g k) (fun w' j e _ _ _ g => ?_) (fun w' j e _ _ _ g => ?_)
  all_goals
    have : j = i := by omega
    subst this
  · exact absurd g h2
  · exact absurd h4 g
  · exact absurd h4 g
/-! ### the state -/
theorem wsOk_nil : WsOk [] := ⟨Nat.zero_le _, fun k hk => by cases hk⟩
theorem wsOk_snoc {W : List I5} {k : I5} (h : WsOk W) (hl : W.length < 1000) (hk : rightL (k.2.2.1, k.2.2.2.1, k.2.2.2.2)) : WsOk (W ++ [k]) := by
  refine ⟨by rw [List.length_append, List.length_singleton]; omega, fun q hq => ?_⟩
  rcases List.mem_append.1 hq with hq | hq
  · exact h.2 q hq
  · rw [List.mem_singleton] at hq; subst hq; exact hk
theorem wsN_wait {node a b md : Int} (h : WsN s) (hn : 1 ≤ node ∧ node ≤ s.nodes) : WsN (s.wait node a b md) := fun q hq => by
  have hq : q ∈ s.ws ++ [(s.last + 1, node, a, b, md)] := hq
  rcases List.mem_append.1 hq with hq | hq
  · exact h q hq
  · rw [List.mem_singleton] at hq; subst hq; exact hn
theorem grantG_sub (s : TS) : ∀ (n : Nat) (W : List I5), W.length = n → ∀ k ∈ (grantG s W).2.1, k ∈ W
  | 0, W, h => by rw [List.length_eq_zero_iff.1 h]; exact fun k hk => hk
  | n + 1, W, h => by
    rcases List.eq_nil_or_concat W with rfl | ⟨V, q, rfl⟩
    · simp at h
    · rw [List.concat_eq_append] at h ⊢
      have ih := grantG_sub s n V (by simpa using h)
      rw [grantG_snoc]
      unfold gr1
      split
      · intro k hk
        rcases List.mem_append.1 hk with hk | hk
        · exact List.mem_append_left _ (ih k hk)
        · exact List.mem_append_right _ hk
      · exact fun k hk => List.mem_append_left _ (ih k hk)
theorem granted_ws (h : WsOk s.ws) : WsOk s.granted.ws := by
  refine ⟨?_, fun k hk => h.2 k (grantG_sub s _ s.ws rfl k hk)⟩
  have h1 := (grantG_len s _ s.ws rfl).1
  have h2 := h.1
  have : s.granted.ws.length = (grantG s s.ws).2.1.length := rfl
  omega
theorem granted_nodes : s.granted.nodes = s.nodes := (grantG_ws s _ s.ws rfl).2.1
theorem granted_last : s.granted.last = s.last := (grantG_ws s _ s.ws rfl).2.2
theorem granted_wn (h : WsN s) : WsN s.granted := fun k hk => by
  rw [granted_nodes]
  exact h k (grantG_sub s _ s.ws rfl k hk)
end
end Go.Proofs.Ytiomanikpboclaa
