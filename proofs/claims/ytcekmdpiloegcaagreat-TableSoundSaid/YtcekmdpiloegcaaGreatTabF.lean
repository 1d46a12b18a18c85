/- The table of locks, block by block: what each call makes of it; a first play. Conditions: as each says. -/
import Derived.Test.YtcekmdpiloegcaaGreatTabE
set_option linter.unusedSimpArgs false
set_option linter.unusedVariables false
namespace Go.Proofs.YtcekmdpiloegcaaGreat
open Go.Sh Go.Proofs.YtcekmdpiloegcaaGreat.Mi
set_option maxRecDepth 100000
section
variable {w w' : World} {Q : Value → World → Prop} {B t : Nat} {s : TS}
theorem TL.hn (h : TL w B t s) : s.hs.length = 17 := by obtain ⟨_, _, h⟩ := h; exact h.hn
theorem TL.nn (h : TL w B t s) : 1 ≤ s.nodes ∧ s.nodes ≤ 16 := by obtain ⟨_, _, h⟩ := h; exact h.nn
theorem bl_raise (h : TL w B t s) {i : Nat} {a b md : Int} (hi : i < 17) (ha : 0 ≤ a) (hb : b ≤ 4096) (o : Nat) (x : Int) : bl (s.raise i a b md) o x = if o = i then updM (bl s i) (a, b) md x else bl s o x :=
  bl_turn (by rw [h.hn]; exact hi) (sup_upd (h.sup i) ha hb) o x
theorem bl_release (h : TL w B t s) {i : Nat} {a b keep : Int} (hi : i < 17) (o : Nat) (x : Int) : bl (s.release i a b keep) o x = if o = i then relF (bl s i) (a, b) keep x else bl s o x :=
  bl_turn (by rw [h.hn]; exact hi) (sup_rel (h.sup i)) o x
theorem bl_fresh (n : Int) (o : Nat) (x : Int) : bl (TS.fresh n) o x = none := by
  unfold bl TS.fresh
  dsimp only
  rw [List.getElem?_replicate]
  split <;> rfl
theorem bl_wait (node a b md : Int) (o : Nat) (x : Int) : bl (s.wait node a b md) o x = bl s o x := rfl
/-- All fits, block by block. -/
def soundB (s : TS) : Prop := ∀ (n o : Nat) (x u v : Int), 1 ≤ n → (n : Int) ≤ s.nodes → 1 ≤ o → (o : Int) ≤ s.nodes → o ≠ n → bl s n x = some v → bl s o x = some u → fitP u v
theorem sound_iff (hl : Lists s) (hn : s.hs.length = 17) (hnn : s.nodes ≤ 16) : soundP s ↔ soundB s := by
  constructor
  · intro h n o x u v h1 h2 h3 h4 h5 hv hu
    have en : s.hs[n]? = some s.hs[n] := List.getElem?_eq_getElem (by omega)
    have eo : s.hs[o]? = some s.hs[o] := List.getElem?_eq_getElem (by omega)
    unfold bl at hv hu
    rw [en] at hv
    rw [eo] at hu
    obtain ⟨q, hq, hqx, rfl⟩ := valB_some hv
    obtain ⟨p, hp, hpx, rfl⟩ := part_of (hl _ (List.getElem_mem (by omega))) (a := q.1.1) (b := q.1.2) hqx hu
    exact h n _ h1 h2 en q hq o _ h3 h4 (by omega) eo p hp
  · intro h n l h1 h2 en q hq o l' h3 h4 h5 eo p hp
    have hcn := hl l (List.mem_of_getElem? en)
    have hco := hl l' (List.mem_of_getElem? eo)
    have hpo := (partsL_canon (s := q.1) hco).1 p hp
    have hpx : hasB p.1 p.1.1 := ⟨hpo, Int.le_refl _, hpo.2⟩
    obtain ⟨g1, g2⟩ := part_in (a := q.1.1) (b := q.1.2) hco hp hpx
    have g3 := valB_mem hcn.apart hq g2
    exact h n o p.1.1 p.2 q.2 h1 h2 h3 h4 (by omega) (by unfold bl; rw [en]; exact g3) (by unfold bl; rw [eo]; exact g1)
theorem TL.sound_iff (h : TL w B t s) : soundP s ↔ soundB s := Go.Proofs.YtcekmdpiloegcaaGreat.sound_iff h.lists h.hn h.nn.2
theorem hasB_iff {a b x : Int} (h : 0 ≤ a) : hasB (a, b) x ↔ a ≤ x ∧ x < b := by
  unfold hasB ok
  dsimp only
  omega
theorem free_iff (h : TL w B t s) {node a b md : Int} : freeP s node a b md ↔ ∀ x, hasB (a, b) x → ¬ (HxN s node md x ∨ HxA (claimsF s s.ws) node md x) := by
  unfold freeP
  exact hind_free h.lists (by have := h.nn; omega)
theorem ask_free {i : Nat} {a b md : Int} (h : TL w B t s) (hok : WsOk s.ws) (hwn : WsN s) (hla : 0 ≤ s.last ∧ s.last ≤ 1000000000) (hB : B ≤ siz w)
    (h1 : rightA s i a b md) (h2 : ¬ hasP s i a b md) (h3 : freeP s i a b md) (hq : ∀ w', TL w' B t (s.raise i a b md) → KO B tp w w' → Q (.tuple #[.int .i64 0, .bool true, .int .i64 0]) w') :
    callS Tryz.prog 6 #[.pointer (some ⟨t, 0, none⟩), .int .i64 (i : Int), .agg #[.int .i64 a, .int .i64 b, .int .i64 md]] Q w := by
  refine ask_c h hok hwn hla hB (fun w' g _ => absurd h1 g) (fun w' j e _ g _ _ => ?_) (fun w' j e _ _ _ g k => ?_) (fun w' j e _ _ g => absurd h3 g) (fun w' j e _ _ g => absurd h3 g) (fun w' j e _ _ g => absurd h3 g)
  · have : j = i := by omega
    subst this
    exact absurd g h2
  · have : j = i := by omega
    subst this
    exact hq w' g k
theorem ask_wait {i : Nat} {a b md : Int} (h : TL w B t s) (hok : WsOk s.ws) (hwn : WsN s) (hla : 0 ≤ s.last ∧ s.last ≤ 1000000000) (hB : B ≤ siz w)
    (h1 : rightA s i a b md) (h2 : ¬ hasP s i a b md) (h3 : ¬ freeP s i a b md) (h4 : ¬ deadP s i a b md) (h5 : s.ws.length < 1000) (hq : ∀ w', TL w' B t (s.wait i a b md) → KO B tp w w' → Q (.tuple #[.int .i64 (s.last + 1), .bool false, .int .i64 0]) w') :
    callS Tryz.prog 6 #[.pointer (some ⟨t, 0, none⟩), .int .i64 (i : Int), .agg #[.int .i64 a, .int .i64 b, .int .i64 md]] Q w := by
  refine ask_c h hok hwn hla hB (fun w' g _ => absurd h1 g) (fun w' j e _ g _ _ => ?_) (fun w' j e _ _ g => absurd g h3) (fun w' j e _ _ _ g _ _ => ?_) (fun w' j e _ _ _ _ g => absurd h5 (by omega)) (fun w' j e _ _ _ _ _ g k => hq w' g k)
  · have : j = i := by omega
    subst this
    exact absurd g h2
  · have : j = i := by omega
    subst this
    exact absurd g h4
theorem ask_dead {i : Nat} {a b md : Int} (h : TL w B t s) (hok : WsOk s.ws) (hwn : WsN s) (hla : 0 ≤ s.last ∧ s.last ≤ 1000000000) (hB : B ≤ siz w)
    (h1 : rightA s i a b md) (h2 : ¬ hasP s i a b md) (h3 : ¬ freeP s i a b md) (h4 : deadP s i a b md) (hq : ∀ w', TL w' B t s → KO B tp w w' → Q (.tuple #[.int .i64 0, .bool false, .int .i64 33]) w') :
    callS Tryz.prog 6 #[.pointer (some ⟨t, 0, none⟩), .int .i64 (i : Int), .agg #[.int .i64 a, .int .i64 b, .int .i64 md]] Q w := by
  refine ask_c h hok hwn hla hB (fun w' g _ => absurd h1 g) (fun w' j e _ g _ _ => ?_) (fun w' j e _ _ g => absurd g h3) (fun w' j e _ _ _ _ g k => hq w' g k) (fun w' j e _ _ _ g => ?_) (fun w' j e _ _ _ g => ?_)
  all_goals
    have : j = i := by omega
    subst this
  · exact absurd g h2
  · exact absurd h4 g
  · exact absurd h4 g
/-! ### the state -/
theorem wsOk_nil : WsOk [] := ⟨Nat.zero_le _, fun k hk => by cases hk⟩
theorem wsOk_snoc {W : List I5} {k : I5} (h : WsOk W) (hl : W.length < 1000) (hk : rightL (k.2.2.1, k.2.2.2.1, k.2.2.2.2)) : WsOk (W ++ [k]) := by
  refine ⟨by rw [List.length_append, List.length_singleton]; omega, fun q hq => ?_⟩
  rcases List.mem_append.1 hq with hq | hq
  · exact h.2 q hq
  · rw [List.mem_singleton] at hq; subst hq; exact hk
theorem wsN_wait {node a b md : Int} (h : WsN s) (hn : 1 ≤ node ∧ node ≤ s.nodes) : WsN (s.wait node a b md) := fun q hq => by
  have hq : q ∈ s.ws ++ [(s.last + 1, node, a, b, md)] := hq
  rcases List.mem_append.1 hq with hq | hq
  · exact h q hq
  · rw [List.mem_singleton] at hq; subst hq; exact hn
theorem grantG_sub (s : TS) : ∀ (n : Nat) (W : List I5), W.length = n → ∀ k ∈ (grantG s W).2.1, k ∈ W
  | 0, W, h => by rw [List.length_eq_zero_iff.1 h]; exact fun k hk => hk
  | n + 1, W, h => by
    rcases List.eq_nil_or_concat W with rfl | ⟨V, q, rfl⟩
    · simp at h
    · rw [List.concat_eq_append] at h ⊢
      have ih := grantG_sub s n V (by simpa using h)
      rw [grantG_snoc]
      unfold gr1
      split
      · intro k hk
        rcases List.mem_append.1 hk with hk | hk
        · exact List.mem_append_left _ (ih k hk)
        · exact List.mem_append_right _ hk
      · exact fun k hk => List.mem_append_left _ (ih k hk)
theorem granted_ws (h : WsOk s.ws) : WsOk s.granted.ws := by
  refine ⟨?_, fun k hk => h.2 k (grantG_sub s _ s.ws rfl k hk)⟩
  have h1 := (grantG_len s _ s.ws rfl).1
  have h2 := h.1
  have : s.granted.ws.length = (grantG s s.ws).2.1.length := rfl
  omega
theorem granted_nodes : s.granted.nodes = s.nodes := (grantG_ws s _ s.ws rfl).2.1
theorem granted_last : s.granted.last = s.last := (grantG_ws s _ s.ws rfl).2.2
theorem granted_wn (h : WsN s) : WsN s.granted := fun k hk => by
  rw [granted_nodes]
  exact h k (grantG_sub s _ s.ws rfl k hk)
end
end Go.Proofs.YtcekmdpiloegcaaGreat
/- The table of locks: a first play. Conditions: none. -/
namespace Go.Proofs.YtcekmdpiloegcaaGreat
open Go.Sh Go.Proofs.YtcekmdpiloegcaaGreat.Mi
set_option maxRecDepth 100000
section
variable {w w' : World} {Q : Value → World → Prop}
theorem canon1 {a b v : Int} (h : ok (a, b)) : Canon [(((a, b), v) : Pt Int)] := ⟨fun p hp => by simp at hp; subst hp; exact h, by simp⟩
theorem talive_c (hq : ∀ w', Keep (fun b => siz w ≤ b) w w' → Q (.bool true) w') : callS Tryz.prog 4 #[] Q w := by
  refine ref4 ?_
  unfold S4
  refine tnew_c (B := siz w) (nodes := 2) (by omega) (Nat.le_refl _) fun w1 h1 k1 => ?_
  simp only [stp, Nat.reduceAdd, Int.reduceLT, Int.reduceLE, Int.reduceEq, Int.reduceNe, ne_eq, bne_self_eq_false, beq_self_eq_true]
  have s1 := k1.size
  have hno : ∀ o x, bl (TS.fresh 2) o x = none := bl_fresh 2
  have hN0 : ∀ (s : TS) (node md x : Int), (∀ o, bl s o x = none) → ¬ HxN s node md x := fun s node md x h hh => by
    obtain ⟨o, _, _, _, v, hv, _⟩ := hh
    rw [h o] at hv; cases hv
  have hA0 : ∀ node md x : Int, ¬ HxA [] node md x := fun node md x h => by obtain ⟨k, hk, _⟩ := h; cases hk
  refine ask_free (i := 1) h1 wsOk_nil (fun k hk => by cases hk) (by show (0 : Int) ≤ 0 ∧ (0 : Int) ≤ 1000000000; omega) (by omega) ⟨by show (1 : Int) ≤ 1 ∧ (1 : Int) ≤ 2; omega, by unfold rightL ok; dsimp only; omega⟩ (fun h => ?_) ?_ fun w2 h2 k2 => ?_
  · obtain ⟨v, hv, _⟩ := h 0 ((hasB_iff (by omega)).2 (by omega))
    rw [hno] at hv; cases hv
  · rw [free_iff h1]
    intro x _ hh
    rcases hh with hh | hh
    · exact hN0 _ _ _ x (fun o => hno o x) hh
    · exact hA0 _ _ _ hh
  have b2 := fun o x => bl_raise h1 (i := 1) (a := 0) (b := 9) (md := 2) (by omega) (by omega) (by omega) o x
  generalize hs2 : TS.raise (TS.fresh 2) 1 0 9 2 = s2 at *
  have hs2n : s2.nodes = 2 ∧ s2.ws = [] ∧ s2.last = 0 := by rw [← hs2]; exact ⟨rfl, rfl, rfl⟩
  obtain ⟨n2, ws2, la2⟩ := hs2n
  have b2' : ∀ o x, bl s2 o x = if o = 1 ∧ 0 ≤ x ∧ x < 9 then some 2 else none := fun o x => by
    rw [b2]
    by_cases ho : o = 1
    · rw [if_pos ho]
      unfold updM
      by_cases hx : hasB (0, 9) x
      · rw [if_pos hx, hno, if_pos ⟨ho, (hasB_iff (by omega)).1 hx⟩]
      · rw [if_neg hx, hno, if_neg fun h => hx ((hasB_iff (by omega)).2 h.2)]
    · rw [if_neg ho, hno, if_neg fun h => ho h.1]
  have s2' := k2.size
  simp only [stp, Nat.reduceAdd, Int.reduceLT, Int.reduceLE, Int.reduceEq, Int.reduceNe, ne_eq, bne_self_eq_false, beq_self_eq_true]
  refine ask_wait (i := 2) h2 (by rw [ws2]; exact wsOk_nil) (fun k hk => by rw [ws2] at hk; cases hk) (by omega) (by omega) ⟨by omega, by unfold rightL ok; dsimp only; omega⟩ (fun h => ?_) (fun h => ?_) (fun h => absurd h.1 (by omega)) (by rw [ws2]; simp) fun w3 h3 k3 => ?_
  · obtain ⟨v, hv, _⟩ := h 3 ((hasB_iff (by omega)).2 (by omega))
    rw [b2', if_neg (by omega)] at hv; cases hv
  · refine (free_iff h2).1 h 3 ((hasB_iff (by omega)).2 (by omega)) (.inl ⟨1, by omega, by omega, by omega, 2, ?_, by decide⟩)
    rw [b2', if_pos (by omega)]
  have hs3 : (s2.wait 2 3 5 1).nodes = 2 ∧ (s2.wait 2 3 5 1).ws = [(1, 2, 3, 5, 1)] ∧ (s2.wait 2 3 5 1).last = 1 := by
    unfold TS.wait
    dsimp only
    rw [n2, ws2, la2]
    exact ⟨rfl, rfl, rfl⟩
  have b3 : ∀ o x, bl (s2.wait 2 3 5 1) o x = if o = 1 ∧ 0 ≤ x ∧ x < 9 then some 2 else none := b2'
  rw [la2]
  generalize s2.wait 2 3 5 1 = s3 at *
  obtain ⟨n3, ws3, la3⟩ := hs3
  have ok3 : WsOk s3.ws := by
    rw [ws3]
    exact ⟨by simp, fun k hk => by simp at hk; subst hk; unfold rightL ok; dsimp only; omega⟩
  have wn3 : WsN s3 := fun k hk => by rw [ws3] at hk; simp at hk; subst hk; dsimp only; omega
  have s3' := k3.size
  simp only [stp, Nat.reduceAdd, Int.reduceLT, Int.reduceLE, Int.reduceEq, Int.reduceNe, ne_eq, bne_self_eq_false, beq_self_eq_true]
  have kk3 := (Keep.new k1).trans ((k2.trans k3).below (Nat.le_refl _))
  refine trevokes_c h3 ok3 fun w4 v4 o4 k4 => ?_
  have hrev : revF s3 = [(1, 3, 5, 1)] := by
    have e1 : canonL (revN s3 (1, 2, 3, 5, 1) (List.replicate 17 []) 1) = [((3, 5), 1)] := by
      refine canonL_eq (canon1 (by unfold ok; dsimp only; omega)) (fun p hp => by simp at hp; subst hp; dsimp only; omega) fun x => ?_
      unfold revN revB
      rw [b3]
      have hT : toldB (List.replicate 17 []) 1 x = none := rfl
      by_cases hx : hasB (3, 5) x
      · have hx' := (hasB_iff (by omega)).1 hx
        rw [if_pos hx, if_pos (by omega), hT, valB_cons, if_pos hx]
        decide
      · rw [if_neg hx, valB_cons, if_neg hx]
        rfl
    unfold revF revG
    rw [ws3, n3]
    show (revK s3 (1, 2, 3, 5, 1) (List.replicate 17 [], []) 2).2 = _
    show (rev1 s3 (1, 2, 3, 5, 1) (rev1 s3 (1, 2, 3, 5, 1) (List.replicate 17 [], []) 1) 2).2 = _
    have e2 : ∀ g : RS, rev1 s3 (1, 2, 3, 5, 1) g 2 = g := fun g => if_pos (by decide)
    rw [e2]
    unfold rev1
    rw [if_neg (by decide)]
    dsimp only
    rw [e1]
    rfl
  rw [hrev] at o4
  have h4 := h3.keep0 k4
  have s4' := k4.size
  try simp only [stp, Nat.reduceAdd, Int.reduceLT, Int.reduceLE, Int.reduceEq, Int.reduceNe, ne_eq, bne_self_eq_false, beq_self_eq_true]
  refine release_c h4 ok3 wn3 (by omega) (fun w5 g _ => absurd ⟨by omega, by unfold ok; dsimp only; omega, .inr rfl⟩ g) fun w5 v5 i ei hi1 hi2 _ _ h5 o5 k5 => ?_
  have hi : i = 1 := by omega
  subst hi
  have h4r : ∃ w9, TL w9 (siz w) (siz w) s3 := ⟨_, h4⟩
  have b5 := fun o x => bl_release h4 (i := 1) (a := 3) (b := 5) (keep := 1) (by omega) o x
  have b5' : ∀ o x, bl (s3.release 1 3 5 1) o x = if o = 1 ∧ 0 ≤ x ∧ x < 9 then (if 3 ≤ x ∧ x < 5 then some 1 else some 2) else none := fun o x => by
    rw [b5]
    unfold relF
    rw [b3, b3]
    by_cases ho : o = 1
    · subst ho
      rw [if_pos rfl]
      by_cases hx : hasB (3, 5) x
      · have hx' := (hasB_iff (by omega)).1 hx
        rw [if_pos hx, if_pos (by omega), if_pos (by omega), if_pos hx']
        rfl
      · rw [if_neg hx]
        by_cases h9 : 0 ≤ x ∧ x < 9
        · rw [if_pos (by omega), if_pos (by omega), if_neg fun h => hx ((hasB_iff (by omega)).2 h)]
        · rw [if_neg (by omega), if_neg (by omega)]
    · rw [if_neg ho, if_neg (by omega), if_neg (by omega)]
  have hs5 : (s3.release 1 3 5 1).nodes = 2 ∧ (s3.release 1 3 5 1).ws = [(1, 2, 3, 5, 1)] := ⟨n3, ws3⟩
  -- what is granted
  have hl5 : Lists (s3.release 1 3 5 1) ∧ (s3.release 1 3 5 1).hs.length = 17 ∧ Sup (bl (s3.release 1 3 5 1) 2) := by
    refine ⟨fun l hl => ?_, ?_, fun x hx => ?_⟩
    · unfold TS.release TS.turn at hl
      rcases List.mem_or_eq_of_mem_set hl with hl | rfl
      · exact h4.lists l hl
      · exact (canonL_canon _).1
    · show (s3.hs.set 1 _).length = 17
      rw [List.length_set]; exact h4.hn
    · rw [b5', if_neg (by omega)] at hx
      exact absurd rfl hx
  generalize s3.release 1 3 5 1 = s5 at *
  obtain ⟨n5, ws5⟩ := hs5
  obtain ⟨hl5, hn5, sup5⟩ := hl5
  have hfree : ¬ hindF s5 [] 2 3 5 1 < 5 := (hind_free hl5 (by omega)).2 fun x hx hh => by
    rcases hh with ⟨o, h1, h2, h3, v, hv, hf⟩ | hh
    · have hx' := (hasB_iff (by omega)).1 hx
      rw [n5] at h2
      rw [b5', if_pos (by omega), if_pos hx'] at hv
      injection hv with hv
      subst hv
      exact hf (by decide)
    · exact hA0 _ _ _ hh
  have hg : grantG s5 s5.ws = (s5.raise 2 3 5 1, [], [], [(1, 2, 3, 5, 1)]) := by
    rw [ws5]
    show gr1 (s5, [], [], []) (1, 2, 3, 5, 1) = _
    unfold gr1
    dsimp only
    rw [if_neg hfree]
    rfl
  have hout : grantOut s5 = [(1, 2, 3, 5, 1)] := by unfold grantOut; rw [hg]
  have hgr : s5.granted = { s5.raise 2 3 5 1 with ws := [] } := by unfold TS.granted; rw [hg]
  have n2' : ∀ x, bl s5 2 x = none := fun x => by rw [b5', if_neg (by omega)]
  have b6 : ∀ o x, bl s5.granted o x = if o = 2 then (if 3 ≤ x ∧ x < 5 then some 1 else none) else bl s5 o x := fun o x => by
    rw [hgr]
    show bl (s5.raise 2 3 5 1) o x = _
    unfold TS.raise
    rw [bl_turn (by rw [hn5]; omega) (sup_upd sup5 (by omega) (by omega))]
    by_cases ho : o = 2
    · rw [if_pos ho, if_pos ho]
      unfold updM
      rw [n2']
      by_cases hx : hasB (3, 5) x
      · rw [if_pos hx, if_pos ((hasB_iff (by omega)).1 hx)]
      · rw [if_neg hx, if_neg fun h => hx ((hasB_iff (by omega)).2 h)]
    · rw [if_neg ho, if_neg ho]
  rw [hout] at o5
  have hsound : soundB s5.granted := by
    intro n o x u v h1 h2 h3 h4 h5 hv hu
    have hn6 : s5.granted.nodes = 2 := by rw [granted_nodes, n5]
    rw [hn6] at h2 h4
    rw [b6] at hv hu
    rcases (show n = 1 ∧ o = 2 ∨ n = 2 ∧ o = 1 by omega) with ⟨rfl, rfl⟩ | ⟨rfl, rfl⟩
    · rw [if_neg (by omega), b5'] at hv
      rw [if_pos rfl] at hu
      by_cases hx : 3 ≤ x ∧ x < 5
      · rw [if_pos (by omega), if_pos hx] at hv
        rw [if_pos hx] at hu
        injection hv with hv
        injection hu with hu
        subst hu hv
        decide
      · rw [if_neg hx] at hu; cases hu
    · rw [if_pos rfl] at hv
      rw [if_neg (by omega), b5'] at hu
      by_cases hx : 3 ≤ x ∧ x < 5
      · rw [if_pos (by omega), if_pos hx] at hu
        rw [if_pos hx] at hv
        injection hv with hv
        injection hu with hu
        subst hu hv
        decide
      · rw [if_neg hx] at hv; cases hv
  obtain ⟨p4, c4, rfl⟩ := o4.form
  obtain ⟨p5, c5, rfl⟩ := o5.form
  have o4' : Own w5 (siz w3) 47 4 (.slice p4 1 c4) 1 (flat encR [(1, 3, 5, 1)]) := k5.own o4 fun cs => rfl
  obtain ⟨g4, cg4, e4, _, _, _, _, _, hcel4⟩ := o4'.at (by omega)
  injection e4 with e41 _ e42
  subst e41 e42
  obtain ⟨g5, cg5, e5, _, _, _, _, _, hcel5⟩ := o5.at (by simp)
  injection e5 with e51 _ e52
  subst e51 e52
  have y0 : cel w5 g4 0 = some (.int .i64 1) := by rw [hcel4 0 (by omega)]; rfl
  have y1 : cel w5 g4 1 = some (.int .i64 3) := by rw [hcel4 1 (by omega)]; rfl
  have y2 : cel w5 g4 2 = some (.int .i64 5) := by rw [hcel4 2 (by omega)]; rfl
  have y3 : cel w5 g4 3 = some (.int .i64 1) := by rw [hcel4 3 (by omega)]; rfl
  have z1 : cel w5 g5 1 = some (.int .i64 2) := by rw [hcel5 1 (by simp)]; rfl
  have x4 : ∀ k, pur Tryz.prog (Instr.indexAt 44 (.slice (some ⟨g4, 0, none⟩) 1 c4) (.int .i64 0)) k = k (.pointer (some ⟨g4, 0, none⟩)) := fun k => ix_44 (i := 0) (by omega)
  have x5 : ∀ k, pur Tryz.prog (Instr.indexAt 35 (.slice (some ⟨g5, 0, none⟩) 1 c5) (.int .i64 0)) k = k (.pointer (some ⟨g5, 0, none⟩)) := fun k => ix_35 (i := 0) (by omega)
  simp only [stp, Nat.reduceAdd, Int.reduceLT, Int.reduceLE, Int.reduceEq, Int.reduceNe, ne_eq, bne_self_eq_false, beq_self_eq_true, stm, Int.reduceAdd, List.length_singleton, List.length_cons, List.length_nil, Int.ofNat_one, Int.natCast_one, x4, y0, y1, y2, y3, and_self, and_true, decide_true, Bool.and_self]
  simp only [stp, Nat.reduceAdd, Int.reduceLT, Int.reduceLE, Int.reduceEq, Int.reduceNe, ne_eq, bne_self_eq_false, beq_self_eq_true, stm, Bool.and_self, List.length_singleton, List.length_cons, List.length_nil, Int.ofNat_one, Int.natCast_one, x5, z1]
  refine tsound_c h5 fun w6 r hr k6 => ?_
  cases r with
  | false => exact absurd (hr.2 (h5.sound_iff.2 hsound)) (by simp)
  | true =>
    exact hq _ (((kk3.trans (Keep.none k4)).trans (k5.below (Nat.le_refl _))).trans (Keep.none k6))
end
end Go.Proofs.YtcekmdpiloegcaaGreat
