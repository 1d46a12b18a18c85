/- The cache, in plain words, beside the document's own one. Conditions: as each says. -/
import Derived.Test.YtdnbegjamoeahaaGreatLLruX
set_option linter.unusedSimpArgs false
set_option linter.unusedVariables false
namespace Go.Proofs.YtdnbegjamoeahaaGreatL
open Go.Sh Go.Sh.Lru Go.Proofs.YtdnbegjamoeahaaGreatL.Lii
set_option maxRecDepth 100000
section
variable {w w' : World} {Q : Value → World → Prop} {B c r mb room : Nat} {sl : Value} {S A C : List Sl} {s : Sl} {x v : Int} {L : List Nd} {F : Nat → Prop}
def tri (n : Nd) : Value × Value × Nat := (n.k, n.v, n.p)
def triS (s : Sl) : Value × Value × Nat := (.int .i64 s.1, .int .i64 s.2.1, s.2.2)
theorem spl (h : L.map tri = (A ++ s :: C).map triS) : ∃ A' n C', L = A' ++ n :: C' ∧ A'.map tri = A.map triS ∧ C'.map tri = C.map triS ∧ n.k = .int .i64 s.1 ∧ n.v = .int .i64 s.2.1 ∧ n.p = s.2.2 := by
  rw [List.map_append, List.map_cons] at h
  obtain ⟨A', D, rfl, h1, h2⟩ := List.map_eq_append_iff.1 h
  obtain ⟨n, C', rfl, h3, h4⟩ := List.map_eq_cons_iff.1 h2
  unfold tri triS at h3
  injection h3 with h3 h5
  injection h5 with h5 h6
  exact ⟨A', n, C', rfl, h1, h4, h3, h5, h6⟩
theorem spl' {A' C' : List Nd} {n : Nd} (h : (A' ++ n :: C').map tri = S.map triS) : ∃ A s C, S = A ++ s :: C ∧ A'.map tri = A.map triS ∧ C'.map tri = C.map triS ∧ n.k = .int .i64 s.1 ∧ n.v = .int .i64 s.2.1 ∧ n.p = s.2.2 := by
  rw [List.map_append, List.map_cons] at h
  obtain ⟨A, D, rfl, h1, h2⟩ := List.map_eq_append_iff.1 h.symm
  obtain ⟨s, C, rfl, h3, h4⟩ := List.map_eq_cons_iff.1 h2
  unfold tri triS at h3
  injection h3 with h3 h5
  injection h5 with h5 h6
  exact ⟨A, s, C, rfl, h1.symm, h4.symm, h3.symm, h5.symm, h6.symm⟩
theorem tri_miss (h : L.map tri = S.map triS) (hn : ∀ s ∈ S, s.1 ≠ x) : ∀ n ∈ L, n.k ≠ .int .i64 x := fun n hm e => by
  have : tri n ∈ S.map triS := by rw [← h]; exact List.mem_map_of_mem hm
  obtain ⟨s, hs, he⟩ := List.mem_map.1 this
  unfold tri triS at he
  injection he with he _
  rw [e] at he
  injection he with _ he
  exact hn s hs he
theorem tri_len (h : L.map tri = S.map triS) : L.length = S.length := by have := congrArg List.length h; simpa using this
theorem tri_pins {P : Nat → Prop} (h : L.map tri = S.map triS) (hp : ∀ n ∈ L, P n.p) : ∀ s ∈ S, P s.2.2 := fun s hs => by
  have : triS s ∈ L.map tri := by rw [h]; exact List.mem_map_of_mem hs
  obtain ⟨n, hn, he⟩ := List.mem_map.1 this
  unfold tri triS at he
  injection he with _ he
  injection he with _ he
  rw [← he]; exact hp n hn
theorem tri_keys (h : L.map tri = S.map triS) : L.map Nd.k = flat (fun n : Int => [Value.int .i64 n]) (S.map (·.1)) := by
  have e : L.map Nd.k = (L.map tri).map (·.1) := by rw [List.map_map]; rfl
  rw [e, h, List.map_map]
  unfold flat
  rw [List.flatMap_map, List.map_eq_flatMap]
  rfl
/-- The cache of last uses, in plain words; F: its blocks. -/
def LC (w : World) (B c room : Nat) (S : List Sl) (F : Nat → Prop) : Prop :=
  (∃ mb L, Rep isI64 B w c mb room L ∧ L.map tri = S.map triS ∧ F = foot c mb L) ∨ (ZC w c ∧ B ≤ c ∧ room = 0 ∧ S = [] ∧ F = fun g => g = c)
/-- A step of the cache. -/
structure LS (F F' : Nat → Prop) (w w' : World) : Prop where
  keep : Keep F w w'
  sub : ∀ g, F' g → F g ∨ siz w ≤ g
theorem LC.lt (h : LC w B c room S F) {g : Nat} (hg : F g) : B ≤ g ∧ g < siz w := by
  rcases h with ⟨mb, L, h, _, rfl⟩ | ⟨h, hB, _, _, rfl⟩
  · refine ⟨?_, h.lt hg⟩
    have := h.base
    rcases hg with rfl | rfl | ⟨n, hn, rfl⟩
    · exact this.1
    · exact this.2.1
    · exact this.2.2 n hn
  · have hg : g = c := hg
    subst hg
    exact ⟨hB, blk_lt h⟩
theorem LC.keep {G : Nat → Prop} (h : LC w B c room S F) (k : Keep G w w') (hG : ∀ g, F g → ¬ G g) : LC w' B c room S F := by
  rcases h with ⟨mb, L, h, h1, rfl⟩ | ⟨h, h1, h2, h3, rfl⟩
  · exact .inl ⟨mb, L, h.keep k hG, h1, rfl⟩
  · exact .inr ⟨k.blk h (hG c rfl), h1, h2, h3, rfl⟩
theorem LC.keep0 (h : LC w B c room S F) (k : K0 w w') : LC w' B c room S F := h.keep k fun _ _ => id
theorem LC.len (h : LC w B c room S F) : S.length ≤ room ∧ room ≤ 100000 := by
  rcases h with ⟨mb, L, h, h1, _⟩ | ⟨_, _, rfl, rfl, _⟩
  · have := h.len; have := h.big; have := tri_len h1; omega
  · exact ⟨Nat.le_refl _, by omega⟩
theorem lput_hit (h : LC w B c room (A ++ s :: C) F) (hs : s.1 = x) (hq : ∀ w' F', LC w' B c room ((x, v, s.2.2) :: (A ++ C)) F' → LS F F' w w' → Q (.tuple #[.int .i64 0, .int .i64 0, .bool false, .bool true]) w') :
    callS Tryz.prog 16 #[.pointer (some ⟨c, 0, none⟩), .int .i64 x, .int .i64 v] Q w := by
  rcases h with ⟨mb, L, h, hm, rfl⟩ | ⟨_, _, _, h, _⟩
  rotate_left
  · simp at h
  obtain ⟨A', n, C', rfl, h1, h2, h3, h4, h5⟩ := spl hm
  rw [hs] at h3
  rw [← h3]
  refine put_old h (v := .int .i64 v) rfl fun w' h' k' => hq w' _ (.inl ⟨mb, _, h', ?_, rfl⟩) ⟨k', fun g hg => .inl ?_⟩
  · rw [List.map_cons, List.map_cons, List.map_append, List.map_append, h1, h2]
    unfold tri triS
    rw [h3, h5]
  · rcases hg with hg | hg | ⟨m, hm, hg⟩
    · exact .inl hg
    · exact .inr (.inl hg)
    · rcases List.mem_cons.1 hm with rfl | hm
      · exact .inr (.inr ⟨n, by simp, hg⟩)
      · exact .inr (.inr ⟨m, by rcases List.mem_append.1 hm with h | h <;> simp [h], hg⟩)
theorem lput_miss (h : LC w B c room S F) (hB : B ≤ siz w) (hn : ∀ s ∈ S, s.1 ≠ x)
    (hq0 : ∀ w' F', (room = 0 ∨ (room ≤ S.length ∧ ∀ s ∈ S, s.2.2 ≠ 0)) → LC w' B c room S F' → LS F F' w w' → Q (.tuple #[.int .i64 0, .int .i64 0, .bool false, .bool false]) w')
    (hqE : ∀ w' F' A s C, S = A ++ s :: C → s.2.2 = 0 → (∀ c ∈ C, c.2.2 ≠ 0) → room ≤ S.length → room ≠ 0 → LC w' B c room ((x, v, 0) :: (A ++ C)) F' → LS F F' w w' → Q (.tuple #[.int .i64 s.1, .int .i64 s.2.1, .bool true, .bool true]) w')
    (hqN : ∀ w' F', S.length < room → LC w' B c room ((x, v, 0) :: S) F' → LS F F' w w' → Q (.tuple #[.int .i64 0, .int .i64 0, .bool false, .bool true]) w') :
    callS Tryz.prog 16 #[.pointer (some ⟨c, 0, none⟩), .int .i64 x, .int .i64 v] Q w := by
  rcases h with ⟨mb, L, h, hm, rfl⟩ | ⟨h, hBc, rfl, rfl, rfl⟩
  · have hll := tri_len hm
    refine put_miss h (v := .int .i64 v) hB ⟨x, rfl⟩ rfl (tri_miss hm hn) (fun w' hor h' k' => hq0 w' _ ?_ (.inl ⟨mb, L, h', hm, rfl⟩) ⟨k', fun g hg => .inl hg⟩) (fun A' n C' hL hp0 hC hf w' b hb h' k' => ?_) (fun hlt w' b hb h' k' => hqN w' _ (by omega) (.inl ⟨mb, _, h', ?_, rfl⟩) ⟨k', fun g hg => ?_⟩)
    · rcases hor with h0 | ⟨h1, h2⟩
      · exact .inl h0
      · exact .inr ⟨by omega, tri_pins (P := fun p => p ≠ 0) hm h2⟩
    · subst hL
      obtain ⟨A, s, C, rfl, h1, h2, h3, h4, h5⟩ := spl' hm
      rw [h3, h4]
      refine hqE w' _ A s C rfl (by rw [← h5]; exact hp0) (tri_pins (P := fun p => p ≠ 0) h2 hC) (by omega) (fun e => ?_) (.inl ⟨mb, _, h', ?_, rfl⟩) ⟨k', fun g hg => ?_⟩
      · have := h.len; simp at this; omega
      · rw [List.map_cons, List.map_cons, List.map_append, List.map_append, h1, h2]; rfl
      · rcases hg with hg | hg | ⟨m, hm, hg⟩
        · exact .inl (.inl hg)
        · exact .inl (.inr (.inl hg))
        · rcases List.mem_cons.1 hm with rfl | hm
          · exact .inr (by rw [hg]; exact hb)
          · exact .inl (.inr (.inr ⟨m, by rcases List.mem_append.1 hm with h | h <;> simp [h], hg⟩))
    · rw [List.map_cons, List.map_cons, hm]; rfl
    · rcases hg with hg | hg | ⟨m, hm, hg⟩
      · exact .inl (.inl hg)
      · exact .inl (.inr (.inl hg))
      · rcases List.mem_cons.1 hm with rfl | hm
        · exact .inr (by rw [hg]; exact hb)
        · exact .inl (.inr (.inr ⟨m, hm, hg⟩))
  · refine ref16 ?_
    unfold S16
    simp only [stp, Nat.reduceAdd, Int.reduceLT, Int.reduceLE, Int.reduceEq, Int.reduceNe, ne_eq, bne_self_eq_false, beq_self_eq_true]
    generalize hw1 : w.alloc _ = w1
    have k1 : K0 w w1 := by rw [← hw1]; exact (K0.refl w).alloc _
    have g0 : Sh.cel w1 (siz w) 0 = some (.int .i64 0) := by rw [← hw1, cel_alloc_new]; rfl
    have g1 : Sh.cel w1 (siz w) 1 = some (.int .i64 0) := by rw [← hw1, cel_alloc_new]; rfl
    have h1 : ZC w1 c := k1.blk h id
    refine zfind_c h1 ?_
    simp only [stp, Nat.reduceAdd, Int.reduceLT, Int.reduceLE, Int.reduceEq, Int.reduceNe, ne_eq, bne_self_eq_false, beq_self_eq_true]
    refine zroom_c h1 ?_
    simp only [stp, Nat.reduceAdd, Int.reduceLT, Int.reduceLE, Int.reduceEq, Int.reduceNe, ne_eq, bne_self_eq_false, beq_self_eq_true, stm, cel_drew, g0, g1, Option.isSome_some, Option.getD_some]
    exact hq0 _ _ (.inl rfl) (.inr ⟨h1, hBc, rfl, rfl, rfl⟩) ⟨k1.none.drew, fun g hg => .inl hg⟩
theorem lget_hit (h : LC w B c room (A ++ s :: C) F) (hs : s.1 = x) (hq : ∀ w' F', LC w' B c room (s :: (A ++ C)) F' → LS F F' w w' → Q (.tuple #[.int .i64 s.2.1, .bool true]) w') :
    callS Tryz.prog 18 #[.pointer (some ⟨c, 0, none⟩), .int .i64 x] Q w := by
  rcases h with ⟨mb, L, h, hm, rfl⟩ | ⟨_, _, _, h, _⟩
  rotate_left
  · simp at h
  obtain ⟨A', n, C', rfl, h1, h2, h3, h4, h5⟩ := spl hm
  rw [hs] at h3
  rw [← h3]
  refine get_hit h fun w' h' k' => ?_
  rw [h4]
  refine hq w' _ (.inl ⟨mb, _, h', ?_, rfl⟩) ⟨k', fun g hg => .inl ?_⟩
  · rw [List.map_cons, List.map_cons, List.map_append, List.map_append, h1, h2]
    unfold tri triS
    rw [h3, h4, h5, hs]
  · rcases hg with hg | hg | ⟨m, hm, hg⟩
    · exact .inl hg
    · exact .inr (.inl hg)
    · rcases List.mem_cons.1 hm with rfl | hm
      · exact .inr (.inr ⟨_, by simp, hg⟩)
      · exact .inr (.inr ⟨m, by rcases List.mem_append.1 hm with h | h <;> simp [h], hg⟩)
theorem lpeek_miss (h : LC w B c room S F) (hn : ∀ s ∈ S, s.1 ≠ x) (hq : Q (.tuple #[.int .i64 0, .bool false]) w) :
    callS Tryz.prog 23 #[.pointer (some ⟨c, 0, none⟩), .int .i64 x] Q w := by
  rcases h with ⟨mb, L, h, hm, rfl⟩ | ⟨h, _, _, _, _⟩
  · exact peek_miss h ⟨x, rfl⟩ (tri_miss hm hn) hq
  · refine ref23 ?_
    unfold S23
    refine zfind_c h ?_
    simp only [stp, Nat.reduceAdd, Int.reduceLT, Int.reduceLE, Int.reduceEq, Int.reduceNe, ne_eq, bne_self_eq_false, beq_self_eq_true, stm]
    exact hq
theorem lpeek_hit (h : LC w B c room (A ++ s :: C) F) (hs : s.1 = x) (hq : Q (.tuple #[.int .i64 s.2.1, .bool true]) w) :
    callS Tryz.prog 23 #[.pointer (some ⟨c, 0, none⟩), .int .i64 x] Q w := by
  rcases h with ⟨mb, L, h, hm, rfl⟩ | ⟨_, _, _, h, _⟩
  rotate_left
  · simp at h
  obtain ⟨A', n, C', rfl, h1, h2, h3, h4, h5⟩ := spl hm
  rw [hs] at h3
  rw [← h3]
  refine peek_hit h (n := n) (by simp) ?_
  rw [h4]; exact hq
theorem lget_miss (h : LC w B c room S F) (hn : ∀ s ∈ S, s.1 ≠ x) (hq : Q (.tuple #[.int .i64 0, .bool false]) w) :
    callS Tryz.prog 18 #[.pointer (some ⟨c, 0, none⟩), .int .i64 x] Q w := by
  have h0 := h
  rcases h with ⟨mb, L, h, hm, rfl⟩ | ⟨h, _, _, _, _⟩
  · exact get_miss h ⟨x, rfl⟩ (tri_miss hm hn) hq
  · refine ref18 ?_
    unfold S18
    refine jn0 (fun w' => w' = w) (fun J hJ => ?_) ?_
    · refine zfind_c h ?_
      simp only [stp, Nat.reduceAdd, Int.reduceLT, Int.reduceLE, Int.reduceEq, Int.reduceNe, ne_eq, bne_self_eq_false, beq_self_eq_true, stm]
      exact hJ _ rfl
    · rintro w' rfl _j
      refine lpeek_miss h0 hn ?_
      simp only [stp, Nat.reduceAdd, Int.reduceLT, Int.reduceLE, Int.reduceEq, Int.reduceNe, ne_eq, bne_self_eq_false, beq_self_eq_true, stm]
      exact hq
theorem lpin_hit (h : LC w B c room (A ++ s :: C) F) (hs : s.1 = x) (hp : s.2.2 < 1000000) (hq : ∀ w' F', LC w' B c room (A ++ (s.1, s.2.1, s.2.2 + 1) :: C) F' → LS F F' w w' → Q (.bool true) w') :
    callS Tryz.prog 20 #[.pointer (some ⟨c, 0, none⟩), .int .i64 x] Q w := by
  rcases h with ⟨mb, L, h, hm, rfl⟩ | ⟨_, _, _, h, _⟩
  rotate_left
  · simp at h
  obtain ⟨A', n, C', rfl, h1, h2, h3, h4, h5⟩ := spl hm
  rw [hs] at h3
  rw [← h3]
  refine pin_hit h (by omega) fun w' h' k' => hq w' _ (.inl ⟨mb, _, h', ?_, rfl⟩) ⟨k', fun g hg => .inl ?_⟩
  · rw [List.map_append, List.map_cons, List.map_append, List.map_cons, h1, h2]
    unfold tri triS
    rw [h3, h4, h5, hs]
  · rcases hg with hg | hg | ⟨m, hm, hg⟩
    · exact .inl hg
    · exact .inr (.inl hg)
    · rcases List.mem_append.1 hm with hm | hm
      · exact .inr (.inr ⟨m, by simp [hm], hg⟩)
      · rcases List.mem_cons.1 hm with rfl | hm
        · exact .inr (.inr ⟨n, by simp, hg⟩)
        · exact .inr (.inr ⟨m, by simp [hm], hg⟩)
theorem lpin_miss (h : LC w B c room S F) (hn : ∀ s ∈ S, s.1 ≠ x) (hq : Q (.bool false) w) :
    callS Tryz.prog 20 #[.pointer (some ⟨c, 0, none⟩), .int .i64 x] Q w := by
  rcases h with ⟨mb, L, h, hm, rfl⟩ | ⟨h, _, _, _, _⟩
  · exact pin_miss h ⟨x, rfl⟩ (tri_miss hm hn) hq
  · refine ref20 ?_
    unfold S20
    refine zfind_c h ?_
    simp only [stp, Nat.reduceAdd, Int.reduceLT, Int.reduceLE, Int.reduceEq, Int.reduceNe, ne_eq, bne_self_eq_false, beq_self_eq_true, stm]
    exact hq
theorem lunpin_hit (h : LC w B c room (A ++ s :: C) F) (hs : s.1 = x) (hp : s.2.2 < 1000000) (h0 : 0 < s.2.2) (hq : ∀ w' F', LC w' B c room (A ++ (s.1, s.2.1, s.2.2 - 1) :: C) F' → LS F F' w w' → Q (.bool true) w') :
    callS Tryz.prog 21 #[.pointer (some ⟨c, 0, none⟩), .int .i64 x] Q w := by
  rcases h with ⟨mb, L, h, hm, rfl⟩ | ⟨_, _, _, h, _⟩
  rotate_left
  · simp at h
  obtain ⟨A', n, C', rfl, h1, h2, h3, h4, h5⟩ := spl hm
  rw [hs] at h3
  rw [← h3]
  refine unpin_hit h (by omega) (by omega) fun w' h' k' => hq w' _ (.inl ⟨mb, _, h', ?_, rfl⟩) ⟨k', fun g hg => .inl ?_⟩
  · rw [List.map_append, List.map_cons, List.map_append, List.map_cons, h1, h2]
    unfold tri triS
    rw [h3, h4, h5, hs]
  · rcases hg with hg | hg | ⟨m, hm, hg⟩
    · exact .inl hg
    · exact .inr (.inl hg)
    · rcases List.mem_append.1 hm with hm | hm
      · exact .inr (.inr ⟨m, by simp [hm], hg⟩)
      · rcases List.mem_cons.1 hm with rfl | hm
        · exact .inr (.inr ⟨n, by simp, hg⟩)
        · exact .inr (.inr ⟨m, by simp [hm], hg⟩)
theorem lunpin_none (h : LC w B c room (A ++ s :: C) F) (hs : s.1 = x) (h0 : s.2.2 = 0) (hq : Q (.bool false) w) :
    callS Tryz.prog 21 #[.pointer (some ⟨c, 0, none⟩), .int .i64 x] Q w := by
  rcases h with ⟨mb, L, h, hm, rfl⟩ | ⟨_, _, _, h, _⟩
  rotate_left
  · simp at h
  obtain ⟨A', n, C', rfl, h1, h2, h3, h4, h5⟩ := spl hm
  rw [hs] at h3
  rw [← h3]
  exact unpin_none h (n := n) (by simp) (by omega) hq
theorem lunpin_miss (h : LC w B c room S F) (hn : ∀ s ∈ S, s.1 ≠ x) (hq : Q (.bool false) w) :
    callS Tryz.prog 21 #[.pointer (some ⟨c, 0, none⟩), .int .i64 x] Q w := by
  rcases h with ⟨mb, L, h, hm, rfl⟩ | ⟨h, _, _, _, _⟩
  · exact unpin_miss h ⟨x, rfl⟩ (tri_miss hm hn) hq
  · refine ref21 ?_
    unfold S21
    refine zfind_c h ?_
    simp only [stp, Nat.reduceAdd, Int.reduceLT, Int.reduceLE, Int.reduceEq, Int.reduceNe, ne_eq, bne_self_eq_false, beq_self_eq_true, stm]
    exact hq
theorem lpinned_hit (h : LC w B c room (A ++ s :: C) F) (hs : s.1 = x) (hq : Q (.int .i64 (s.2.2 : Int)) w) :
    callS Tryz.prog 24 #[.pointer (some ⟨c, 0, none⟩), .int .i64 x] Q w := by
  rcases h with ⟨mb, L, h, hm, rfl⟩ | ⟨_, _, _, h, _⟩
  rotate_left
  · simp at h
  obtain ⟨A', n, C', rfl, h1, h2, h3, h4, h5⟩ := spl hm
  rw [hs] at h3
  rw [← h3]
  refine pinned_hit h (n := n) (by simp) ?_
  rw [h5]; exact hq
theorem lpinned_miss (h : LC w B c room S F) (hn : ∀ s ∈ S, s.1 ≠ x) (hq : Q (.int .i64 0) w) :
    callS Tryz.prog 24 #[.pointer (some ⟨c, 0, none⟩), .int .i64 x] Q w := by
  rcases h with ⟨mb, L, h, hm, rfl⟩ | ⟨h, _, _, _, _⟩
  · exact pinned_miss h ⟨x, rfl⟩ (tri_miss hm hn) hq
  · refine ref24 ?_
    unfold S24
    refine zfind_c h ?_
    simp only [stp, Nat.reduceAdd, Int.reduceLT, Int.reduceLE, Int.reduceEq, Int.reduceNe, ne_eq, bne_self_eq_false, beq_self_eq_true, stm]
    exact hq
theorem ldel_hit (h : LC w B c room (A ++ s :: C) F) (hs : s.1 = x) (hq : ∀ w' F', LC w' B c room (A ++ C) F' → LS F F' w w' → Q (.bool true) w') :
    callS Tryz.prog 22 #[.pointer (some ⟨c, 0, none⟩), .int .i64 x] Q w := by
  rcases h with ⟨mb, L, h, hm, rfl⟩ | ⟨_, _, _, h, _⟩
  rotate_left
  · simp at h
  obtain ⟨A', n, C', rfl, h1, h2, h3, h4, h5⟩ := spl hm
  rw [hs] at h3
  rw [← h3]
  refine delete_hit h fun w' h' k' => hq w' _ (.inl ⟨mb, _, h', ?_, rfl⟩) ⟨k', fun g hg => .inl ?_⟩
  · rw [List.map_append, List.map_append, h1, h2]
  · rcases hg with hg | hg | ⟨m, hm, hg⟩
    · exact .inl hg
    · exact .inr (.inl hg)
    · exact .inr (.inr ⟨m, by rcases List.mem_append.1 hm with h | h <;> simp [h], hg⟩)
theorem ldel_miss (h : LC w B c room S F) (hn : ∀ s ∈ S, s.1 ≠ x) (hq : Q (.bool false) w) :
    callS Tryz.prog 22 #[.pointer (some ⟨c, 0, none⟩), .int .i64 x] Q w := by
  rcases h with ⟨mb, L, h, hm, rfl⟩ | ⟨h, _, _, _, _⟩
  · exact delete_miss h ⟨x, rfl⟩ (tri_miss hm hn) hq
  · refine ref22 ?_
    unfold S22
    refine zfind_c h ?_
    simp only [stp, Nat.reduceAdd, Int.reduceLT, Int.reduceLE, Int.reduceEq, Int.reduceNe, ne_eq, bne_self_eq_false, beq_self_eq_true, stm]
    exact hq
theorem llen_c (h : LC w B c room S F) (hq : Q (.int .i64 (S.length : Int)) w) : callS Tryz.prog 28 #[.pointer (some ⟨c, 0, none⟩)] Q w := by
  rcases h with ⟨mb, L, h, hm, rfl⟩ | ⟨h, _, _, rfl, _⟩
  · refine len_c h ?_
    rw [tri_len hm]; exact hq
  · refine ref28 ?_
    unfold S28
    have c0 : Sh.cel w c 0 = some (.map none) := cel_b h 0
    simp only [stp, Nat.reduceAdd, Int.reduceLT, Int.reduceLE, Int.reduceEq, Int.reduceNe, ne_eq, bne_self_eq_false, beq_self_eq_true, stm, c0, Option.isSome_some, Option.getD_some]
    rw [rd_eq (show (Builtin.len_ #[31] 3 #[.map none]).run Tryz.prog w = .ok (.int .i64 0) w from by simp [Builtin.len_, Builtin.lenOf, goInt, Tryz.runUnderlying31])]
    exact hq
theorem lroom_c (h : LC w B c room S F) (hq : Q (.int .i64 (room : Int)) w) : callS Tryz.prog 29 #[.pointer (some ⟨c, 0, none⟩)] Q w := by
  rcases h with ⟨mb, L, h, hm, rfl⟩ | ⟨h, _, rfl, rfl, _⟩
  · exact room_c h hq
  · exact zroom_c h hq
theorem lkeys_c (h : LC w B c room S F) (hq : ∀ w' v', Sh.Own w' (siz w) 3 1 v' (S.map (·.1)).length (flat (fun n : Int => [Value.int .i64 n]) (S.map (·.1))) → K0 w w' → Q v' w') :
    callS Tryz.prog 25 #[.pointer (some ⟨c, 0, none⟩)] Q w := by
  have h0 := h
  rcases h with ⟨mb, L, h, hm, rfl⟩ | ⟨h, _, _, rfl, _⟩
  · refine keys_c h (fun n hn => ?_) fun w' v' o k => hq w' v' ?_ k
    · obtain ⟨i, hi⟩ := h.okk n hn
      exact ⟨i, hi⟩
    · rw [tri_keys hm] at o
      rw [List.length_map, ← tri_len hm]; exact o
  · refine ref25 ?_
    unfold S25
    refine llen_c h0 ?_
    simp only [stp, Nat.reduceAdd, Int.reduceLT, Int.reduceLE, Int.reduceEq, Int.reduceNe, ne_eq, bne_self_eq_false, beq_self_eq_true, stm, List.length_nil, Int.ofNat_zero]
    exact hq _ _ (Own.nil _ _ _ _) (K0.refl _)
end
end Go.Proofs.YtdnbegjamoeahaaGreatL
