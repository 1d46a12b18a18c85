/- The cache: Change, whole; New. Conditions: as each says. -/
import Derived.Test.YtjfookddoaemfaaCacV
set_option linter.unusedSimpArgs false
set_option linter.unusedVariables false
namespace Go.Proofs.Ytjfookddoaemfaa
open Go.Sh Go.Sh.Lrv Go.Proofs.Ytjfookddoaemfaa.Lv
set_option maxRecDepth 100000
section
variable {w w' : World} {Q : Value → World → Prop} {c lc room : Nat} {es : List En} {ps : List (En × Nat)} {F : Nat → Prop}
theorem perm_head {e : En} (h : e ∈ es) : ∃ r, es.Perm (e :: r) := by
  obtain ⟨s, t, rfl⟩ := List.append_of_mem h
  exact ⟨s ++ t, List.perm_middle⟩
theorem change1 {t g : Nat} {pe : En} {is : Bool} {b v lsn : Int} {s : ByteArray} (hc : cel w c 0 = some (.pointer (some ⟨lc, 0, none⟩))) (hFc : ¬ F c) (h : GS w lc room (pins es) F) (hrm : 0 < room) (hlt : ∀ b, F b → b < siz w) (hb1 : blk w t = some (imgC b v s)) (hFt : ¬ F t) (hFg : ¬ F g) (hs : s.size ≤ 1000000)
    (hen : EnAt w g 0 pe) (hpe : is = true ∧ pe ∈ es ∧ pe.1 = b ∨ is = false ∧ pe = e0 ∧ ∀ x ∈ es, x.1 ≠ b)
    (hq : ∀ w' F' es' code, LS w' lc room es' F' → St F F' w w' → ChangeR room es b v s lsn es' code → Q (.int .i64 code) w') :
    P10_1 (.pointer (some ⟨t, 0, none⟩)) (.pointer (some ⟨c, 0, none⟩)) (.bool is) (.int .u64 lsn) (.pointer (some ⟨g, 0, none⟩)) w Q := by
  unfold P10_1
  have hr0 : ¬ ((room : Int) = 0) := by omega
  refine all_c hc ?_
  refine gRoom_c h ?_
  have x1 : cel w t 1 = some (.int .u64 v) := cel_b hb1 1
  obtain ⟨_, c1, _, c3, c4⟩ := hen.cs
  rw [Nat.zero_add] at c1 c3 c4
  by_cases hl : lsn = 0
  · subst hl
    simp only [stp, Nat.reduceAdd, Int.reduceLT, Int.reduceLE, Int.reduceEq, Int.reduceNe, ne_eq, bne_self_eq_false, beq_self_eq_true, hr0]
    exact hq w F es 1 h.ls (St.refl _ _) (.inl ⟨rfl, rfl, .inl rfl⟩)
  have go : ∀ lsn', lsn' = (if is = true ∧ pe.2.2.2.1 = true then min lsn pe.2.2.2.2 else lsn) → (is = true → pe.2.1 < v) → P10_2 (.pointer (some ⟨t, 0, none⟩)) (.pointer (some ⟨c, 0, none⟩)) (.int .u64 lsn') (.pointer (some ⟨g, 0, none⟩)) w Q := fun lsn' hls hv => by
    refine change2 hc hFc h hrm hlt hb1 hFt hFg hs hen hpe (fun w' F' h' s' hi hf hd => ?_) fun w' F' es' h' s' hor => ?_
    · refine hq w' F' es 10 h' s' (.inr (.inl ⟨rfl, rfl, hl, ?_, hf, hd⟩))
      rcases hpe with ⟨h1, _⟩ | ⟨_, _, h2⟩
      · rw [hi] at h1; cases h1
      · exact h2
    · refine hq w' F' es' 0 h' s' (.inr (.inr ⟨rfl, hl, ?_⟩))
      rcases hor with ⟨hi, r, hp, he⟩ | ⟨hi, hor⟩
      · rcases hpe with ⟨_, _, h2⟩ | ⟨h1, _⟩
        · refine .inl ⟨pe, r, hp, h2, hv hi, ?_⟩
          rw [he, hls]
          simp [hi]
        · rw [hi] at h1; cases h1
      · have hls' : lsn' = lsn := by rw [hls, hi]; simp
        subst hls'
        have hm : ∀ x ∈ es, x.1 ≠ b := by
          rcases hpe with ⟨h1, _⟩ | ⟨_, _, h2⟩
          · rw [hi] at h1; cases h1
          · exact h2
        rcases hor with ⟨h1, h2⟩ | ⟨h1, x, r, h2, h3, h4⟩
        · exact .inr (.inl ⟨hm, h1, h2⟩)
        · exact .inr (.inr ⟨hm, h1, x, r, h2, h3, h4⟩)
  rcases hpe with ⟨rfl, hx, hb⟩ | ⟨rfl, rfl, hm⟩
  · by_cases hv : v ≤ pe.2.1
    · simp only [stp, Nat.reduceAdd, Int.reduceLT, Int.reduceLE, Int.reduceEq, Int.reduceNe, ne_eq, bne_self_eq_false, beq_self_eq_true, hr0, hl, x1, c1, Option.isSome_some, Option.getD_some, hv]
      exact hq w F es 1 h.ls (St.refl _ _) (.inl ⟨rfl, rfl, .inr ⟨pe, hx, hb, hv⟩⟩)
    · cases hd : pe.2.2.2.1
      · rw [hd] at c3
        simp only [stp, Nat.reduceAdd, Int.reduceLT, Int.reduceLE, Int.reduceEq, Int.reduceNe, ne_eq, bne_self_eq_false, beq_self_eq_true, hr0, hl, x1, c1, c3, Option.isSome_some, Option.getD_some, hv]
        refine jn1 (fun x w' => x = .int .u64 lsn ∧ w' = w) (fun J hJ => ?_) ?_
        · try simp only [stp, Nat.reduceAdd, Int.reduceLT, Int.reduceLE, Int.reduceEq, Int.reduceNe, ne_eq, bne_self_eq_false, beq_self_eq_true, c3, Option.isSome_some, Option.getD_some]
          exact hJ _ _ ⟨rfl, rfl⟩
        · rintro x w' ⟨rfl, rfl⟩ _j
          exact go lsn (by rw [hd]; simp) fun _ => by omega
      · rw [hd] at c3
        simp only [stp, Nat.reduceAdd, Int.reduceLT, Int.reduceLE, Int.reduceEq, Int.reduceNe, ne_eq, bne_self_eq_false, beq_self_eq_true, hr0, hl, x1, c1, c3, Option.isSome_some, Option.getD_some, hv]
        refine jn1 (fun x w' => x = .int .u64 (min lsn pe.2.2.2.2) ∧ w' = w) (fun J hJ => ?_) ?_
        · try simp only [stp, Nat.reduceAdd, Int.reduceLT, Int.reduceLE, Int.reduceEq, Int.reduceNe, ne_eq, bne_self_eq_false, beq_self_eq_true, c3, c4, Option.isSome_some, Option.getD_some]
          exact hJ _ _ ⟨rfl, rfl⟩
        · rintro x w' ⟨rfl, rfl⟩ _j
          exact go _ (by rw [hd]; simp) fun _ => by omega
  · have hd : e0.2.2.2.1 = false := rfl
    rw [hd] at c3
    simp only [stp, Nat.reduceAdd, Int.reduceLT, Int.reduceLE, Int.reduceEq, Int.reduceNe, ne_eq, bne_self_eq_false, beq_self_eq_true, hr0, hl, c3, Option.isSome_some, Option.getD_some]
    refine jn1 (fun x w' => x = .int .u64 lsn ∧ w' = w) (fun J hJ => ?_) ?_
    · try simp only [stp, Nat.reduceAdd, Int.reduceLT, Int.reduceLE, Int.reduceEq, Int.reduceNe, ne_eq, bne_self_eq_false, beq_self_eq_true, c3, Option.isSome_some, Option.getD_some]
      exact hJ _ _ ⟨rfl, rfl⟩
    · rintro x w' ⟨rfl, rfl⟩ _j
      exact go lsn (by simp) fun e => by cases e
theorem change_c (h : CS w c room es F) (hrm : 0 < room) {b v lsn : Int} {s : ByteArray} (hs : s.size ≤ 1000000) (hq : ∀ w' F' es' code, CS w' c room es' F' → St F F' w w' → ChangeR room es b v s lsn es' code → Q (.int .i64 code) w') :
    callS Try.prog 10 #[.pointer (some ⟨c, 0, none⟩), vI b v s, .int .u64 lsn] Q w := by
  refine ref10 ?_
  rw [cut10]
  unfold P10_0
  obtain ⟨lc, hc, hFc, hl⟩ := h
  have hg := hl.gs.ltF
  have hcs := cel_lt' hc
  rw [act_box, agg_cells]
  generalize hw1 : w.alloc _ = w1
  have b1 : blk w1 (siz w) = some (imgC b v s) := by rw [← hw1]; exact blk_alloc_new
  have k1 : K0 w w1 := by rw [← hw1]; exact (K0.refl w).alloc _
  obtain ⟨pe, is, hpe, hpk⟩ := peek_any (hg.keep0 k1) b
  refine jn2 (fun x y w' => ∃ g, x = .pointer (some ⟨g, 0, none⟩) ∧ y = .bool is ∧ K0 w1 w' ∧ siz w1 ≤ g ∧ EnAt w' g 0 pe) (fun J hJ => ?_) ?_
  · exact peek_tree (k1.cel hc fun e => e) b1 hpk J fun w' g k hg he => hJ _ _ _ ⟨g, rfl, rfl, k, hg, he⟩
  · rintro x y w2 ⟨g, rfl, rfl, k2, hgs, hen⟩ _j
    have k12 := k1.trans k2
    have s1 := k1.size
    have s2 := k2.size
    refine change1 (F := fun b => F b ∧ b < siz w) (k12.cel hc fun e => e) (fun e => hFc e.1) (hg.keep0 k12) hrm (fun b hb => by have := hb.2; omega) (k2.blk b1 fun e => e) (fun e => by have := e.2; omega) (fun e => by have := e.2; omega) hs hen hpe fun w' F' es' code h' s' hr => ?_
    have := St.cs hc hFc (fun b hb => hb.1) ((St.of0 (F := fun b => F b ∧ b < siz w) k12).trans s') h'
    exact hq w' F' es' code this.1 this.2 hr
theorem cnew_c {r : Int} (hr : 1 ≤ r ∧ r ≤ 10000) (hq : ∀ w' c F, CS w' c r.toNat [] F → siz w ≤ c → (∀ b, F b → siz w ≤ b) → K0 w w' → Q (.pointer (some ⟨c, 0, none⟩)) w') :
    callS Try.prog 8 #[.int .i64 r] Q w := by
  refine ref8 ?_
  unfold S8
  simp only [stp, Nat.reduceAdd, Int.reduceLT, Int.reduceLE, Int.reduceEq, Int.reduceNe, ne_eq, bne_self_eq_false, beq_self_eq_true]
  have hrr : min (max r 1) 10000 = r := by omega
  rw [hrr]
  refine new_c (B := 0) (Nat.zero_le _) fun w1 h1 k1 => ?_
  simp only [stp, Nat.reduceAdd, Int.reduceLT, Int.reduceLE, Int.reduceEq, Int.reduceNe, ne_eq, bne_self_eq_false, beq_self_eq_true]
  have hcl : clampR r = r.toNat := by unfold clampR; rw [show min (max r 0) 100000 = r by omega]
  rw [hcl] at h1
  have hl := h1.lt (.inl rfl)
  have k2 : K0 w1 (w1.alloc (.cells #[.pointer (some ⟨siz w + 1, 0, none⟩)] 54)) := (K0.refl w1).alloc _
  have k1s := k1.size
  refine hq _ (siz w1) (fun b => siz w ≤ b ∧ b < siz w1) ⟨siz w + 1, cel_alloc_new, fun e => by have := e.2; omega, siz w, [], h1.keep0 k2, fun b hb => ?_, List.Perm.refl _, fun n hn => by cases hn⟩ k1s (fun b hb => hb.1) (k1.trans k2)
  have := h1.lt hb
  rcases hb with rfl | rfl | ⟨n, hn, _⟩
  · exact ⟨by omega, this⟩
  · exact ⟨by omega, this⟩
  · cases hn
end
end Go.Proofs.Ytjfookddoaemfaa
