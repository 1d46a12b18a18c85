/- The table of locks: many wait for one block: who is let through. Conditions: as each says. -/
import Derived.Test.YtiomanikpboclaaTabG
set_option linter.unusedSimpArgs false
set_option linter.unusedVariables false
namespace Go.Proofs.Ytiomanikpboclaa
open Go.Sh Go.Proofs.Ytiomanikpboclaa.Mi
set_option maxRecDepth 100000
section
variable {s : TS}
/-- The n requests behind the first q. -/
def VL (E : Nat → I5) (q : Nat) : Nat → List I5
  | 0 => []
  | n + 1 => VL E q n ++ [E (q + n + 1)]
theorem VL_len (E : Nat → I5) (q : Nat) : ∀ n, (VL E q n).length = n
  | 0 => rfl
  | n + 1 => by unfold VL; rw [List.length_append, VL_len E q n]; rfl
theorem VL_get (E : Nat → I5) (q : Nat) : ∀ (n i : Nat), i < n → (VL E q n)[i]? = some (E (q + i + 1))
  | n + 1, i, h => by
    unfold VL
    by_cases hi : i < n
    · rw [List.getElem?_append_left (by rw [VL_len]; exact hi)]
      exact VL_get E q n i hi
    · have : i = n := by omega
      subst this
      rw [List.getElem?_append_right (by rw [VL_len]; exact Nat.le_refl _), VL_len, Nat.sub_self]
      rfl
theorem VL_mem (E : Nat → I5) (q : Nat) : ∀ (n : Nat) (k : I5), k ∈ VL E q n → ∃ j, q < j ∧ j ≤ q + n ∧ k = E j
  | n + 1, k, h => by
    unfold VL at h
    rcases List.mem_append.1 h with h | h
    · obtain ⟨j, h1, h2, h3⟩ := VL_mem E q n k h
      exact ⟨j, h1, by omega, h3⟩
    · rw [List.mem_singleton] at h
      exact ⟨q + n + 1, by omega, by omega, h⟩
/-- Requests for one block. -/
def EF (x0 : Int) (m : Nat → Int) (j : Nat) : I5 := ((j : Int), (j : Int), x0, x0 + 1, m j)
theorem hind_blk (p : Pu s) {A : List I5} {x0 node md : Int} (h0 : 0 ≤ x0) : hindF s A node x0 (x0 + 1) md < x0 + 1 ↔ (HxN s node md x0 ∨ HxA A node md x0) := by
  have hone : hasB (x0, x0 + 1) x0 := (hasB_in h0).2 ⟨by omega, by omega⟩
  constructor
  · intro h
    refine Classical.byContradiction fun hn => p.free.2 (fun x hx => ?_) h
    have := (hasB_in h0).1 hx
    have e : x = x0 := by unfold inR at this; omega
    rw [e]
    exact hn
  · intro h
    refine Classical.byContradiction fun hn => p.free.1 hn x0 hone h
theorem hind_blk_at (p : Pu s) {A : List I5} {x0 node md : Int} (h0 : 0 ≤ x0) (h : hindF s A node x0 (x0 + 1) md < x0 + 1) : hasB (x0, hindF s A node x0 (x0 + 1) md + 1) x0 := by
  have h1 := (hind_at p.li (by have := p.nn; omega) h).1.2.1
  dsimp only at h1
  exact (hasB_in h0).2 ⟨by omega, by omega⟩
def isM12 (v : Int) : Prop := v = 1 ∨ v = 2
theorem not_fit2 {v : Int} (h : isM12 v) : ¬ fitP 2 v ∧ ¬ fitP v 2 := by
  unfold fitP isMd
  unfold isM12 at h
  omega
theorem fit11 : fitP 1 1 := by decide
theorem not_fit {u v : Int} (hu : isM12 u) (hv : isM12 v) (h : ¬ fitP u v) : u = 2 ∨ v = 2 := by
  unfold isM12 at hu hv
  rcases hu with rfl | rfl
  · rcases hv with rfl | rfl
    · exact absurd fit11 h
    · exact .inr rfl
  · exact .inl rfl
/-- One that hinders the first one hinders all: nobody is let through. -/
theorem fair_stay {x0 : Int} {m : Nat → Int} {N q h : Nat} {v : Int} (p : Pu s) (h0 : 0 ≤ x0) (hm : ∀ j, 1 ≤ j → j ≤ N → isM12 (m j)) (hn : s.nodes = 16) (hh : 1 ≤ h ∧ h ≤ 16 ∧ (h ≤ q ∨ N < h)) (hb : bl s h x0 = some v) (hv : isM12 v) (hf : ¬ fitP v (m (q + 1))) :
    ∀ n, q + n ≤ N → (grantG s (VL (EF x0 m) q n)).1 = s ∧ (grantG s (VL (EF x0 m) q n)).2.1 = VL (EF x0 m) q n ∧ (grantG s (VL (EF x0 m) q n)).2.2.2 = [] ∧
      (0 < n → ∃ k ∈ (grantG s (VL (EF x0 m) q n)).2.2.1, k.2.1 = ((q + 1 : Nat) : Int) ∧ k.2.2.2.2 = m (q + 1) ∧ hasB (k.2.2.1, k.2.2.2.1) x0)
  | 0, _ => ⟨rfl, rfl, rfl, fun h => absurd h (Nat.lt_irrefl 0)⟩
  | n + 1, hle => by
    obtain ⟨h1, h2, h3, h4⟩ := fair_stay p h0 hm hn hh hb hv hf n (by omega)
    have hhin : hindF s (grantG s (VL (EF x0 m) q n)).2.2.1 ((q + n + 1 : Nat) : Int) x0 (x0 + 1) (m (q + n + 1)) < x0 + 1 := by
      refine (hind_blk p h0).2 ?_
      have hmj := hm (q + n + 1) (by omega) (by omega)
      by_cases hfj : fitP v (m (q + n + 1))
      · have hn0 : 0 < n := by
          rcases Nat.eq_zero_or_pos n with rfl | h
          · exact absurd hfj hf
          · exact h
        obtain ⟨k, hk, k1, k2, k3⟩ := h4 hn0
        have hv1 : ¬ v = 2 := fun e => by subst e; exact (not_fit2 hmj).1 hfj
        have hm2 := (not_fit hv (hm (q + 1) (by omega) (by omega)) hf).resolve_left hv1
        refine .inr ⟨k, hk, by rw [k1]; omega, ?_, k3⟩
        rw [k2, hm2]
        exact (not_fit2 hmj).1
      · exact .inl ⟨h, hh.1, by rw [hn]; have := hh.2.1; omega, by have := hh.2.2; omega, v, hb, hfj⟩
    have e : grantG s (VL (EF x0 m) q (n + 1)) = gr1 (grantG s (VL (EF x0 m) q n)) (EF x0 m (q + n + 1)) := grantG_snoc _ _ _
    rw [e]
    unfold gr1
    rw [show EF x0 m (q + n + 1) = (((q + n + 1 : Nat) : Int), ((q + n + 1 : Nat) : Int), x0, x0 + 1, m (q + n + 1)) from rfl]
    dsimp only
    rw [h1, if_pos hhin]
    refine ⟨rfl, ?_, h3, fun _ => ?_⟩
    · dsimp only
      rw [h2]; rfl
    · rcases Nat.eq_zero_or_pos n with rfl | hn0
      · refine ⟨_, List.mem_append_right _ (List.mem_singleton.2 rfl), rfl, rfl, ?_⟩
        exact hind_blk_at p h0 hhin
      · obtain ⟨k, hk, k1⟩ := h4 hn0
        exact ⟨k, List.mem_append_left _ hk, k1⟩
/-- Holders that fit: one, or all of them shared. -/
def grp (m : Nat → Int) (q r : Nat) : Prop := ∀ o o', q < o → o ≤ r → q < o' → o' ≤ r → o ≠ o' → m o = 1
structure FA (s : TS) (x0 : Int) (m : Nat → Int) (q n : Nat) (g : GS) : Prop where
  p : Pu g.1
  b : ∀ o x, bl g.1 o x = if x = x0 ∧ q < o ∧ o ≤ q + n then some (m o) else none
  l : g.2.1 = []
  c : g.2.2.1 = []
  o : g.2.2.2 = VL (EF x0 m) q n
  g : grp m q (q + n)
structure FB (s : TS) (x0 : Int) (m : Nat → Int) (q c n : Nat) (g : GS) : Prop where
  p : Pu g.1
  b : ∀ o x, bl g.1 o x = if x = x0 ∧ q < o ∧ o ≤ q + c then some (m o) else none
  l : g.2.1 = VL (EF x0 m) (q + c) (n - c)
  d : ∃ k ∈ g.2.2.1, k.2.1 = ((q + c + 1 : Nat) : Int) ∧ k.2.2.2.2 = m (q + c + 1) ∧ hasB (k.2.2.1, k.2.2.2.1) x0
  o : g.2.2.2 = VL (EF x0 m) q c
  g : grp m q (q + c)
  f : ∀ o, q < o → o ≤ q + c → ¬ fitP (m o) (m (q + c + 1))
theorem fair_group {x0 : Int} {m : Nat → Int} {N q : Nat} (p : Pu s) (h0 : 0 ≤ x0) (h1 : x0 < 4096) (hm : ∀ j, 1 ≤ j → j ≤ N → isM12 (m j)) (hN : N ≤ 15) (hn : s.nodes = 16) (hno : ∀ o x, bl s o x = none) :
    ∀ n, q + n ≤ N → FA s x0 m q n (grantG s (VL (EF x0 m) q n)) ∨ ∃ c, 0 < c ∧ c < n ∧ FB s x0 m q c n (grantG s (VL (EF x0 m) q n))
  | 0, _ => .inl ⟨p, fun o x => by rw [if_neg (by omega)]; exact hno o x, rfl, rfl, rfl, fun o o' h1 h2 => by omega⟩
  | n + 1, hle => by
    have e : grantG s (VL (EF x0 m) q (n + 1)) = gr1 (grantG s (VL (EF x0 m) q n)) (EF x0 m (q + n + 1)) := grantG_snoc _ _ _
    have hnodes := (grantG_ws s _ (VL (EF x0 m) q n) rfl).2.1
    have hmj := hm (q + n + 1) (by omega) (by omega)
    rw [e]
    rcases fair_group (N := N) (q := q) p h0 h1 hm hN hn hno n (by omega) with A | ⟨c, hc0, hcn, Bb⟩
    · generalize hgg : grantG s (VL (EF x0 m) q n) = g at *
      have hhin : hindF g.1 g.2.2.1 ((q + n + 1 : Nat) : Int) x0 (x0 + 1) (m (q + n + 1)) < x0 + 1 ↔ ∃ o, q < o ∧ o ≤ q + n ∧ ¬ fitP (m o) (m (q + n + 1)) := by
        rw [hind_blk A.p h0, A.c]
        constructor
        · rintro (⟨o, _, _, _, v, hv, hf⟩ | hh)
          · rw [A.b] at hv
            split at hv
            · rename_i hc
              injection hv with hv
              subst hv
              exact ⟨o, hc.2.1, hc.2.2, hf⟩
            · cases hv
          · exact absurd hh (hxA_nil _ _ _)
        · rintro ⟨o, g1, g2, g3⟩
          exact .inl ⟨o, by omega, by rw [hnodes, hn]; omega, by omega, m o, by rw [A.b, if_pos ⟨rfl, g1, g2⟩], g3⟩
      by_cases hh : hindF g.1 g.2.2.1 ((q + n + 1 : Nat) : Int) x0 (x0 + 1) (m (q + n + 1)) < x0 + 1
      · obtain ⟨o, g1, g2, g3⟩ := hhin.1 hh
        refine .inr ⟨n, by omega, by omega, ?_⟩
        unfold gr1
        rw [show EF x0 m (q + n + 1) = (((q + n + 1 : Nat) : Int), ((q + n + 1 : Nat) : Int), x0, x0 + 1, m (q + n + 1)) from rfl]
        dsimp only
        rw [if_pos hh]
        refine { p := A.p, b := A.b, l := ?_, d := ?_, o := A.o, g := A.g, f := fun o' q1 q2 => ?_ }
        · dsimp only
          rw [A.l, show n + 1 - n = 1 by omega]
          rfl
        · exact ⟨_, List.mem_append_right _ (List.mem_singleton.2 rfl), rfl, rfl, hind_blk_at A.p h0 hh⟩
        · rcases not_fit (hm o (by omega) (by omega)) hmj g3 with e2 | e2
          · by_cases hoo : o = o'
            · rw [← hoo]; exact g3
            · have := A.g o o' g1 g2 q1 q2 hoo
              omega
          · rw [e2]
            exact (not_fit2 (hm o' (by omega) (by omega))).2
      · refine .inl ?_
        have hfit : ∀ o, q < o → o ≤ q + n → fitP (m o) (m (q + n + 1)) := fun o g1 g2 => Classical.byContradiction fun g3 => hh (hhin.2 ⟨o, g1, g2, g3⟩)
        unfold gr1
        rw [show EF x0 m (q + n + 1) = (((q + n + 1 : Nat) : Int), ((q + n + 1 : Nat) : Int), x0, x0 + 1, m (q + n + 1)) from rfl]
        dsimp only
        rw [if_neg hh, show ((q + n + 1 : Nat) : Int).toNat = q + n + 1 from rfl]
        refine { p := A.p.raise (i := q + n + 1) (a := x0) (b := x0 + 1) (md := m (q + n + 1)) (by omega) h0 (by omega), b := fun o x => ?_, l := A.l, c := A.c, o := ?_, g := ?_ }
        · rw [A.p.bl_raise (i := q + n + 1) (a := x0) (b := x0 + 1) (md := m (q + n + 1)) (by omega) h0 (by omega)]
          by_cases ho : o = q + n + 1
          · subst ho
            have hnone : bl g.1 (q + n + 1) x = none := by rw [A.b, if_neg (by omega)]
            rw [if_pos rfl, updM_in h0, hnone]
            by_cases hx : x = x0
            · rw [if_pos ⟨by omega, by omega⟩, if_pos ⟨hx, by omega, by omega⟩]
            · rw [if_neg (by unfold inR; omega), if_neg (by omega)]
          · rw [if_neg ho, A.b]
            by_cases hc : x = x0 ∧ q < o ∧ o ≤ q + n
            · rw [if_pos hc, if_pos ⟨hc.1, hc.2.1, by omega⟩]
            · rw [if_neg hc, if_neg (by omega)]
        · dsimp only
          rw [A.o]; rfl
        · intro o o' g1 g2 g3 g4 hne
          have one : ∀ o, q < o → o ≤ q + n → m o = 1 ∧ m (q + n + 1) = 1 := fun o g1 g2 => by
            have hf := hfit o g1 g2
            have ho := hm o (by omega) (by omega)
            unfold fitP at hf
            unfold isM12 at ho hmj
            omega
          by_cases e1 : o = q + n + 1
          · subst e1
            exact (one o' g3 (by omega)).2
          · exact (one o g1 (by omega)).1
    · refine .inr ⟨c, hc0, by omega, ?_⟩
      generalize grantG s (VL (EF x0 m) q n) = g at *
      have hh : hindF g.1 g.2.2.1 ((q + n + 1 : Nat) : Int) x0 (x0 + 1) (m (q + n + 1)) < x0 + 1 := by
        refine (hind_blk Bb.p h0).2 ?_
        have hmc := hm (q + c + 1) (by omega) (by omega)
        rcases not_fit (hm (q + c) (by omega) (by omega)) hmc (Bb.f (q + c) (by omega) (Nat.le_refl _)) with e2 | e2
        · refine .inl ⟨q + c, by omega, by rw [hnodes, hn]; omega, by omega, m (q + c), by rw [Bb.b, if_pos ⟨rfl, by omega, Nat.le_refl _⟩], ?_⟩
          rw [e2]
          exact (not_fit2 hmj).1
        · obtain ⟨k, hk, k1, k2, k3⟩ := Bb.d
          refine .inr ⟨k, hk, by rw [k1]; omega, ?_, k3⟩
          rw [k2, e2]
          exact (not_fit2 hmj).1
      unfold gr1
      rw [show EF x0 m (q + n + 1) = (((q + n + 1 : Nat) : Int), ((q + n + 1 : Nat) : Int), x0, x0 + 1, m (q + n + 1)) from rfl]
      dsimp only
      rw [if_pos hh]
      refine { p := Bb.p, b := Bb.b, l := ?_, d := ?_, o := Bb.o, g := Bb.g, f := Bb.f }
      · dsimp only
        rw [Bb.l, show n + 1 - c = (n - c) + 1 by omega]
        show _ = VL (EF x0 m) (q + c) (n - c) ++ [EF x0 m (q + c + (n - c) + 1)]
        rw [show q + c + (n - c) + 1 = q + n + 1 by omega]
        rfl
      · obtain ⟨k, hk, k1⟩ := Bb.d
        exact ⟨k, List.mem_append_left _ hk, k1⟩
end
end Go.Proofs.Ytiomanikpboclaa
