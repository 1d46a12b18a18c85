/- Two caches, side by side, and the lists that are kept: what stands while they turn. Conditions: as each says. -/
import Derived.Test.YtdnbegjamoeahaaGreatLLruY
import Derived.Test.YtdnbegjamoeahaaGreatLLruAlive
import Derived.Test.YtdnbegjamoeahaaGreatLBookP
set_option linter.unusedSimpArgs false
set_option linter.unusedVariables false
namespace Go.Proofs.YtdnbegjamoeahaaGreatL
open Go.Sh Go.Sh.Lru Go.Proofs.YtdnbegjamoeahaaGreatL.Lii
set_option maxRecDepth 100000
abbrev tB5 : TypeId := 54
abbrev tO5 : TypeId := 56
section
variable {w0 w w' : World} {Q : Value → World → Prop} {B c r b bo rm : Nat} {sl sl' : Value} {S1 S2 S' S A C : List Sl} {s : Sl} {x v : Int} {F F' : Nat → Prop} {f : Nat → Value} {ps qs : List (Value × List Int)} {eo : Array Value}
/-- The cache, the document's own one, the book of lists. -/
structure PS (w0 : World) (B : Nat) (w : World) (c r b rm : Nat) (S1 S2 : List Sl) (F : Nat → Prop) (sl : Value) (f : Nat → Value) (ps qs : List (Value × List Int)) : Prop where
  lc : LC w B c rm S1 F
  rl : RL w B r sl S2 rm
  bk : BkC tB5 w b f
  ks : BkInts.KsX w B f ps qs
  nf : ∀ o, o < 30 → o ∉ [2, 3] → f o = .slice none 0 0
  dF : ∀ g, F g → g ≠ r ∧ sl.ownBlock ≠ some g ∧ g ≠ b ∧ ¬ kft (f 2) (f 3) ps qs g
  kp : Keep (fun g => B ≤ g) w0 w
  Bw : B ≤ siz w
  Br : B ≤ r
  Bb : B ≤ b
theorem kft_ty {w : World} (h : BkInts.KsX w B f ps qs) {g : Nat} (hg : kft (f 2) (f 3) ps qs g) : ∃ cs t, blk w g = some (.cells cs t) ∧ (t = 65 ∨ t = 3) := by
  rcases hg with (hg | ⟨p, hp, hg⟩) | (hg | ⟨p, hp, hg⟩)
  · obtain ⟨_, cs, h⟩ := h.p.row.ty hg; exact ⟨cs, _, h, .inl rfl⟩
  · obtain ⟨_, cs, h⟩ := (h.p.each p hp).ty hg; exact ⟨cs, _, h, .inr rfl⟩
  · obtain ⟨_, cs, h⟩ := h.q.row.ty hg; exact ⟨cs, _, h, .inl rfl⟩
  · obtain ⟨_, cs, h⟩ := (h.q.each p hp).ty hg; exact ⟨cs, _, h, .inr rfl⟩
theorem ty_ne {w : World} {a b : Nat} {x y : Array Value} {t t' : TypeId} (ha : blk w a = some (.cells x t)) (hb : blk w b = some (.cells y t')) (ht : t ≠ t') : a ≠ b := fun e => by
  subst e; rw [ha] at hb; injection hb with hb; injection hb with _ hb; exact ht hb
theorem PS.kr (h : PS w0 B w c r b rm S1 S2 F sl f ps qs) {g : Nat} (hg : kft (f 2) (f 3) ps qs g) : g ≠ r := by
  obtain ⟨cs, t, hb, ht⟩ := kft_ty h.ks hg
  refine ty_ne hb h.rl.c ?_
  rcases ht with rfl | rfl <;> decide
theorem PS.kb (h : PS w0 B w c r b rm S1 S2 F sl f ps qs) {g : Nat} (hg : kft (f 2) (f 3) ps qs g) : g ≠ b := by
  obtain ⟨cs, t, hb, ht⟩ := kft_ty h.ks hg
  refine ty_ne hb h.bk ?_
  rcases ht with rfl | rfl <;> decide
theorem PS.rb (h : PS w0 B w c r b rm S1 S2 F sl f ps qs) : r ≠ b := ty_ne h.rl.c h.bk (by decide)
theorem PS.slk (h : PS w0 B w c r b rm S1 S2 F sl f ps qs) {g : Nat} (hg : kft (f 2) (f 3) ps qs g) : sl.ownBlock ≠ some g := fun e => by
  obtain ⟨cs, t, hb, ht⟩ := kft_ty h.ks hg
  obtain ⟨_, cs', hb'⟩ := (h.rl.o.trd (Nat.le_refl _)).2 g e
  refine ty_ne hb hb' ?_ rfl
  rcases ht with rfl | rfl <;> decide
theorem PS.slb (h : PS w0 B w c r b rm S1 S2 F sl f ps qs) : sl.ownBlock ≠ some b := fun e => by
  obtain ⟨_, cs', hb'⟩ := (h.rl.o.trd (Nat.le_refl _)).2 b e
  exact ty_ne hb' h.bk (by decide) rfl
theorem PS.slr (h : PS w0 B w c r b rm S1 S2 F sl f ps qs) : sl.ownBlock ≠ some r := fun e => h.rl.sl_ne r e rfl
theorem PS.k0 (h : PS w0 B w c r b rm S1 S2 F sl f ps qs) (k : K0 w w') : PS w0 B w' c r b rm S1 S2 F sl f ps qs :=
  { h with lc := h.lc.keep0 k, rl := h.rl.keep0 k, bk := h.bk.keep k id, ks := h.ks.keep0 k, kp := h.kp.trans k.none, Bw := Nat.le_trans h.Bw k.size }
theorem PS.cache (h : PS w0 B w c r b rm S1 S2 F sl f ps qs) (hl : LC w' B c rm S' F') (st : LS F F' w w') : PS w0 B w' c r b rm S' S2 F' sl f ps qs where
  lc := hl
  rl := h.rl.keep st.keep (fun e => (h.dF _ e).1 rfl) fun g hg e => (h.dF g e).2.1 hg
  bk := h.bk.keep st.keep fun e => (h.dF _ e).2.2.1 rfl
  ks := h.ks.keep st.keep fun g hg e => (h.dF g e).2.2.2 hg
  nf := h.nf
  dF := fun g hg => by
    rcases st.sub g hg with h1 | h1
    · exact h.dF g h1
    · refine ⟨fun e => ?_, fun e => ?_, fun e => ?_, fun e => ?_⟩
      · have := h.rl.lt; omega
      · have := (h.rl.o.lt e).2; omega
      · have := h.bk.lt; omega
      · have := (h.ks.lt e).2; omega
  kp := h.kp.trans' st.keep fun g _ hg => (h.lc.lt hg).1
  Bw := Nat.le_trans h.Bw st.keep.size
  Br := h.Br
  Bb := h.Bb
theorem PS.ref (h : PS w0 B w c r b rm S1 S2 F sl f ps qs) (hr : RL w' B r sl' S' rm) (hf : ∀ g, sl'.ownBlock = some g → siz w ≤ g) (k : Keep (fun g => g = r) w w') : PS w0 B w' c r b rm S1 S' F sl' f ps qs where
  lc := h.lc.keep k fun g hg e => (h.dF g hg).1 e
  rl := hr
  bk := h.bk.keep k fun e => h.rb e.symm
  ks := h.ks.keep k fun g hg e => h.kr hg e
  nf := h.nf
  dF := fun g hg => ⟨(h.dF g hg).1, fun e => by have := hf g e; have := (h.lc.lt hg).2; omega, (h.dF g hg).2.2⟩
  kp := h.kp.trans' k fun g _ hg => by have hg : g = r := hg; rw [hg]; exact h.Br
  Bw := Nat.le_trans h.Bw k.size
  Br := h.Br
  Bb := h.Bb
/-- The op's own block. -/
structure OB (w : World) (bo : Nat) (eo : Array Value) (F : Nat → Prop) : Prop where
  o : blk w bo = some (.cells eo tO5)
  n : ¬ F bo
theorem OB.k0 (h : OB w bo eo F) (k : K0 w w') : OB w' bo eo F := ⟨k.blk h.o id, h.n⟩
theorem OB.cache (h : OB w bo eo F) (st : LS F F' w w') : OB w' bo eo F' := ⟨st.keep.blk h.o h.n, fun e => (st.sub _ e).elim h.n fun h1 => by have := blk_lt h.o; omega⟩
theorem OB.ref (h : OB w bo eo F) (hr : RL w B r sl S rm) (k : Keep (fun g => g = r) w w') : OB w' bo eo F := ⟨k.blk h.o (ty_ne h.o hr.c (by decide)), h.n⟩
theorem OB.cel (h : OB w bo eo F) (o : Nat) : Sh.cel w bo o = eo[o]? := cel_b h.o o
theorem first_dec : ∀ {S : List Sl}, (∃ s ∈ S, s.1 = x) → ∃ A s C, S = A ++ s :: C ∧ s.1 = x ∧ ∀ a ∈ A, a.1 ≠ x
  | [], h => by obtain ⟨_, h, _⟩ := h; simp at h
  | t :: S, h => by
    by_cases ht : t.1 = x
    · exact ⟨[], t, S, rfl, ht, fun a ha => by simp at ha⟩
    · obtain ⟨s, hs, hx⟩ := h
      rcases List.mem_cons.1 hs with rfl | hs
      · exact absurd hx ht
      · obtain ⟨A, s, C, rfl, h1, h2⟩ := first_dec ⟨s, hs, hx⟩
        exact ⟨t :: A, s, C, rfl, h1, fun a ha => by
          rcases List.mem_cons.1 ha with rfl | ha
          · exact ht
          · exact h2 a ha⟩
theorem last_unique : ∀ {A A' C C' : List Sl} {s s' : Sl}, A ++ s :: C = A' ++ s' :: C' → s.2.2 = 0 → s'.2.2 = 0 → (∀ a ∈ C, a.2.2 ≠ 0) → (∀ a ∈ C', a.2.2 ≠ 0) → A = A' ∧ s = s' ∧ C = C'
  | [], [], C, C', s, s', h, _, _, _, _ => by simp at h; exact ⟨rfl, h.1, h.2⟩
  | [], a :: A', C, C', s, s', h, h1, h2, h3, h4 => by
    simp at h
    exact absurd h2 (h3 s' (by rw [h.2]; simp))
  | a :: A, [], C, C', s, s', h, h1, h2, h3, h4 => by
    simp at h
    exact absurd h1 (h4 s (by rw [← h.2]; simp))
  | a :: A, a' :: A', C, C', s, s', h, h1, h2, h3, h4 => by
    simp at h
    obtain ⟨e1, e2, e3⟩ := last_unique (A := A) (A' := A') h.2 h1 h2 h3 h4
    exact ⟨by rw [h.1, e1], e2, e3⟩
theorem PS.add {l : Value} {f' : Nat → Value} {ps' qs' : List (Value × List Int)} (h : PS w0 B w c r b rm S1 S2 F sl f ps qs) (hb : BkC tB5 w' b f') (hne : ∀ o, o ≠ 2 → o ≠ 3 → f' o = f o) (hk : BkInts.KsX w' B f' ps' qs')
    (hs : ∀ g, kft (f' 2) (f' 3) ps' qs' g → kft (f 2) (f 3) ps qs g ∨ l.ownBlock = some g ∨ siz w ≤ g) (hlF : ∀ g, l.ownBlock = some g → ¬ F g) (k : Keep (fun g => g = b ∨ (f 2).ownBlock = some g ∨ (f 3).ownBlock = some g) w w') :
    PS w0 B w' c r b rm S1 S2 F sl f' ps' qs' where
  lc := h.lc.keep k fun g hg e => by
    rcases e with e | e | e
    · exact (h.dF g hg).2.2.1 e
    · exact (h.dF g hg).2.2.2 (.inl (.inl e))
    · exact (h.dF g hg).2.2.2 (.inr (.inl e))
  rl := h.rl.keep k (fun e => by
    rcases e with e | e | e
    · exact h.rb e
    · exact h.kr (.inl (.inl e)) rfl
    · exact h.kr (.inr (.inl e)) rfl) fun g hg e => by
    rcases e with e | e | e
    · exact h.slb (by rw [← e]; exact hg)
    · exact h.slk (.inl (.inl e)) hg
    · exact h.slk (.inr (.inl e)) hg
  bk := hb
  ks := hk
  nf := fun o h1 h2 => by
    rw [hne o (fun e => h2 (by rw [e]; decide)) (fun e => h2 (by rw [e]; decide))]; exact h.nf o h1 h2
  dF := fun g hg => ⟨(h.dF g hg).1, (h.dF g hg).2.1, (h.dF g hg).2.2.1, fun e => by
    rcases hs g e with h1 | h1 | h1
    · exact (h.dF g hg).2.2.2 h1
    · exact hlF g h1 hg
    · have := (h.lc.lt hg).2; omega⟩
  kp := h.kp.trans' k fun g _ hg => by
    rcases hg with e | e | e
    · rw [e]; exact h.Bb
    · exact (h.ks.lt (.inl (.inl e))).1
    · exact (h.ks.lt (.inr (.inl e))).1
  Bw := Nat.le_trans h.Bw k.size
  Br := h.Br
  Bb := h.Bb
theorem callS_mono {P : Program} {g : FuncId} {args : Array Value} {Q Q' : Value → World → Prop} {w : World} (h : callS P g args Q w) (hq : ∀ v w', Q v w' → Q' v w') : callS P g args Q' w := by
  obtain ⟨h1, h2⟩ := h
  exact ⟨h1, h2.mono fun v w' hv => hq v w' hv⟩
/-- Finding, with both ends in one. -/
theorem find_c (h : RL w B r sl S rm) (hS : S.length ≤ 90000) (hq : ∀ a : Int, ((∃ A s C, S = A ++ s :: C ∧ s.1 = x ∧ (∀ t ∈ A, t.1 ≠ x) ∧ a = (A.length : Int)) ∨ ((∀ s ∈ S, s.1 ≠ x) ∧ a = -1)) → Q (.int .i64 a) w) :
    callS Tryz.prog 15 #[.pointer (some ⟨r, 0, none⟩), .int .i64 x] Q w :=
  find_aux h (by omega) (fun A s C e h1 h2 => hq _ (.inl ⟨A, s, C, e, h1, h2, rfl⟩)) fun hn => hq _ (.inr ⟨hn, rfl⟩)
end
end Go.Proofs.YtdnbegjamoeahaaGreatL
