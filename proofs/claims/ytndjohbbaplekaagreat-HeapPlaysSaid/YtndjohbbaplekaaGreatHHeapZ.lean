/- Two heaps, side by side, and the lists that are kept: what stands while they turn. Conditions: as each says. -/
import Derived.Test.YtndjohbbaplekaaGreatHHeapS
import Derived.Test.YtndjohbbaplekaaGreatHHeapAlive
import Derived.Test.YtndjohbbaplekaaGreatHBookP
set_option linter.unusedSimpArgs false
set_option linter.unusedVariables false
namespace Go.Proofs.YtndjohbbaplekaaGreatH
open Go.Sh Go.Sh.Hp
set_option maxRecDepth 100000
/-! ### in plain words -/
def tri (x : It) : Int × Nat × Value := (x.t, x.id, x.v)
def triW (s : Wt) : Int × Nat × Value := (s.1, s.2.1, .int .i64 s.2.2)
/-- The items, as they are told, beside the document's list. -/
structure HS (n : Nat) (f : Nat → It) (X : List It) (L : List Wt) : Prop where
  p : X.Perm (items n f)
  m : X.map tri = L.map triW
  s : X.Pairwise lt
  h : Heap n f
section
variable {n last : Nat} {f f' : Nat → It} {X A C : List It} {L : List Wt} {x : It} {s : Wt}
theorem HS.xl (h : HS n f X L) : X.length = L.length := by have := congrArg List.length h.m; simpa using this
theorem HS.len (h : HS n f X L) : L.length = n := by rw [← h.xl, h.p.length_eq]; simp [items]
theorem HS.at (h : HS n f X L) {i : Nat} (hi : i < L.length) (hx : i < X.length := by first | assumption | (have := HS.xl (by assumption); omega)) : (X[i]).t = L[i].1 ∧ (X[i]).id = L[i].2.1 ∧ (X[i]).v = .int .i64 L[i].2.2 := by
  have e : (X.map tri)[i]? = (L.map triW)[i]? := by rw [h.m]
  rw [List.getElem?_map, List.getElem?_map, List.getElem?_eq_getElem hx, List.getElem?_eq_getElem hi] at e
  simp only [Option.map_some, tri, triW, Option.some.injEq, Prod.mk.injEq] at e
  exact ⟨e.1, e.2.1, e.2.2⟩
theorem HS.mem (h : HS n f X L) {i : Nat} (hi : i < X.length) : ∃ k, k < n ∧ f k = X[i] := mem_items.1 (h.p.mem_iff.1 (List.getElem_mem hi))
theorem HS.first (h : HS n f X L) (h0 : 0 < n) (hx : 0 < X.length) : f 0 = X[0] := by
  have hm : f 0 ∈ X := h.p.mem_iff.2 (mem_items.2 ⟨0, h0, rfl⟩)
  obtain ⟨i, hi, e⟩ := List.getElem_of_mem hm
  rcases Nat.eq_zero_or_pos i with h1 | h1
  · subst h1; exact e.symm
  · exfalso
    have h2 := (List.pairwise_iff_getElem.1 h.s) 0 i hx hi h1
    obtain ⟨k, hk, ek⟩ := h.mem hx
    have := root_min h.h k hk
    rw [ek, ← e] at this
    exact this h2
theorem HS.list (h : HS n f X L) (inj : ∀ i j, i < n → j < n → (f i).id = (f j).id → i = j) {l' : List It} (hp : l'.Perm (items n f)) (hs : l'.Pairwise (fun x y => ¬ lt y x)) : l' = X := by
  refine List.Perm.eq_of_pairwise (le := fun x y => ¬ lt y x) (fun a b ha hb h1 h2 => ?_) hs (h.s.imp fun hab => lt_asymm hab) (hp.trans h.p.symm)
  obtain ⟨i, hi, rfl⟩ := mem_items.1 (hp.mem_iff.1 ha)
  obtain ⟨j, hj, rfl⟩ := mem_items.1 (h.p.mem_iff.1 hb)
  have : (f i).id = (f j).id := by unfold lt at h1 h2; omega
  rw [inj i j hi hj this]
theorem HS.vals (h : HS n f X L) : X.map It.v = flat (fun v : Int => [Value.int .i64 v]) (L.map (·.2.2)) := by
  have e : X.map It.v = (X.map tri).map (·.2.2) := by rw [List.map_map]; rfl
  rw [e, h.m, List.map_map]
  unfold flat
  rw [List.flatMap_map, List.map_eq_flatMap]
  rfl
/-- Where one that comes at a time stands. -/
theorem place (L : List Wt) (t : Int) : ∃ k, k ≤ L.length ∧ (∀ i (hi : i < L.length), i < k → L[i].1 ≤ t) ∧ ∀ hi : k < L.length, t < L[k].1 := by
  induction L with
  | nil => exact ⟨0, Nat.le_refl _, fun i hi h => by omega, fun hi => by simp at hi⟩
  | cons s L ih =>
    by_cases h : s.1 ≤ t
    · obtain ⟨k, h1, h2, h3⟩ := ih
      refine ⟨k + 1, by simp; omega, fun i hi hik => ?_, fun hi => ?_⟩
      · cases i with
        | zero => exact h
        | succ i => simp only [List.getElem_cons_succ]; exact h2 i (by simpa using hi) (by omega)
      · simp only [List.getElem_cons_succ]; exact h3 (by simpa using hi)
    · exact ⟨0, Nat.zero_le _, fun i hi h => by omega, fun hi => by simp only [List.getElem_cons_zero]; omega⟩
theorem HS.put (h : HS n f X L) {k b : Nat} {t v : Int} (hid : ∀ i, i < n → (f i).id ≤ last) (hk : k ≤ L.length) (h1 : ∀ i (hi : i < L.length), i < k → L[i].1 ≤ t) (h2 : ∀ hi : k < L.length, t < L[k].1)
    (hh : Heap (n + 1) f') (hp : (items (n + 1) f').Perm (⟨b, t, last + 1, .int .i64 v⟩ :: items n f)) :
    HS (n + 1) f' (X.take k ++ [⟨b, t, last + 1, .int .i64 v⟩] ++ X.drop k) (L.take k ++ [(t, last + 1, v)] ++ L.drop k) where
  p := by
    refine List.Perm.trans ?_ hp.symm
    have e : (X.take k ++ [(⟨b, t, last + 1, .int .i64 v⟩ : It)] ++ X.drop k).Perm ((⟨b, t, last + 1, .int .i64 v⟩ : It) :: (X.take k ++ X.drop k)) := by
      rw [List.append_assoc]
      exact List.perm_middle
    rw [List.take_append_drop] at e
    exact e.trans (List.Perm.cons _ h.p)
  m := by
    rw [List.map_append, List.map_append, List.map_append, List.map_append, List.map_take, List.map_drop, h.m, List.map_take, List.map_drop]
    rfl
  s := by
    have xl := h.xl
    have sv : ∀ i (hi : i < X.length), (X[i]).id ≤ last := fun i hi => by
      obtain ⟨j, hj, e⟩ := h.mem hi
      rw [← e]; exact hid j hj
    rw [List.append_assoc, List.pairwise_append]
    refine ⟨h.s.sublist (List.take_sublist _ _), ?_, fun a ha c hc => ?_⟩
    · rw [List.singleton_append, List.pairwise_cons]
      refine ⟨fun c hc => ?_, h.s.sublist (List.drop_sublist _ _)⟩
      obtain ⟨j, hj, rfl⟩ := List.getElem_of_mem hc
      rw [List.length_drop] at hj
      rw [List.getElem_drop]
      have hkl : k < L.length := by omega
      have h3 := h2 hkl
      have e1 := (h.at hkl (by omega)).1
      left
      show t < (X[k + j]).t
      rcases Nat.eq_zero_or_pos j with h0 | h0
      · subst h0; simp only [Nat.add_zero]; omega
      · have := (List.pairwise_iff_getElem.1 h.s) k (k + j) (by omega) (by omega) (by omega)
        unfold lt at this; omega
    · obtain ⟨i, hi, rfl⟩ := List.getElem_of_mem ha
      rw [List.length_take] at hi
      rw [List.getElem_take]
      rw [List.singleton_append] at hc
      rcases List.mem_cons.1 hc with rfl | hc
      · have e1 := (h.at (i := i) (by omega) (by omega)).1
        have h3 := h1 i (by omega) (by omega)
        have h4 := sv i (by omega)
        unfold lt
        show (X[i]).t < t ∨ ((X[i]).t = t ∧ (X[i]).id < last + 1)
        omega
      · obtain ⟨j, hj, rfl⟩ := List.getElem_of_mem hc
        rw [List.length_drop] at hj
        rw [List.getElem_drop]
        exact (List.pairwise_iff_getElem.1 h.s) i (k + j) (by omega) (by omega) (by omega)
  h := hh
theorem HS.out (h : HS n f X L) {k : Nat} (hk : k < X.length) {n' : Nat} (hh : Heap n' f') (hp : (X[k] :: items n' f').Perm (items n f)) : HS n' f' (X.take k ++ X.drop (k + 1)) (L.take k ++ L.drop (k + 1)) where
  p := by
    have e : X.Perm (X[k] :: (X.take k ++ X.drop (k + 1))) := by
      have e0 : X = X.take k ++ X[k] :: X.drop (k + 1) := by rw [List.getElem_cons_drop, List.take_append_drop]
      exact (List.Perm.of_eq e0).trans List.perm_middle
    exact (List.Perm.cons_inv ((hp.trans h.p.symm).trans e)).symm
  m := by rw [List.map_append, List.map_append, List.map_take, List.map_drop, h.m, List.map_take, List.map_drop]
  s := by
    have e0 : (X.take k ++ X.drop (k + 1)).Sublist X := by
      have e : X = X.take k ++ X.drop k := (List.take_append_drop k X).symm
      conv => rhs; rw [e]
      exact List.Sublist.append (List.Sublist.refl _) (List.drop_sublist_drop_left X (Nat.le_succ k))
    exact h.s.sublist e0
  h := hh
theorem Mem.refit {e : TypeId} {F F' : Nat → Prop} {w : World} {c : Nat} {sl : Value} {mo : Option Nat} (hm : Mem e F w c sl mo last n f) (h : ∀ g, g < siz w → F g → F' g) : Mem e F' w c sl mo last n f where
  Fh := h _ (cel_lt hm.l) hm.Fh
  Fm := fun m e => by
    rcases hm.kv with ⟨h0, _⟩ | ⟨m', l, h0, hl, _⟩
    · rw [h0] at e; cases e
    · rw [h0] at e; injection e with e; subst e
      exact h _ (mp_lt hl) (hm.Fm _ h0)
  Fi := fun k hk => h _ (fre_lt (hm.it k hk).fre) (hm.Fi k hk)
  Fs := fun g hg => h _ (hm.own.lt hg).2 (hm.Fs g hg)
  l := hm.l
  m := hm.m
  z := hm.z
  fh := hm.fh
  own := hm.own
  it := hm.it
  kv := hm.kv
  nb := hm.nb
  hb := hm.hb
  sb := hm.sb
  ids := hm.ids
  inj := hm.inj
  big := hm.big
end
/-! ### in memory -/
abbrev tB4 : TypeId := 51
abbrev tO4 : TypeId := 53
abbrev tI4 : TypeId := 155
/-- The blocks that the heap may turn. -/
def HF (B r b : Nat) (E : Nat → Prop) (sl : Value) (bf : Nat → Value) (ps qs : List (Value × List Int)) (g : Nat) : Prop :=
  B ≤ g ∧ g ≠ r ∧ sl.ownBlock ≠ some g ∧ g ≠ b ∧ ¬ kft (bf 2) (bf 3) ps qs g ∧ ¬ E g
section
variable {w0 w w' : World} {Q : Value → World → Prop} {B c r b last lr n : Nat} {E E' : Nat → Prop} {sh sl sl' : Value} {mo : Option Nat} {f : Nat → It} {L L' : List Wt} {x v : Int} {bf : Nat → Value} {ps qs : List (Value × List Int)} {eo : Array Value}
/-- The heap, the document's own one, the book of lists. -/
structure PS (w0 : World) (B : Nat) (w : World) (c r b : Nat) (E : Nat → Prop) (sh : Value) (mo : Option Nat) (last n : Nat) (f : Nat → It) (sl : Value) (L : List Wt) (lr : Nat) (bf : Nat → Value) (ps qs : List (Value × List Int)) : Prop where
  hm : Mem tI4 (HF B r b E sl bf ps qs) w c sh mo last n f
  rh : RH w B r sl L lr
  bk : BkC tB4 w b bf
  ks : BkInts.KsX w B bf ps qs
  nf : ∀ o, o < 30 → o ∉ [2, 3] → bf o = .slice none 0 0
  kp : Keep (fun g => B ≤ g) w0 w
  Bw : B ≤ siz w
  Br : B ≤ r
  Bb : B ≤ b
  eE : ∀ g, E g → g < siz w ∧ ∃ cs, Sh.blk w g = some (.cells cs tO4)
theorem kft_ty {w : World} (h : BkInts.KsX w B bf ps qs) {g : Nat} (hg : kft (bf 2) (bf 3) ps qs g) : ∃ cs t, Sh.blk w g = some (.cells cs t) ∧ (t = 64 ∨ t = 3) := by
  rcases hg with (hg | ⟨p, hp, hg⟩) | (hg | ⟨p, hp, hg⟩)
  · obtain ⟨_, cs, h⟩ := h.p.row.ty hg; exact ⟨cs, _, h, .inl rfl⟩
  · obtain ⟨_, cs, h⟩ := (h.p.each p hp).ty hg; exact ⟨cs, _, h, .inr rfl⟩
  · obtain ⟨_, cs, h⟩ := h.q.row.ty hg; exact ⟨cs, _, h, .inl rfl⟩
  · obtain ⟨_, cs, h⟩ := (h.q.each p hp).ty hg; exact ⟨cs, _, h, .inr rfl⟩
theorem ty_ne {w : World} {a b : Nat} {x y : Array Value} {t t' : TypeId} (ha : Sh.blk w a = some (.cells x t)) (hb : Sh.blk w b = some (.cells y t')) (ht : t ≠ t') : a ≠ b := fun e => by
  subst e; rw [ha] at hb; injection hb with hb; injection hb with _ hb; exact ht hb
theorem PS.hF (h : PS w0 B w c r b E sh mo last n f sl L lr bf ps qs) : ∀ g, siz w ≤ g → HF B r b E sl bf ps qs g := fun g hg =>
  ⟨Nat.le_trans h.Bw hg, fun e => by have := h.rh.lt; omega, fun e => by have := (h.rh.o.lt e).2; omega, fun e => by have := h.bk.lt; omega, fun e => by have := (h.ks.lt e).2; omega, fun e => by have := (h.eE g e).1; omega⟩
theorem PS.kr (h : PS w0 B w c r b E sh mo last n f sl L lr bf ps qs) {g : Nat} (hg : kft (bf 2) (bf 3) ps qs g) : g ≠ r := by
  obtain ⟨cs, t, hb, ht⟩ := kft_ty h.ks hg
  refine ty_ne hb h.rh.c ?_
  rcases ht with rfl | rfl <;> decide
theorem PS.kb (h : PS w0 B w c r b E sh mo last n f sl L lr bf ps qs) {g : Nat} (hg : kft (bf 2) (bf 3) ps qs g) : g ≠ b := by
  obtain ⟨cs, t, hb, ht⟩ := kft_ty h.ks hg
  refine ty_ne hb h.bk ?_
  rcases ht with rfl | rfl <;> decide
theorem PS.rb (h : PS w0 B w c r b E sh mo last n f sl L lr bf ps qs) : r ≠ b := ty_ne h.rh.c h.bk (by decide)
theorem PS.slk (h : PS w0 B w c r b E sh mo last n f sl L lr bf ps qs) {g : Nat} (hg : kft (bf 2) (bf 3) ps qs g) : sl.ownBlock ≠ some g := fun e => by
  obtain ⟨cs, t, hb, ht⟩ := kft_ty h.ks hg
  obtain ⟨_, cs', hb'⟩ := (h.rh.o.trd (Nat.le_refl _)).2 g e
  refine ty_ne hb hb' ?_ rfl
  rcases ht with rfl | rfl <;> decide
theorem PS.slb (h : PS w0 B w c r b E sh mo last n f sl L lr bf ps qs) : sl.ownBlock ≠ some b := fun e => by
  obtain ⟨_, cs', hb'⟩ := (h.rh.o.trd (Nat.le_refl _)).2 b e
  exact ty_ne hb' h.bk (by decide) rfl
theorem PS.k0 (h : PS w0 B w c r b E sh mo last n f sl L lr bf ps qs) (k : K0 w w') : PS w0 B w' c r b E sh mo last n f sl L lr bf ps qs :=
  { h with hm := h.hm.still k, rh := h.rh.keep0 k, bk := h.bk.keep k id, ks := h.ks.keep0 k, kp := h.kp.trans k.none, Bw := Nat.le_trans h.Bw k.size
           eE := fun g hg => ⟨Nat.lt_of_lt_of_le (h.eE g hg).1 k.size, let ⟨cs, hc⟩ := (h.eE g hg).2; ⟨cs, k.blk hc id⟩⟩ }
/-- The heap has turned. -/
theorem PS.heap {sh' : Value} {mo' : Option Nat} {last' n' : Nat} {f' : Nat → It} (h : PS w0 B w c r b E sh mo last n f sl L lr bf ps qs) (hm : Mem tI4 (HF B r b E sl bf ps qs) w' c sh' mo' last' n' f') (k : Keep (HF B r b E sl bf ps qs) w w') :
    PS w0 B w' c r b E sh' mo' last' n' f' sl L lr bf ps qs where
  hm := hm
  rh := h.rh.keep k (fun e => e.2.1 rfl) fun g hg e => e.2.2.1 hg
  bk := h.bk.keep k fun e => e.2.2.2.1 rfl
  ks := h.ks.keep k fun g hg e => e.2.2.2.2.1 hg
  nf := h.nf
  kp := h.kp.trans' k fun g _ hg => hg.1
  Bw := Nat.le_trans h.Bw k.size
  Br := h.Br
  Bb := h.Bb
  eE := fun g hg => ⟨Nat.lt_of_lt_of_le (h.eE g hg).1 k.size, let ⟨cs, hc⟩ := (h.eE g hg).2; ⟨cs, k.blk hc fun e => e.2.2.2.2.2 hg⟩⟩
/-- The document's heap has turned. -/
theorem PS.ref {lr' : Nat} (h : PS w0 B w c r b E sh mo last n f sl L lr bf ps qs) (hr : RH w' B r sl' L' lr') (hf : ∀ g, sl'.ownBlock = some g → siz w ≤ g) (k : Keep (fun g => g = r) w w') : PS w0 B w' c r b E sh mo last n f sl' L' lr' bf ps qs where
  hm := by
    have hm1 : Mem tI4 (HF B r b E sl' bf ps qs) w c sh mo last n f := Mem.refit h.hm fun g hg e => ⟨e.1, e.2.1, fun e' => by have := hf g e'; omega, e.2.2.2⟩
    exact hm1.keep k fun g e _ => e.2.1
  rh := hr
  bk := h.bk.keep k fun e => h.rb e.symm
  ks := h.ks.keep k fun g hg e => h.kr hg e
  nf := h.nf
  kp := h.kp.trans' k fun g _ hg => by have hg : g = r := hg; rw [hg]; exact h.Br
  Bw := Nat.le_trans h.Bw k.size
  Br := h.Br
  Bb := h.Bb
  eE := fun g hg => ⟨Nat.lt_of_lt_of_le (h.eE g hg).1 k.size, let ⟨cs, hc⟩ := (h.eE g hg).2; ⟨cs, k.blk hc (ty_ne hc h.rh.c (by decide))⟩⟩
/-- What is taken along beside. -/
theorem PS.other (h : PS w0 B w c r b E sh mo last n f sl L lr bf ps qs) (hE : ∀ g, E' g → (g < siz w ∧ ∃ cs, Sh.blk w g = some (.cells cs tO4)) ∧ ¬ (∃ m l, mo = some m ∧ g = m ∧ mp w m = some l) ∧ g ≠ c ∧ (∀ k, k < n → (f k).b ≠ g) ∧ sh.ownBlock ≠ some g) : PS w0 B w c r b E' sh mo last n f sl L lr bf ps qs :=
  { h with
    eE := fun g hg => (hE g hg).1
    hm := { h.hm with
      Fh := ⟨h.hm.Fh.1, h.hm.Fh.2.1, h.hm.Fh.2.2.1, h.hm.Fh.2.2.2.1, h.hm.Fh.2.2.2.2.1, fun e => (hE _ e).2.2.1 rfl⟩
      Fm := fun m e => by
        have := h.hm.Fm m e
        refine ⟨this.1, this.2.1, this.2.2.1, this.2.2.2.1, this.2.2.2.2.1, fun e' => (hE _ e').2.1 ?_⟩
        rcases h.hm.kv with ⟨h0, _⟩ | ⟨m', l, h0, hl, _⟩
        · rw [h0] at e; cases e
        · have e2 := e
          rw [h0] at e2; injection e2 with e2; subst e2
          exact ⟨_, l, e, rfl, hl⟩
      Fi := fun k hk => by
        have := h.hm.Fi k hk
        exact ⟨this.1, this.2.1, this.2.2.1, this.2.2.2.1, this.2.2.2.2.1, fun e' => (hE _ e').2.2.2.1 k hk rfl⟩
      Fs := fun g hg => by
        have := h.hm.Fs g hg
        exact ⟨this.1, this.2.1, this.2.2.1, this.2.2.2.1, this.2.2.2.2.1, fun e' => (hE _ e').2.2.2.2 hg⟩ } }
/-- A block of its own comes. -/
theorem PS.op (h : PS w0 B w c r b E sh mo last n f sl L lr bf ps qs) (cs : Array Value) : PS w0 B (w.alloc (.cells cs tO4)) c r b (fun g => g = siz w) sh mo last n f sl L lr bf ps qs :=
  (h.k0 ((K0.refl w).alloc _)).other fun g hg => by
    have hg : g = siz w := hg
    subst hg
    have k := (K0.refl w).alloc (.cells cs tO4)
    refine ⟨⟨by rw [siz_alloc]; omega, cs, blk_alloc_new⟩, ?_, ?_, ?_, ?_⟩
    · rintro ⟨m, l, _, e, hl⟩
      rw [← e, mp, blk_alloc_new] at hl
      cases hl
    · intro e; have := cel_lt h.hm.l; omega
    · intro k hk e; have := fre_lt (h.hm.it k hk).fre; omega
    · intro e; have := (h.hm.own.lt e).2; omega
theorem PS.add {l : Value} {bf' : Nat → Value} {ps' qs' : List (Value × List Int)} (h : PS w0 B w c r b E sh mo last n f sl L lr bf ps qs) (hb : BkC tB4 w' b bf') (hne : ∀ o, o ≠ 2 → o ≠ 3 → bf' o = bf o) (hk : BkInts.KsX w' B bf' ps' qs')
    (hs : ∀ g, kft (bf' 2) (bf' 3) ps' qs' g → kft (bf 2) (bf 3) ps qs g ∨ l.ownBlock = some g ∨ siz w ≤ g) (hlF : ∀ g, g < siz w → HF B r b E sl bf ps qs g → l.ownBlock = some g → g ≠ c ∧ sh.ownBlock ≠ some g ∧ (∀ k, k < n → (f k).b ≠ g) ∧ mo ≠ some g) (k : Keep (fun g => g = b ∨ (bf 2).ownBlock = some g ∨ (bf 3).ownBlock = some g) w w') :
    PS w0 B w' c r b E sh mo last n f sl L lr bf' ps' qs' := by
  have nh : ∀ {g}, HF B r b E sl bf ps qs g → ¬ (g = b ∨ (bf 2).ownBlock = some g ∨ (bf 3).ownBlock = some g) := fun {g} hg e => by
    rcases e with e | e | e
    · exact hg.2.2.2.1 e
    · exact hg.2.2.2.2.1 (.inl (.inl e))
    · exact hg.2.2.2.2.1 (.inr (.inl e))
  have hm1 := h.hm.keep k fun g e _ => nh e
  have tr : ∀ g, g < siz w → HF B r b E sl bf ps qs g → l.ownBlock ≠ some g → HF B r b E sl bf' ps' qs' g := fun g hg e hl => ⟨e.1, e.2.1, e.2.2.1, e.2.2.2.1, fun e' => by
    rcases hs g e' with h1 | h1 | h1
    · exact e.2.2.2.2.1 h1
    · exact hl h1
    · omega, e.2.2.2.2.2⟩
  refine { hm := { hm1 with Fh := ?_, Fm := ?_, Fi := ?_, Fs := ?_ }, rh := ?_, bk := hb, ks := hk, nf := ?_, kp := ?_, Bw := Nat.le_trans h.Bw k.size, Br := h.Br, Bb := h.Bb, eE := ?_ }
  · exact tr _ (cel_lt h.hm.l) h.hm.Fh fun e => (hlF _ (cel_lt h.hm.l) h.hm.Fh e).1 rfl
  · intro m e
    have hlt : m < siz w := by
      rcases h.hm.kv with ⟨h0, _⟩ | ⟨m', l, h0, hl, _⟩
      · rw [h0] at e; cases e
      · rw [h0] at e; injection e with e; subst e; exact mp_lt hl
    exact tr _ hlt (h.hm.Fm m e) fun e' => (hlF _ hlt (h.hm.Fm m e) e').2.2.2 e
  · intro k hk
    have hlt := fre_lt (h.hm.it k hk).fre
    exact tr _ hlt (h.hm.Fi k hk) fun e' => (hlF _ hlt (h.hm.Fi k hk) e').2.2.1 k hk rfl
  · intro g hg
    have hlt := (h.hm.own.lt hg).2
    exact tr _ hlt (h.hm.Fs g hg) fun e' => (hlF _ hlt (h.hm.Fs g hg) e').2.1 hg
  · exact h.rh.keep k (fun e => by
      rcases e with e | e | e
      · exact h.rb e
      · exact h.kr (.inl (.inl e)) rfl
      · exact h.kr (.inr (.inl e)) rfl) fun g hg e => by
      rcases e with e | e | e
      · exact h.slb (by rw [← e]; exact hg)
      · exact h.slk (.inl (.inl e)) hg
      · exact h.slk (.inr (.inl e)) hg
  · intro o h1 h2
    rw [hne o (fun e => h2 (by rw [e]; decide)) (fun e => h2 (by rw [e]; decide))]; exact h.nf o h1 h2
  · exact h.kp.trans' k fun g _ hg => by
      rcases hg with e | e | e
      · rw [e]; exact h.Bb
      · exact (h.ks.lt (.inl (.inl e))).1
      · exact (h.ks.lt (.inr (.inl e))).1
  · intro g hg
    obtain ⟨h1, cs, hc⟩ := h.eE g hg
    refine ⟨Nat.lt_of_lt_of_le h1 k.size, cs, k.blk hc fun e => ?_⟩
    rcases e with e | e | e
    · exact ty_ne hc h.bk (by decide) e
    · obtain ⟨_, cs', hc'⟩ := h.ks.p.row.ty e
      exact ty_ne hc hc' (by decide) rfl
    · obtain ⟨_, cs', hc'⟩ := h.ks.q.row.ty e
      exact ty_ne hc hc' (by decide) rfl
/-- Finding, with both ends in one. -/
theorem hfind_c (h : RH w B r sl L lr) (hS : L.length ≤ 90000) (hq : ∀ a : Int, ((∃ A s C, L = A ++ s :: C ∧ (s.2.1 : Int) = x ∧ (∀ t ∈ A, (t.2.1 : Int) ≠ x) ∧ a = (A.length : Int)) ∨ ((∀ s ∈ L, (s.2.1 : Int) ≠ x) ∧ a = -1)) → Q (.int .i64 a) w) :
    callS Tryz.prog 14 #[.pointer (some ⟨r, 0, none⟩), .int .i64 x] Q w :=
  hfind_aux h (by omega) (fun A s C e h1 h2 => hq _ (.inl ⟨A, s, C, e, h1, h2, rfl⟩)) fun hn => hq _ (.inr ⟨hn, rfl⟩)
end
end Go.Proofs.YtndjohbbaplekaaGreatH
