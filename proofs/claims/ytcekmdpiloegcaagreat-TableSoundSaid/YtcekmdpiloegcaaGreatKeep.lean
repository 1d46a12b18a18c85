/- Frames by the kind of a block, and loops that count: whatever the program. Conditions: as each says. -/
import Derived.Test.YtcekmdpiloegcaaGreatShU
import Derived.Test.YtcekmdpiloegcaaGreatShL
set_option linter.unusedSimpArgs false
set_option linter.unusedVariables false
namespace Go.Sh
/-- Blocks at or behind B whose object is of the kind p. -/
def Kd (B : Nat) (p : Obj → Bool) (w : World) (b : Nat) : Prop := B ≤ b ∧ ∃ o, blk w b = some o ∧ p o = true
/-- Nothing has turned but blocks of that kind, and new ones. -/
abbrev KO (B : Nat) (p : Obj → Bool) (w w' : World) : Prop := Keep (Kd B p w) w w'
abbrev K0 (w w' : World) : Prop := Keep (fun _ => False) w w'
/-- Cells of one of these types. -/
def tys (l : List TypeId) : Obj → Bool
  | .cells _ t _ => l.contains t
  | _ => false
def tysM (l : List TypeId) : Obj → Bool
  | .cells _ t _ => l.contains t
  | .map _ _ => true
  | _ => false
section
variable {B : Nat} {p : Obj → Bool} {w w' w'' : World}
theorem K0.refl (w : World) : K0 w w := Keep.refl _ w
theorem Keep.old {F : Nat → Prop} (h : Keep F w w') (hF : ∀ b, b < siz w → ¬ F b) : K0 w w' := h.mono fun b hb hf => hF b hb hf
/-- What has turned was new: nothing has turned. -/
theorem Keep.old' (h : Keep (fun b => siz w ≤ b) w w') : K0 w w' := h.mono fun b hb hf => absurd hf (by omega)
theorem Keep.new (h : K0 w w') : Keep (fun b => siz w ≤ b) w w' := h.mono fun _ _ e => e.elim
theorem KO.refl (B : Nat) (p : Obj → Bool) (w : World) : KO B p w w := Keep.refl _ w
theorem KO.trans (h : KO B p w w') (h' : KO B p w' w'') : KO B p w w'' :=
  h.trans' h' fun b hb hk => Classical.byContradiction fun hn => hn ⟨hk.1, by
    obtain ⟨o, ho, hp⟩ := hk.2
    exact ⟨o, by rw [← h.block b hb hn]; exact ho, hp⟩⟩
theorem KO.of0 (h : K0 w w') : KO B p w w' := h.none
theorem KO.ofB {F : Nat → Prop} (h : Keep F w w') (hF : ∀ b, F b → Kd B p w b) : KO B p w w' := h.mono fun b _ hf => hF b hf
theorem KO.blk {b : Nat} {o : Obj} (h : KO B p w w') (hb : blk w b = some o) (hp : p o = false) : Sh.blk w' b = some o := by
  rw [h.block b (blk_lt hb) fun hk => by
    obtain ⟨o', ho', hp'⟩ := hk.2
    rw [hb] at ho'; injection ho' with ho'; subst ho'; rw [hp] at hp'; cases hp']
  exact hb
theorem KO.cel {b o : Nat} {v : Value} {cs : Array Value} {t : TypeId} (h : KO B p w w') (hb : Sh.blk w b = some (.cells cs t)) (hp : p (.cells cs t) = false) (hc : cel w b o = some v) : Sh.cel w' b o = some v := by
  have := h.blk hb hp
  unfold Sh.cel at *
  rw [this]; rw [hb] at hc; exact hc
theorem KO.own {base : Nat} {e : TypeId} {z n : Nat} {v : Value} {xs : List Value} (h : KO B p w w') (ho : Own w base e z v n xs) (hp : ∀ cs, p (.cells cs e) = false) : Own w' base e z v n xs := by
  refine ho.keep h fun g hg hk => ?_
  obtain ⟨o', ho', hp'⟩ := hk.2
  rcases ho.2 with ⟨rfl, _⟩ | ⟨g', cap, cur, rfl, _, hb, _⟩
  · cases hg
  · injection hg with hg
    subst hg
    rw [show Sh.blk w g' = w.heap[g']? from rfl, hb] at ho'
    injection ho' with ho'
    subst ho'
    rw [hp] at hp'; cases hp'
theorem KO.rd {z n : Nat} {v : Value} {xs : List Value} (h : KO B p w w') (hr : Rd z w v n xs) (hB : ∀ g, v.ownBlock = some g → g < B) : Rd z w' v n xs :=
  hr.keep h fun g hg _ hk => by have := hB g hg; have := hk.1; omega
theorem KO.le {A : Nat} (h : KO B p w w') (hA : A ≤ B) : KO A p w w' := h.mono fun _ _ hk => ⟨Nat.le_trans hA hk.1, hk.2⟩
theorem KO.below {A : Nat} (h : KO B p w w') (hA : A ≤ B) : Keep (fun b => A ≤ b) w w' := h.mono fun _ _ hk => Nat.le_trans hA hk.1
end
/-! ### a block's cells at once -/
theorem cel_b {w : World} {b : Nat} {cs : Array Value} {t : TypeId} {fz : Nat × Nat} (h : blk w b = some (.cells cs t fz)) (o : Nat) : cel w b o = cs[o]? := by rw [Sh.cel, h]; rfl
theorem fre_b {w : World} {b : Nat} {cs : Array Value} {t : TypeId} (h : blk w b = some (.cells cs t)) : fre w b = true := by rw [Sh.fre, h]; rfl
theorem blk_sto {w : World} {b o : Nat} {v : Value} {cs : Array Value} {t : TypeId} (h : blk w b = some (.cells cs t)) : blk (sto w b o v) b = some (.cells (cs.setIfInBounds o v) t) := by
  have h' : w.heap[b]? = some (.cells cs t) := h
  simp only [sto, World.setCell, Sh.blk, Array.getElem?_modify, h', if_true]; rfl
theorem blk_drew' {w : World} {b : Nat} {o : Obj} (h : blk w b = some o) : blk w.drew b = some o := h
theorem Keep.blk {F : Nat → Prop} {w w' : World} (k : Keep F w w') {b : Nat} {o : Obj} (h : Sh.blk w b = some o) (hn : ¬ F b) : Sh.blk w' b = some o := by rw [k.block b (blk_lt h) hn]; exact h
theorem blk_stoL_from {b : Nat} {t : TypeId} : ∀ (xs pre zs : List Value) {w : World}, zs.length = xs.length → Sh.blk w b = some (.cells (pre ++ zs).toArray t) → Sh.blk (stoL w b pre.length xs) b = some (.cells (pre ++ xs).toArray t)
  | [], pre, zs, w, h, hb => by rw [List.length_nil] at h; rw [List.length_eq_zero_iff.1 h] at hb; exact hb
  | x :: xs, pre, z :: zs, w, h, hb => by
    rw [stoL_cons]
    have h1 := blk_sto (o := pre.length) (v := x) hb
    have e : (pre ++ z :: zs).toArray.setIfInBounds pre.length x = ((pre ++ [x]) ++ zs).toArray := by simp
    rw [e] at h1
    have := blk_stoL_from xs (pre ++ [x]) zs (by simpa using h) h1
    rw [List.length_append, List.length_singleton] at this
    rw [this]; simp
  | x :: xs, pre, [], w, h, hb => by simp at h
/-- All cells of a block are written. -/
theorem blk_stoL_all {w : World} {b : Nat} {t : TypeId} {zs xs : List Value} (h : zs.length = xs.length) (hb : Sh.blk w b = some (.cells zs.toArray t)) : Sh.blk (stoL w b 0 xs) b = some (.cells xs.toArray t) := blk_stoL_from xs [] zs h hb
/-- A row that reads so, in blocks of its own kind, at or behind B. -/
def TRd (w : World) (B : Nat) (e : TypeId) (z : Nat) (v : Value) (n : Nat) (xs : List Value) : Prop := Rd z w v n xs ∧ ∀ g, v.ownBlock = some g → B ≤ g ∧ ∃ cs, blk w g = some (.cells cs e)
section
variable {B : Nat} {p : Obj → Bool} {w w' : World} {e : TypeId} {z n : Nat} {v : Value} {xs : List Value}
theorem TRd.nil (w : World) (B : Nat) (e : TypeId) (z : Nat) : TRd w B e z (.slice none 0 0) 0 [] := ⟨Rd.nil _ _, fun g hg => by cases hg⟩
theorem Own.trd {B' : Nat} (h : Own w B e z v n xs) (hB : B' ≤ B) : TRd w B' e z v n xs := ⟨h.rd, fun g hg => by
  rcases h.2 with ⟨rfl, _⟩ | ⟨g', cap, cur, rfl, hb, hh, _⟩
  · cases hg
  · injection hg with hg
    subst hg
    exact ⟨Nat.le_trans hB hb, cur, hh⟩⟩
theorem TRd.keep {F : Nat → Prop} (h : TRd w B e z v n xs) (k : Keep F w w') (hF : ∀ g cs, blk w g = some (.cells cs e) → ¬ F g) : TRd w' B e z v n xs :=
  ⟨h.1.keep k fun g hg _ => by obtain ⟨_, cs, hc⟩ := h.2 g hg; exact hF g cs hc, fun g hg => by
    obtain ⟨h1, cs, hc⟩ := h.2 g hg
    exact ⟨h1, cs, k.blk hc (hF g cs hc)⟩⟩
theorem TRd.keep0 (h : TRd w B e z v n xs) (k : K0 w w') : TRd w' B e z v n xs := h.keep k fun _ _ _ => id
theorem TRd.ko {A : Nat} (h : TRd w B e z v n xs) (k : KO A p w w') (hp : ∀ cs, p (.cells cs e) = false) : TRd w' B e z v n xs :=
  h.keep k fun g cs hg hk => by
    obtain ⟨o, ho, hpo⟩ := hk.2
    rw [hg] at ho; injection ho with ho; subst ho; rw [hp] at hpo; cases hpo
end
/-! ### loops that count up from nothing -/
theorem lpc1 {body : Cur 1 → Cur 1} {w : World} (n : Nat) (hn : n ≤ 1000000000000) (I : Nat → World → Prop) (h0 : I 0 w)
    (hs : ∀ i w, i < n → I i w → ∀ J : Cur 1, (∀ w', I (i + 1) w' → J (.int .i64 (IntKind.i64.wrap ((i : Int) + 1))) w') → body J (.int .i64 (i : Int)) w)
    (he : ∀ w, I n w → ∀ J : Cur 1, body J (.int .i64 (n : Int)) w) : lp 1 body [.int .i64 0] w := by
  refine lp1 (fun m x w' => ∃ i : Nat, x = .int .i64 (i : Int) ∧ i ≤ n ∧ m = n - i ∧ I i w') n ⟨0, rfl, by omega, by omega, h0⟩ ?_
  rintro m x w' ⟨i, rfl, hi, rfl, hI⟩ J hJ
  by_cases h : i < n
  · exact hs i w' h hI J fun w'' hI' => hJ (n - (i + 1)) _ _ (by omega) ⟨i + 1, by rw [wrap_succ (by omega)], by omega, rfl, hI'⟩
  · have : i = n := by omega
    subst this
    exact he w' hI J
/-- The number stands second. -/
theorem lpc2 {body : Cur 2 → Cur 2} {x0 : Value} {w : World} (n : Nat) (hn : n ≤ 1000000000000) (I : Nat → Value → World → Prop) (h0 : I 0 x0 w)
    (hs : ∀ i x w, i < n → I i x w → ∀ J : Cur 2, (∀ x' w', I (i + 1) x' w' → J x' (.int .i64 (IntKind.i64.wrap ((i : Int) + 1))) w') → body J x (.int .i64 (i : Int)) w)
    (he : ∀ x w, I n x w → ∀ J : Cur 2, body J x (.int .i64 (n : Int)) w) : lp 2 body [x0, .int .i64 0] w := by
  refine lp2 (fun m x y w' => ∃ i : Nat, y = .int .i64 (i : Int) ∧ i ≤ n ∧ m = n - i ∧ I i x w') n ⟨0, rfl, by omega, by omega, h0⟩ ?_
  rintro m x y w' ⟨i, rfl, hi, rfl, hI⟩ J hJ
  by_cases h : i < n
  · exact hs i x w' h hI J fun x' w'' hI' => hJ (n - (i + 1)) _ _ _ (by omega) ⟨i + 1, by rw [wrap_succ (by omega)], by omega, rfl, hI'⟩
  · have : i = n := by omega
    subst this
    exact he x w' hI J
/-- The number stands first. -/
theorem lpc2' {body : Cur 2 → Cur 2} {x0 : Value} {w : World} (n : Nat) (hn : n ≤ 1000000000000) (I : Nat → Value → World → Prop) (h0 : I 0 x0 w)
    (hs : ∀ i x w, i < n → I i x w → ∀ J : Cur 2, (∀ x' w', I (i + 1) x' w' → J (.int .i64 (IntKind.i64.wrap ((i : Int) + 1))) x' w') → body J (.int .i64 (i : Int)) x w)
    (he : ∀ x w, I n x w → ∀ J : Cur 2, body J (.int .i64 (n : Int)) x w) : lp 2 body [.int .i64 0, x0] w := by
  refine lp2 (fun m y x w' => ∃ i : Nat, y = .int .i64 (i : Int) ∧ i ≤ n ∧ m = n - i ∧ I i x w') n ⟨0, rfl, by omega, by omega, h0⟩ ?_
  rintro m y x w' ⟨i, rfl, hi, rfl, hI⟩ J hJ
  by_cases h : i < n
  · exact hs i x w' h hI J fun x' w'' hI' => hJ (n - (i + 1)) _ _ _ (by omega) ⟨i + 1, by rw [wrap_succ (by omega)], by omega, rfl, hI'⟩
  · have : i = n := by omega
    subst this
    exact he x w' hI J
/-- The number stands last of three. -/
theorem lpc3 {body : Cur 3 → Cur 3} {x0 x1 : Value} {w : World} (n : Nat) (hn : n ≤ 1000000000000) (I : Nat → Value → Value → World → Prop) (h0 : I 0 x0 x1 w)
    (hs : ∀ i x y w, i < n → I i x y w → ∀ J : Cur 3, (∀ x' y' w', I (i + 1) x' y' w' → J x' y' (.int .i64 (IntKind.i64.wrap ((i : Int) + 1))) w') → body J x y (.int .i64 (i : Int)) w)
    (he : ∀ x y w, I n x y w → ∀ J : Cur 3, body J x y (.int .i64 (n : Int)) w) : lp 3 body [x0, x1, .int .i64 0] w := by
  refine lp3 (fun m x y z w' => ∃ i : Nat, z = .int .i64 (i : Int) ∧ i ≤ n ∧ m = n - i ∧ I i x y w') n ⟨0, rfl, by omega, by omega, h0⟩ ?_
  rintro m x y z w' ⟨i, rfl, hi, rfl, hI⟩ J hJ
  by_cases h : i < n
  · exact hs i x y w' h hI J fun x' y' w'' hI' => hJ (n - (i + 1)) _ _ _ _ (by omega) ⟨i + 1, by rw [wrap_succ (by omega)], by omega, rfl, hI'⟩
  · have : i = n := by omega
    subst this
    exact he x y w' hI J
end Go.Sh
