/- Two clocks, a lease, a table and words on their way: how they lie in memory together; what each call leaves. Conditions: as each says. -/
import Derived.Test.YtcmcdiddplmkaaaLeaseL
import Derived.Test.YtcmcdiddplmkaaaLeaseN
import Derived.Test.YtcmcdiddplmkaaaShU
set_option linter.unusedSimpArgs false
set_option linter.unusedVariables false
namespace Go.Proofs.Ytcmcdiddplmkaaa
open Go.Sh
set_option maxRecDepth 100000
/-- All that the law has made. -/
structure LS (B : Nat) (w : World) (ca cb mm mb tt tb : Nat) (term : Int) (Fa Fb : Nat → Prop) (xa xb : List Int) (ba bb : Bool) (asked : List Int) (at_ end_ : Int) (gr : Bool) (l : List (Value × Value)) (way : Value) (ws : List I3) : Prop where
  fa : CK Fa w ca (sumI xa) (xa.length : Int) (lst xa) ba
  fb : CK Fb w cb (sumI xb) (xb.length : Int) (lst xb) bb
  fm : Own1 (fun b => b = mm ∨ b = mb) w mm mb term asked at_ end_ gr
  ft : Tab (fun b => b = tt ∨ b = tb) w tt tb (2 * term) l
  fw : Own w B 36 3 way ws.length (flat enc3 ws)
  ab : ∀ b, Fa b → ¬ Fb b
  am : ∀ b, Fa b ∨ Fb b → b ≠ mm ∧ b ≠ mb ∧ b ≠ tt ∧ b ≠ tb
  mt : mm ≠ tt ∧ mm ≠ tb ∧ mb ≠ tt ∧ mb ≠ tb
  aw : ∀ b, way.ownBlock = some b → ¬ Fa b ∧ ¬ Fb b ∧ b ≠ mm ∧ b ≠ mb ∧ b ≠ tt ∧ b ≠ tb
  lo : ∀ b, Fa b ∨ Fb b ∨ b = mm ∨ b = mb ∨ b = tt ∨ b = tb → B ≤ b ∧ b < siz w
  base : B ≤ siz w
section
variable {B ca cb mm mb tt tb : Nat} {w w' : World} {term at_ end_ now : Int} {Fa Fb : Nat → Prop} {xa xb asked : List Int} {ba bb gr : Bool} {l : List (Value × Value)} {way : Value} {ws : List I3} {Q : Value → World → Prop}
theorem LS.still (h : LS B w ca cb mm mb tt tb term Fa Fb xa xb ba bb asked at_ end_ gr l way ws) (k : Keep (fun _ => False) w w') : LS B w' ca cb mm mb tt tb term Fa Fb xa xb ba bb asked at_ end_ gr l way ws :=
  ⟨h.fa.keep k fun _ _ => id, h.fb.keep k fun _ _ => id, h.fm.still k, h.ft.still k, h.fw.keep k fun _ _ => id, h.ab, h.am, h.mt, h.aw, fun b hb => ⟨(h.lo b hb).1, Nat.lt_of_lt_of_le (h.lo b hb).2 k.size⟩, Nat.le_trans h.base k.size⟩
theorem LS.inB {G : Nat → Prop} (h : LS B w ca cb mm mb tt tb term Fa Fb xa xb ba bb asked at_ end_ gr l way ws) (k : Keep G w w') (hG : ∀ b, G b → Fa b ∨ Fb b ∨ b = mm ∨ b = mb ∨ b = tt ∨ b = tb) : Keep (fun b => B ≤ b) w w' := k.mono fun b _ hb => (h.lo b (hG b hb)).1
theorem ls_stepA {x : Int} (h : LS B w ca cb mm mb tt tb term Fa Fb xa xb false bb asked at_ end_ gr l way ws) (hk : Kpt xa) (hl : xa.length ≤ 1000)
    (hq : ∀ w' Fa' ba' y r, LS B w' ca cb mm mb tt tb term Fa' Fb (xa ++ [y]) xb ba' bb asked at_ end_ gr l way ws → (ba' = false → Kpt (xa ++ [y])) → Keep (fun b => B ≤ b) w w' → Q r w') :
    callS Try.prog 8 #[.pointer (some ⟨ca, 0, none⟩), .int .i64 x] Q w := by
  refine clock_steps h.fa hk hl fun w' F' _ ⟨br, hc, hb⟩ h1 h2 k => hq w' F' br _ _ ⟨hc, h.fb.keep k fun b hb ha => h.ab b ha hb, h.fm.keep k fun b hb _ ha => ?_, h.ft.keep k fun b hb _ ha => ?_, h.fw.keep k fun b hb ha => (h.aw b hb).1 ha, fun b ha hb => ?_, fun b hb => ?_, h.mt, fun b hb => ?_, fun b hb => ?_, Nat.le_trans h.base k.size⟩ hb (h.inB k fun b hb => .inl hb)
  · have := h.am b (.inl ha); rcases hb with rfl | rfl <;> omega
  · have := h.am b (.inl ha); rcases hb with rfl | rfl <;> omega
  · rcases h1 b ha with h3 | h3
    · exact h.ab b h3 hb
    · have := (h.lo b (.inr (.inl hb))).2; omega
  · rcases hb with hb | hb
    · rcases h1 b hb with h3 | h3
      · exact h.am b (.inl h3)
      · have a1 := (h.lo mm (by simp)).2
        have a2 := (h.lo mb (by simp)).2
        have a3 := (h.lo tt (by simp)).2
        have a4 := (h.lo tb (by simp)).2
        omega
    · exact h.am b (.inr hb)
  · have h3 := h.aw b hb
    have h4 := (h.fw.lt hb).2
    exact ⟨fun ha => by rcases h1 b ha with h5 | h5; exact h3.1 h5; omega, h3.2⟩
  · rcases hb with hb | hb
    · refine ⟨?_, h2 b hb⟩
      rcases h1 b hb with h3 | h3
      · exact (h.lo b (.inl h3)).1
      · exact Nat.le_trans h.base h3
    · have := h.lo b (.inr hb)
      exact ⟨this.1, Nat.lt_of_lt_of_le this.2 k.size⟩
theorem ls_stepB {x : Int} (h : LS B w ca cb mm mb tt tb term Fa Fb xa xb ba false asked at_ end_ gr l way ws) (hk : Kpt xb) (hl : xb.length ≤ 1000)
    (hq : ∀ w' Fb' bb' y r, LS B w' ca cb mm mb tt tb term Fa Fb' xa (xb ++ [y]) ba bb' asked at_ end_ gr l way ws → (bb' = false → Kpt (xb ++ [y])) → Keep (fun b => B ≤ b) w w' → Q r w') :
    callS Try.prog 8 #[.pointer (some ⟨cb, 0, none⟩), .int .i64 x] Q w := by
  refine clock_steps h.fb hk hl fun w' F' _ ⟨br, hc, hb⟩ h1 h2 k => hq w' F' br _ _ ⟨h.fa.keep k fun b hb ha => h.ab b hb ha, hc, h.fm.keep k fun b hb _ ha => ?_, h.ft.keep k fun b hb _ ha => ?_, h.fw.keep k fun b hb ha => (h.aw b hb).2.1 ha, fun b ha hb => ?_, fun b hb => ?_, h.mt, fun b hb => ?_, fun b hb => ?_, Nat.le_trans h.base k.size⟩ hb (h.inB k fun b hb => .inr (.inl hb))
  · have := h.am b (.inr ha); rcases hb with rfl | rfl <;> omega
  · have := h.am b (.inr ha); rcases hb with rfl | rfl <;> omega
  · rcases h1 b hb with h3 | h3
    · exact h.ab b ha h3
    · have := (h.lo b (.inl ha)).2; omega
  · rcases hb with hb | hb
    · exact h.am b (.inl hb)
    · rcases h1 b hb with h3 | h3
      · exact h.am b (.inr h3)
      · have a1 := (h.lo mm (by simp)).2
        have a2 := (h.lo mb (by simp)).2
        have a3 := (h.lo tt (by simp)).2
        have a4 := (h.lo tb (by simp)).2
        omega
  · have h3 := h.aw b hb
    have h4 := (h.fw.lt hb).2
    exact ⟨h3.1, fun ha => by rcases h1 b ha with h5 | h5; exact h3.2.1 h5; omega, h3.2.2⟩
  · rcases hb with hb | hb | hb
    · have := h.lo b (.inl hb)
      exact ⟨this.1, Nat.lt_of_lt_of_le this.2 k.size⟩
    · refine ⟨?_, h2 b hb⟩
      rcases h1 b hb with h3 | h3
      · exact (h.lo b (.inr (.inl h3))).1
      · exact Nat.le_trans h.base h3
    · have := h.lo b (.inr (.inr hb))
      exact ⟨this.1, Nat.lt_of_lt_of_le this.2 k.size⟩
/-- What the lease's own blocks turned leaves. -/
theorem LS.mine {asked' : List Int} {at' end' : Int} {gr' : Bool} (h : LS B w ca cb mm mb tt tb term Fa Fb xa xb ba bb asked at_ end_ gr l way ws) (hm : Own1 (fun b => b = mm ∨ b = mb) w' mm mb term asked' at' end' gr') (k : Keep (fun b => b = mm ∨ b = mb) w w') : LS B w' ca cb mm mb tt tb term Fa Fb xa xb ba bb asked' at' end' gr' l way ws :=
  ⟨h.fa.keep k fun b hb ha => by have := h.am b (.inl hb); omega, h.fb.keep k fun b hb ha => by have := h.am b (.inr hb); omega, hm, h.ft.keep k fun b hb _ ha => by have := h.mt; omega, h.fw.keep k fun b hb ha => by have := h.aw b hb; omega, h.ab, h.am, h.mt, h.aw, fun b hb => ⟨(h.lo b hb).1, Nat.lt_of_lt_of_le (h.lo b hb).2 k.size⟩, Nat.le_trans h.base k.size⟩
/-- What the table's blocks turned leaves. -/
theorem LS.table {l' : List (Value × Value)} (h : LS B w ca cb mm mb tt tb term Fa Fb xa xb ba bb asked at_ end_ gr l way ws) (hm : Tab (fun b => b = tt ∨ b = tb) w' tt tb (2 * term) l') (k : Keep (fun b => b = tt ∨ b = tb) w w') : LS B w' ca cb mm mb tt tb term Fa Fb xa xb ba bb asked at_ end_ gr l' way ws :=
  ⟨h.fa.keep k fun b hb ha => by have := h.am b (.inl hb); omega, h.fb.keep k fun b hb ha => by have := h.am b (.inr hb); omega, h.fm.keep k fun b hb _ ha => by have := h.mt; omega, hm, h.fw.keep k fun b hb ha => by have := h.aw b hb; omega, h.ab, h.am, h.mt, h.aw, fun b hb => ⟨(h.lo b hb).1, Nat.lt_of_lt_of_le (h.lo b hb).2 k.size⟩, Nat.le_trans h.base k.size⟩
/-- What the words' own row turned leaves. -/
theorem LS.words {way' : Value} {ws' : List I3} (h : LS B w ca cb mm mb tt tb term Fa Fb xa xb ba bb asked at_ end_ gr l way ws) (ho : Own w' B 36 3 way' ws'.length (flat enc3 ws')) (k : Keep (fun b => way.ownBlock = some b) w w') (hr : ∀ g, way'.ownBlock = some g → way.ownBlock = some g ∨ siz w ≤ g) : LS B w' ca cb mm mb tt tb term Fa Fb xa xb ba bb asked at_ end_ gr l way' ws' := by
  refine ⟨h.fa.keep k fun b hb ha => (h.aw b ha).1 hb, h.fb.keep k fun b hb ha => (h.aw b ha).2.1 hb, h.fm.keep k fun b hb _ ha => by have := h.aw b ha; omega, h.ft.keep k fun b hb _ ha => by have := h.aw b ha; omega, ho, h.ab, h.am, h.mt, fun b hb => ?_, fun b hb => ⟨(h.lo b hb).1, Nat.lt_of_lt_of_le (h.lo b hb).2 k.size⟩, Nat.le_trans h.base k.size⟩
  rcases hr b hb with h1 | h1
  · exact h.aw b h1
  · refine ⟨fun ha => ?_, fun ha => ?_, ?_⟩
    · have := (h.lo b (.inl ha)).2; omega
    · have := (h.lo b (.inr (.inl ha))).2; omega
    · have a1 := (h.lo mm (by simp)).2
      have a2 := (h.lo mb (by simp)).2
      have a3 := (h.lo tt (by simp)).2
      have a4 := (h.lo tb (by simp)).2
      omega
end
end Go.Proofs.Ytcmcdiddplmkaaa
