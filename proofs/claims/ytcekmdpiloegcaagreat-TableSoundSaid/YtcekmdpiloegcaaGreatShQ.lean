/- Laws of the single operations: pointers, slices, what is appended. Conditions: as each law says. -/
import Derived.Test.YtcekmdpiloegcaaGreatShM
import Derived.Laws.AppendOwn
import Derived.Laws.OwnMore
set_option linter.unusedSimpArgs false
set_option linter.unusedVariables false
namespace Go.Sh

section
variable {P : Program} {w : World}

theorem equalIn_none {T e : TypeId} {a : Option Addr} (d : Nat) (hT : ∀ w, (underlying T).run P w = .ok (.pointer e) w) : (Op.equalIn (d + 1) T (.pointer a) (.pointer none)).run P w = .ok a.isNone w := by
  unfold Op.equalIn
  rw [Sem.run_bind, hT]
  cases a <;> rfl
theorem run_peq_none {T e : TypeId} {x y : Bool} {a : Option Addr} (hT : ∀ w, (underlying T).run P w = .ok (.pointer e) w) :
    (binS .eql T x y (.pointer a) (.pointer none)).run P w = .ok (.bool a.isNone) w := by
  have h1 : binOp .eql T (.pointer a) (.pointer none) = (do pure (.bool (← Op.equal T (.pointer a) (.pointer none)))) := rfl
  unfold binS
  rw [eqG_ptr, Sem.run_bind, Sem.run_pure, Result.andThen_ok, h1, Sem.run_bind]
  unfold Op.equal Op.maxDepth
  rw [equalIn_none 9999 hT]; rfl
theorem run_pneq_none {T e : TypeId} {x y : Bool} {a : Option Addr} (hT : ∀ w, (underlying T).run P w = .ok (.pointer e) w) :
    (binS .neq T x y (.pointer a) (.pointer none)).run P w = .ok (.bool a.isSome) w := by
  have h1 : binOp .neq T (.pointer a) (.pointer none) = (do pure (.bool (!(← Op.equal T (.pointer a) (.pointer none))))) := rfl
  unfold binS
  rw [eqG_ptr, Sem.run_bind, Sem.run_pure, Result.andThen_ok, h1, Sem.run_bind]
  unfold Op.equal Op.maxDepth
  rw [equalIn_none 9999 hT]; cases a <;> rfl
theorem run_sameAddr {b o b' o' : Nat} (h : fre w b = true) (h' : fre w b' = true) : (sameAddr ⟨b, o, none⟩ ⟨b', o', none⟩).run P w = .ok (decide (b = b' ∧ o = o')) w := by
  by_cases hb : b = b'
  · subst hb
    simp only [sameAddr, beq_self_eq_true, if_true, Sem.run_pure]
    congr 1
    by_cases ho : o = o' <;> simp [ho]
  · have f1 : ∀ i, w.frozen? ⟨b, i, none⟩ = false := fun i => frozen_fre h
    have f2 : ∀ i, w.frozen? ⟨b', i, none⟩ = false := fun i => frozen_fre h'
    have s1 : ∀ {c : Nat}, fre w c = true → ∃ p, w.shape? c = some p := fun {c} hc => by
      simp only [fre, freeO, blk] at hc
      unfold World.shape?
      split at hc
      · rename_i cs t lo hi hx; rw [hx]; exact ⟨_, rfl⟩
      · cases hc
    obtain ⟨p, hp⟩ := s1 h
    obtain ⟨p', hp'⟩ := s1 h'
    simp [sameAddr, hb, f1, f2, noView, viewAt, hp, hp', mayBeOne, stringish]
theorem equalIn_some {T e : TypeId} {b o b' o' : Nat} (d : Nat) (hT : ∀ w, (underlying T).run P w = .ok (.pointer e) w) (hs : ∃ n, n ≠ 0 ∧ ∀ w, (sizeOf e).run P w = .ok n w) (h : fre w b = true) (h' : fre w b' = true) :
    (Op.equalIn (d + 1) T (.pointer (some ⟨b, o, none⟩)) (.pointer (some ⟨b', o', none⟩))).run P w = .ok (decide (b = b' ∧ o = o')) w := by
  obtain ⟨n, hn, hs⟩ := hs
  unfold Op.equalIn
  rw [Sem.run_bind, hT]
  simp only [Result.andThen_ok]
  rw [Sem.run_bind, hs, Result.andThen_ok, if_pos hn, run_sameAddr h h']
theorem run_peq {T e : TypeId} {x y : Bool} {b o b' o' : Nat} (hT : ∀ w, (underlying T).run P w = .ok (.pointer e) w) (hs : ∃ n, n ≠ 0 ∧ ∀ w, (sizeOf e).run P w = .ok n w) (h : fre w b = true) (h' : fre w b' = true) :
    (binS .eql T x y (.pointer (some ⟨b, o, none⟩)) (.pointer (some ⟨b', o', none⟩))).run P w = .ok (.bool (decide (b = b' ∧ o = o'))) w := by
  have h1 : binOp .eql T (.pointer (some ⟨b, o, none⟩)) (.pointer (some ⟨b', o', none⟩)) = (do pure (.bool (← Op.equal T (.pointer (some ⟨b, o, none⟩)) (.pointer (some ⟨b', o', none⟩))))) := rfl
  unfold binS
  rw [eqG_ptr, Sem.run_bind, Sem.run_pure, Result.andThen_ok, h1, Sem.run_bind]
  unfold Op.equal Op.maxDepth
  rw [equalIn_some 9999 hT hs h h']; rfl
theorem run_pneq {T e : TypeId} {x y : Bool} {b o b' o' : Nat} (hT : ∀ w, (underlying T).run P w = .ok (.pointer e) w) (hs : ∃ n, n ≠ 0 ∧ ∀ w, (sizeOf e).run P w = .ok n w) (h : fre w b = true) (h' : fre w b' = true) :
    (binS .neq T x y (.pointer (some ⟨b, o, none⟩)) (.pointer (some ⟨b', o', none⟩))).run P w = .ok (.bool (decide (¬ (b = b' ∧ o = o')))) w := by
  have h1 : binOp .neq T (.pointer (some ⟨b, o, none⟩)) (.pointer (some ⟨b', o', none⟩)) = (do pure (.bool (!(← Op.equal T (.pointer (some ⟨b, o, none⟩)) (.pointer (some ⟨b', o', none⟩)))))) := rfl
  unfold binS
  rw [eqG_ptr, Sem.run_bind, Sem.run_pure, Result.andThen_ok, h1, Sem.run_bind]
  unfold Op.equal Op.maxDepth
  rw [equalIn_some 9999 hT hs h h']; simp

theorem equalIn_bool {T : TypeId} {a b : Bool} (d : Nat) (hT : ∀ w, (underlying T).run P w = .ok .bool w) : (Op.equalIn (d + 1) T (.bool a) (.bool b)).run P w = .ok (a == b) w := by
  unfold Op.equalIn
  rw [Sem.run_bind, hT]; rfl
theorem run_beq {T : TypeId} {x y a b : Bool} (hT : ∀ w, (underlying T).run P w = .ok .bool w) : (binS .eql T x y (.bool a) (.bool b)).run P w = .ok (.bool (a == b)) w := by
  have h1 : binOp .eql T (.bool a) (.bool b) = (do pure (.bool (← Op.equal T (.bool a) (.bool b)))) := rfl
  unfold binS
  rw [eqG_bool, Sem.run_bind, Sem.run_pure, Result.andThen_ok, h1, Sem.run_bind]
  unfold Op.equal Op.maxDepth
  rw [equalIn_bool 9999 hT]; rfl
theorem run_bneq {T : TypeId} {x y a b : Bool} (hT : ∀ w, (underlying T).run P w = .ok .bool w) : (binS .neq T x y (.bool a) (.bool b)).run P w = .ok (.bool (a != b)) w := by
  have h1 : binOp .neq T (.bool a) (.bool b) = (do pure (.bool (!(← Op.equal T (.bool a) (.bool b))))) := rfl
  unfold binS
  rw [eqG_bool, Sem.run_bind, Sem.run_pure, Result.andThen_ok, h1, Sem.run_bind]
  unfold Op.equal Op.maxDepth
  rw [equalIn_bool 9999 hT]; rfl

theorem run_lenSl {T e ty : TypeId} {a : Option Addr} {n c : Nat} (hT : ∀ w, (underlying T).run P w = .ok (.slice e) w) : (Builtin.len_ #[T] ty #[.slice a n c]).run P w = .ok (.int .i64 n) w := by
  simp [Builtin.len_, hT, goInt]
theorem run_lenStr {T ty : TypeId} {s : ByteArray} (hT : ∀ w, (underlying T).run P w = .ok .string w) : (Builtin.len_ #[T] ty #[.string s]).run P w = .ok (.int .i64 s.size) w := by
  simp [Builtin.len_, hT, goInt]

theorem run_index {T e : TypeId} {b o n c i z : Nat} {kd : IntKind} (hT : ∀ w, (underlying T).run P w = .ok (.slice e) w) (hs : ∀ w, (sizeOf e).run P w = .ok z w) (h : i < n) :
    (Instr.indexAt T (.slice (some ⟨b, o, none⟩) n c) (.int kd i)).run P w = .ok (.pointer (some ⟨b, o + i * z, none⟩)) w := by
  have h1 : (0 : Int) ≤ i ∧ (i : Int) < n := by omega
  simp [Instr.indexAt, asIntOf, hT, h, hs, Addr.add]

/-- A slice of one-cell values, or of several: its cells. -/
theorem run_sliceAt {T e : TypeId} {b o n c i j z : Nat} (hT : ∀ w, (underlying T).run P w = .ok (.slice e) w) (hs : ∀ w, (sizeOf e).run P w = .ok z w) (h : i ≤ j) (h' : j ≤ c) (kd kd' : IntKind) :
    (Instr.sliceAt T (.slice (some ⟨b, o, none⟩) n c) (some (.int kd i)) (some (.int kd' j)) none).run P w =
      .ok (.slice (some (if c = i then ⟨b, o, none⟩ else ⟨b, o + i * z, none⟩)) (j - i) (c - i)) w := by
  simp [Instr.sliceAt, hT, Instr.slice, Instr.sliceBounds, Instr.sliceBound, asIntOf, h, h', hs, Addr.add]
  split
  · rfl
  · by_cases h0 : i = 0
    · simp [h0]
    · by_cases hz : z = 0 <;> simp [hz]

theorem act_buildSl1 {T e : TypeId} {v : Value} {k : Value → World → Prop} {z : Value} (hT : ∀ w, (underlying T).run P w = .ok (.slice e) w) (hs : ∀ w, (sizeOf e).run P w = .ok 1 w) (hz : ∀ w, (zeroValue e).run P w = .ok z w) (hv : one v = true) :
    act P (Instr.buildSlice T 1 #[(0, v)]) k w = k (.slice (some ⟨siz w, 0, none⟩) 1 1) (w.alloc (.cells #[v] e)) := by
  refine act_eq ?_
  simp [Instr.buildSlice, hT, hs, hz, Instr.fill, one_cells hv, newRow, siz, show Array.range 1 = #[0] from rfl]
theorem act_buildSl2 {T e : TypeId} {v v' : Value} {k : Value → World → Prop} {z : Value} (hT : ∀ w, (underlying T).run P w = .ok (.slice e) w) (hs : ∀ w, (sizeOf e).run P w = .ok 1 w) (hz : ∀ w, (zeroValue e).run P w = .ok z w) (hv : one v = true) (hv' : one v' = true) (hzz : one z = true) :
    act P (Instr.buildSlice T 2 #[(0, v), (1, v')]) k w = k (.slice (some ⟨siz w, 0, none⟩) 2 2) (w.alloc (.cells #[v, v'] e)) := by
  refine act_eq ?_
  simp [Instr.buildSlice, hT, hs, hz, Instr.fill, one_cells hv, one_cells hv', one_cells hzz, newRow, siz, show Array.range 2 = #[0, 1] from rfl]
theorem run_sliceTo {T e : TypeId} {b o n c j z : Nat} (hT : ∀ w, (underlying T).run P w = .ok (.slice e) w) (hs : ∀ w, (sizeOf e).run P w = .ok z w) (h' : j ≤ c) (kd' : IntKind) :
    (Instr.sliceAt T (.slice (some ⟨b, o, none⟩) n c) none (some (.int kd' j)) none).run P w = .ok (.slice (some ⟨b, o, none⟩) j c) w := by
  simp [Instr.sliceAt, hT, Instr.slice, Instr.sliceBounds, Instr.sliceBound, asIntOf, h', hs, Addr.add]
theorem run_convInt {src dst : TypeId} {d : TypeDesc} {k kd : IntKind} {n : Int} (hs : ∀ w, (underlying src).run P w = .ok d w) (hd : ∀ w, (underlying dst).run P w = .ok (.int k) w) (w : World) :
    (convert src dst (.int kd n)).run P w = .ok (.int k (k.wrap n)) w := by
  simp [convert, hs, hd, Conv.intToInt]
theorem run_strIndex {T : TypeId} {s : ByteArray} {kd : IntKind} {i : Nat} {b : UInt8} (hT : ∀ w, (underlying T).run P w = .ok .string w) (hb : s[i]? = some b) (w : World) :
    (Instr.index T (.string s) (.int kd (i : Int))).run P w = .ok (.int .u8 (b.toNat : Int)) w := by
  simp [Instr.index, asIntOf, hT, hb]
theorem run_slice0 {T e : TypeId} {b o n c z : Nat} (hT : ∀ w, (underlying T).run P w = .ok (.slice e) w) (hs : ∀ w, (sizeOf e).run P w = .ok z w) (kd : IntKind) (w : World) :
    (Instr.sliceAt T (.slice (some ⟨b, o, none⟩) n c) (some (.int kd 0)) none none).run P w = .ok (.slice (some ⟨b, o, none⟩) n c) w := by
  simp [Instr.sliceAt, hT, Instr.slice, Instr.sliceBounds, Instr.sliceBound, asIntOf, hs, Addr.add]
theorem act_clear1 {T e ty : TypeId} {b o c : Nat} {z : Value} {k : Value → World → Prop} (hT : ∀ w, (underlying T).run P w = .ok (.slice e) w) (hz : ∀ w, (zeroValue e).run P w = .ok z w) (hz1 : one z = true) (h : (cel w b o).isSome = true) (hf : fre w b = true) :
    act P (Builtin.clear_ #[T] ty #[.slice (some ⟨b, o, none⟩) 1 c]) k w = k (.tuple #[]) (sto w b o z) := by
  refine act_eq ?_
  have h1 := run_storeL (P := P) (b := b) [z] o 0 w (by simpa using hz1) (fun j hj => by have : j = 0 := by simpa using hj
                                                                                         subst this; exact h) hf
  have h2 : (Builtin.zeroCells z.cells 1).toList = [z] := by rw [one_cells hz1]; simp [Builtin.zeroCells, show Array.range 1 = #[0] from rfl]
  simp [Builtin.clear_, hT, hz, h2, h1, stoL]
theorem wrap_u (n : Int) : IntKind.u64.wrap n = n % 18446744073709551616 := by
  simp [IntKind.wrap, IntKind.bits, IntKind.signed]
theorem eqG_map {T : TypeId} {x y : Bool} {a : Option Nat} {v : Value} : eqG .eql T x y (.map a) v = pure () := by rfl
theorem equalIn_mnone {T k e : TypeId} {a : Option Nat} (d : Nat) (hT : ∀ w, (underlying T).run P w = .ok (.map k e) w) : (Op.equalIn (d + 1) T (.map a) (.map none)).run P w = .ok a.isNone w := by
  unfold Op.equalIn
  rw [Sem.run_bind, hT]
  cases a <;> rfl
theorem run_meq_none {T k e : TypeId} {x y : Bool} {a : Option Nat} (hT : ∀ w, (underlying T).run P w = .ok (.map k e) w) :
    (binS .eql T x y (.map a) (.map none)).run P w = .ok (.bool a.isNone) w := by
  have h1 : binOp .eql T (.map a) (.map none) = (do pure (.bool (← Op.equal T (.map a) (.map none)))) := rfl
  unfold binS
  rw [eqG_map, Sem.run_bind, Sem.run_pure, Result.andThen_ok, h1, Sem.run_bind]
  unfold Op.equal Op.maxDepth
  rw [equalIn_mnone 9999 hT]; rfl
end

/-! ### what the call itself appends to -/

/-- The value v is a slice, its cells lie in a block of its own that is at or behind 'base', and read as xs (nil: no cells). -/
abbrev Own (w : World) (base : Nat) (e : TypeId) (z : Nat) (v : Value) (n : Nat) (xs : List Value) : Prop := w.ownsRow base e z v n xs

theorem Own.keep {F : Nat → Prop} {w w' : World} {base : Nat} {e : TypeId} {z n : Nat} {v : Value} {xs : List Value} (h : Own w base e z v n xs) (hk : Keep F w w') (hn : ∀ g, v.ownBlock = some g → ¬ F g) : Own w' base e z v n xs := by
  refine ⟨h.1, ?_⟩
  rcases h.2 with h1 | ⟨g, cap, cur, rfl, hb, hg, rest⟩
  · exact .inl h1
  · refine .inr ⟨g, cap, cur, rfl, hb, ?_, rest⟩
    have := hk.block g (Array.getElem?_eq_some_iff.1 hg).1 (hn g rfl)
    simp only [blk] at this
    rw [this]; exact hg

theorem Keep.grown {F : Nat → Prop} {w w' w'' : World} {row : Option Nat} (h : Keep F w w') (hg : w'.grownBy w'' row) (hr : ∀ g, row = some g → F g ∨ siz w ≤ g) : Keep F w w'' :=
  ⟨hg.os.trans h.os, hg.tape.trans h.tape, hg.output.trans h.output, Nat.le_trans h.size hg.size, fun b hb hn => by
    refine Eq.trans ?_ (h.block b hb hn)
    exact hg.block b (Nat.lt_of_lt_of_le hb h.size) (fun e => by rcases hr b e.symm with h1 | h1; exact hn h1; omega)⟩
theorem grown_keep {w w' : World} {row : Option Nat} (hg : w.grownBy w' row) : Keep (fun b => row = some b) w w' :=
  ⟨hg.os, hg.tape, hg.output, hg.size, fun b hb hn => hg.block b hb fun e => hn e.symm⟩

theorem Own.lt {w : World} {base : Nat} {e : TypeId} {z n : Nat} {v : Value} {xs : List Value} (h : Own w base e z v n xs) {g : Nat} (hg : v.ownBlock = some g) : base ≤ g ∧ g < siz w := World.ownsRow.lt h g hg

theorem Own.len {w : World} {base : Nat} {e : TypeId} {z n : Nat} {v : Value} {xs : List Value} (h : Own w base e z v n xs) : xs.length = n * z := h.1
theorem Own.nil (w : World) (base : Nat) (e : TypeId) (z : Nat) : Own w base e z (.slice none 0 0) 0 [] := World.ownsRow_nil w base e z

/-- What such a value looks like where it has an element. -/
theorem Own.at {w : World} {base : Nat} {e : TypeId} {z n : Nat} {v : Value} {xs : List Value} (h : Own w base e z v n xs) (hn : 0 < n) :
    ∃ g cap, v = .slice (some ⟨g, 0, none⟩) n cap ∧ base ≤ g ∧ g < siz w ∧ n ≤ cap ∧ cap ≤ maxLen ∧ fre w g = true ∧ ∀ j, j < n * z → cel w g j = xs[j]? := by
  rcases h.2 with ⟨_, h0⟩ | ⟨g, cap, cur, rfl, hb, hg, h1, h2, h3, h4⟩
  · omega
  · refine ⟨g, cap, rfl, hb, (Array.getElem?_eq_some_iff.1 hg).1, h1, h2, ?_, fun j hj => ?_⟩
    · simp [fre, blk, hg, freeO]
    · simp only [cel, blk, hg, celO]
      rw [← h4, List.getElem?_take, if_pos hj]; simp
theorem Own.form {w : World} {base : Nat} {e : TypeId} {z n : Nat} {v : Value} {xs : List Value} (h : Own w base e z v n xs) :
    ∃ a cap, v = .slice a n cap := by
  rcases h.2 with ⟨h0, h1⟩ | ⟨g, cap, cur, rfl, _⟩
  · exact ⟨none, 0, by rw [h0, h1]⟩
  · exact ⟨_, _, rfl⟩

/-- A cell of such a row is written. -/
theorem Own.set {w : World} {base : Nat} {e : TypeId} {g n cap j : Nat} {xs : List Value} {x : Value} (h : Own w base e 1 (.slice (some ⟨g, 0, none⟩) n cap) n xs) (hj : j < n) : Own (sto w g j x) base e 1 (.slice (some ⟨g, 0, none⟩) n cap) n (xs.set j x) := by
  refine ⟨by rw [List.length_set]; exact h.1, ?_⟩
  rcases h.2 with ⟨h1, _⟩ | ⟨g', cap', cur, he, hb, hg, h1, h2, h3, h4⟩
  · cases h1
  · injection he with e1 _ e2
    injection e1 with e1
    injection e1 with e1 _ _
    subst e1 e2
    refine .inr ⟨g, cap, cur.setIfInBounds j x, rfl, hb, ?_, h1, h2, by rw [Array.size_setIfInBounds]; exact h3, ?_⟩
    · simp only [sto, World.setCell, Array.getElem?_modify, hg, if_true]; rfl
    · rw [Array.toList_setIfInBounds, ← h4, List.take_set]
/-- The row is cut. -/
theorem Own.cut {w : World} {base : Nat} {e : TypeId} {g n cap m : Nat} {xs : List Value} (h : Own w base e 1 (.slice (some ⟨g, 0, none⟩) n cap) n xs) (hm : m ≤ n) : Own w base e 1 (.slice (some ⟨g, 0, none⟩) m cap) m (xs.take m) := by
  have hl := h.1
  refine ⟨by rw [List.length_take]; omega, ?_⟩
  rcases h.2 with ⟨h1, _⟩ | ⟨g', cap', cur, he, hb, hg, h1, h2, h3, h4⟩
  · cases h1
  · injection he with e1 _ e2
    injection e1 with e1
    injection e1 with e1 _ _
    subst e1 e2
    exact .inr ⟨g, cap, cur, rfl, hb, hg, by omega, h2, h3, by rw [← h4, List.take_take, Nat.mul_one, Nat.mul_one, Nat.min_eq_left hm]⟩
theorem Own.fre {w : World} {base : Nat} {e : TypeId} {z n : Nat} {v : Value} {xs : List Value} (h : Own w base e z v n xs) {g : Nat} (hg : v.ownBlock = some g) : Sh.fre w g = true := by
  rcases h.2 with ⟨rfl, _⟩ | ⟨g', cap, cur, rfl, _, hh, _⟩
  · cases hg
  · injection hg with hg
    subst hg
    simp [Sh.fre, blk, hh, freeO]

theorem act_makeSl {P : Program} {w : World} {T e : TypeId} {i : TypeInfo} {z : Value} {base n : Nat} {k : Value → World → Prop} (ht : P.underlying T = some (.slice e)) (hi : P.info? e = some i) (hz : i.zero = some z) (hs : i.size = 1)
    (hc : n ≤ 1000000) (hb : i.bytes ≤ 1000) (hz1 : one z = true) (hbase : base ≤ siz w)
    (h : ∀ w', Own w' base e 1 (.slice (some ⟨siz w, 0, none⟩) n n) n (List.replicate n z) → Keep (fun _ => False) w w' → siz w < siz w' → k (.slice (some ⟨siz w, 0, none⟩) n n) w') : act P (Instr.makeSlice T (.int .i64 (n : Int)) (.int .i64 (n : Int))) k w := by
  obtain ⟨w', hr, ho, hg⟩ := run_makeSlice_full (P := P) w base T e i z 1 ht hi hz hs .i64 .i64 n (by omega) (by have := Nat.mul_le_mul hb hc; omega) (by unfold maxLen; omega) hbase
  rw [act_eq hr]
  have e1 : (madeCells z.cells (n * 1)).toList = List.replicate n z := by
    rw [one_cells hz1, Nat.mul_one, toList_madeCells_one]
  rw [e1] at ho
  refine h w' ho ((grown_keep hg).mono fun b _ e => by cases e) ?_
  exact (Own.lt ho (g := siz w) rfl).2

theorem act_append {P : Program} {w : World} {t ty e : TypeId} {i : TypeInfo} {z : Value} {size bytes base : Nat} (ht : P.underlying t = some (.slice e)) (hi : P.info? e = some i) (hz : i.zero = some z)
    (hsize : i.size = size) (hby : i.bytes = bytes) (hzs : z.cells.size = size) (hsz : 0 < size) {k : Value → World → Prop}
    {v : Value} {n : Nat} {xs : List Value} (hown : Own w base e size v n xs)
    {b o m c : Nat} {news : List Value} (hl : news.length = m * size) (hnews : ∀ j, j < m * size → cel w b (o + j) = news[j]?) (h1 : ∀ u ∈ news, one u = true)
    (hbytes : (n + m) * bytes ≤ 140737488355328) (h63 : n + m ≤ maxLen) (hbase : base ≤ siz w)
    (hk : ∀ v' w', Own w' base e size v' (n + m) (xs ++ news) → w.grownBy w' v.ownBlock → (∀ g, v'.ownBlock = some g → v.ownBlock = some g ∨ siz w ≤ g) → k v' w') :
    act P (Builtin.append_ #[t, t] ty #[v, .slice (some ⟨b, o, none⟩) m c]) k w := by
  have hn : ∀ j u, news[j]? = some u → w.cell? ((⟨b, o, none⟩ : Addr).add j) = some u := fun j u hu => by
    have hj : j < m * size := by rw [← hl]; exact (List.getElem?_eq_some_iff.1 hu).1
    have : (⟨b, o, none⟩ : Addr).add j = ⟨b, o + j, none⟩ := by unfold Addr.add; split <;> simp_all
    rw [this, cell_cel, hnews j hj]; exact hu
  obtain ⟨v', w', hr, hown', hg, hnil⟩ := run_append_own (P := P) w base t ty e i z size bytes ht hi hz hsize hby hzs hsz v n xs hown ⟨b, o, none⟩ m c news hl hn (fun u hu => one_oneCell (h1 u hu)) h63 hbytes hbase
  rw [act_eq hr]
  refine hk v' w' hown' hg fun g hg' => ?_
  subst hsize
  rcases hown.2 with ⟨rfl, rfl⟩ | ⟨g0, cap, cur, rfl, _, hg0, hcap, hcapm, hcur, htake⟩
  · rcases Nat.eq_zero_or_pos m with rfl | hm
    · rw [hnil.2 ⟨rfl, rfl⟩] at hg'; cases hg'
    · have h2 := run_append_nil (P := P) w t ty e i z ht hi hz ⟨b, o, none⟩ m c news hl hn hm (by simp only [maxLen] at h63; omega) (by rw [hby]; simp only [Nat.zero_add] at hbytes; omega)
      rw [h2] at hr
      injection hr with hr _
      subst hr
      injection hg' with hg'
      exact .inr (by rw [← hg']; exact Nat.le_refl _)
  · by_cases hroom : n + m ≤ cap
    · have hfit : n * i.size + news.length ≤ cur.size := by
        rw [hl, hcur, ← Nat.add_mul]; exact Nat.mul_le_mul_right _ hroom
      have h2 := run_append_room (P := P) w t ty e i ht hi g0 n cap cur hg0 ⟨b, o, none⟩ m c news hl hn (fun u hu => one_oneCell (h1 u hu)) hroom hfit
      rw [h2] at hr
      injection hr with hr _
      subst hr
      exact .inl hg'
    · have h2 := run_append_grow (P := P) w t ty e i z ht hi hz ⟨g0, 0, none⟩ n cap xs hown.1 (World.ownsRow.cells hown rfl) ⟨b, o, none⟩ m c news hl hn (by omega) (by simp only [maxLen] at h63; omega)
        (growslice_fits (by omega) (by rw [hby]; exact hbytes))
      rw [h2] at hr
      injection hr with hr _
      subst hr
      injection hg' with hg'
      exact .inr (by rw [← hg']; exact Nat.le_refl _)
end Go.Sh
