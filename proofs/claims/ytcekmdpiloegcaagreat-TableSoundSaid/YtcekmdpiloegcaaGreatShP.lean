/- Laws of the single operations, over any program: what a reading comes to where the operands are written out.
   Conditions: as each law says. -/
import Derived.Test.YtcekmdpiloegcaaGreatShC
import Derived.Laws.Strings
import Derived.Laws.World
import Derived.Laws.Entries
import Derived.Laws.Cells
import Derived.Below
set_option linter.unusedSimpArgs false
set_option linter.unusedVariables false
namespace Go.Sh

section
variable {P : Program} {w : World}

theorem pur_eq {s : Sem Value} {v : Value} {k : Value → Prop} (h : ∀ w, s.run P w = .ok v w) : pur P s k = k v := by
  apply propext
  constructor
  · rintro ⟨u, hu, hk⟩
    have := hu default
    rw [h default] at this
    injection this with this
    rw [this]; exact hk
  · intro hk; exact ⟨v, h, hk⟩

theorem rd_eq {s : Sem Value} {v : Value} {k : Value → Prop} (h : s.run P w = .ok v w) : rd P s k w = k v := by
  apply propext
  constructor
  · rintro ⟨u, hu, hk⟩
    rw [h] at hu
    injection hu with hu
    rw [hu]; exact hk
  · intro hk; exact ⟨v, h, hk⟩

theorem act_eq {s : Sem Value} {v : Value} {w' : World} {k : Value → World → Prop} (h : s.run P w = .ok v w') : act P s k w = k v w' := by
  unfold act; rw [h]

theorem hld_of {S : World → Prop} {s : Sem Value} (v : Value) {k : Value → Prop} (h : ∀ w, S w → s.run P w = .ok v w) (hk : k v) : hld P S s k := ⟨v, h, hk⟩

/-! ### tests, guards, picks -/

theorem condS_true {A B : Prop} : condS (.bool true) A B = A := rfl
theorem condS_false {A B : Prop} : condS (.bool false) A B = B := rfl
theorem condS_bool {A B : Prop} (b : Bool) : condS (.bool b) A B = (if b = true then A else B) := by cases b <;> rfl
theorem condS_split {A B : Prop} {b : Bool} (h1 : b = true → A) (h2 : b = false → B) : condS (.bool b) A B := by cases b <;> simp_all [condS]
theorem gd_hit {b : Bool} {m : (Value → World → Prop) → World → Prop} {k : Value → World → Prop} : gd (.bool b) b m k w = m k w := by cases b <;> rfl
theorem gd_tf {m : (Value → World → Prop) → World → Prop} {k : Value → World → Prop} : gd (.bool true) false m k w = k undef w := rfl
theorem gd_ft {m : (Value → World → Prop) → World → Prop} {k : Value → World → Prop} : gd (.bool false) true m k w = k undef w := rfl
theorem gd_undef {b : Bool} {m : (Value → World → Prop) → World → Prop} {k : Value → World → Prop} : gd undef b m k w = k undef w := rfl
theorem pur_pick_t {a b : Value} {k : Value → Prop} : pur P (pickS (.bool true) a b) k = k a := pur_eq fun _ => rfl
theorem pur_pick_f {a b : Value} {k : Value → Prop} : pur P (pickS (.bool false) a b) k = k b := pur_eq fun _ => rfl
theorem pur_pure {v : Value} {k : Value → Prop} : pur P (pure v) k = k v := pur_eq fun _ => rfl
theorem pur_not {b : Bool} {k : Value → Prop} : pur P (Op.unary .not (.bool b)) k = k (.bool !b) := pur_eq fun _ => rfl
theorem pur_neg {kd : IntKind} {n : Int} {k : Value → Prop} : pur P (Op.unary .neg (.int kd n)) k = k (.int kd (kd.wrap (0 - n))) := pur_eq fun _ => rfl
theorem pur_nil {a : Addr} {k : Value → Prop} : pur P (nilV (.pointer (some a))) k = k (.pointer (some a)) := pur_eq fun _ => rfl
theorem pur_nilF {g : FuncId} {x y : Array Value} {k : Value → Prop} : pur P (nilV (.func (.func g) x y)) k = k (.func (.func g) x y) := pur_eq fun _ => rfl

theorem pur_ext2_0 {a b : Value} {k : Value → Prop} : pur P (Instr.extract (.tuple #[a, b]) 0) k = k a := pur_eq fun _ => rfl
theorem pur_ext2_1 {a b : Value} {k : Value → Prop} : pur P (Instr.extract (.tuple #[a, b]) 1) k = k b := pur_eq fun _ => rfl
theorem pur_ext3_0 {a b c : Value} {k : Value → Prop} : pur P (Instr.extract (.tuple #[a, b, c]) 0) k = k a := pur_eq fun _ => rfl
theorem pur_ext3_1 {a b c : Value} {k : Value → Prop} : pur P (Instr.extract (.tuple #[a, b, c]) 1) k = k b := pur_eq fun _ => rfl
theorem pur_ext3_2 {a b c : Value} {k : Value → Prop} : pur P (Instr.extract (.tuple #[a, b, c]) 2) k = k c := pur_eq fun _ => rfl
theorem pur_ext4_0 {a b c d : Value} {k : Value → Prop} : pur P (Instr.extract (.tuple #[a, b, c, d]) 0) k = k a := pur_eq fun _ => rfl
theorem pur_ext4_1 {a b c d : Value} {k : Value → Prop} : pur P (Instr.extract (.tuple #[a, b, c, d]) 1) k = k b := pur_eq fun _ => rfl
theorem pur_ext4_2 {a b c d : Value} {k : Value → Prop} : pur P (Instr.extract (.tuple #[a, b, c, d]) 2) k = k c := pur_eq fun _ => rfl
theorem pur_ext4_3 {a b c d : Value} {k : Value → Prop} : pur P (Instr.extract (.tuple #[a, b, c, d]) 3) k = k d := pur_eq fun _ => rfl

/-! ### integers, texts -/

section ints
variable {t : TypeId} {x y : Bool} {kd : IntKind} {a b : Int} {k : Value → Prop}
theorem eqG_int (op : BinOp) (v : Value) : eqG op t x y (.int kd a) v = pure () := by cases op <;> rfl
theorem eqG_str (op : BinOp) (s : ByteArray) (v : Value) : eqG op t x y (.string s) v = pure () := by cases op <;> rfl
theorem eqG_bool (op : BinOp) (s : Bool) (v : Value) : eqG op t x y (.bool s) v = pure () := by cases op <;> rfl
theorem eqG_ptr (op : BinOp) (s : Option Addr) (v : Value) : eqG op t x y (.pointer s) v = pure () := by cases op <;> rfl
theorem pur_add : pur P (binS .add t x y (.int kd a) (.int kd b)) k = k (.int kd (kd.wrap (a + b))) := pur_eq fun w => by simp [binS, eqG_int, binOp, Op.intArith]
theorem pur_sub : pur P (binS .sub t x y (.int kd a) (.int kd b)) k = k (.int kd (kd.wrap (a - b))) := pur_eq fun w => by simp [binS, eqG_int, binOp, Op.intArith]
theorem pur_mul : pur P (binS .mul t x y (.int kd a) (.int kd b)) k = k (.int kd (kd.wrap (a * b))) := pur_eq fun w => by simp [binS, eqG_int, binOp, Op.intArith]
theorem pur_quo (h : b ≠ 0) : pur P (binS .quo t x y (.int kd a) (.int kd b)) k = k (.int kd (kd.wrap (a.tdiv b))) := pur_eq fun w => by simp [binS, eqG_int, binOp, Op.intDiv, h]
theorem pur_rem (h : b ≠ 0) : pur P (binS .rem t x y (.int kd a) (.int kd b)) k = k (.int kd (a.tmod b)) := pur_eq fun w => by simp [binS, eqG_int, binOp, Op.intDiv, h]
theorem pur_eql : pur P (binS .eql t x y (.int kd a) (.int kd b)) k = k (.bool (decide (a = b))) := pur_eq fun w => by simp [binS, eqG_int, binOp, Op.intCmp]; rfl
theorem pur_neq : pur P (binS .neq t x y (.int kd a) (.int kd b)) k = k (.bool (decide (a ≠ b))) := pur_eq fun w => by simp [binS, eqG_int, binOp, Op.intCmp, bne]; by_cases h : a = b <;> simp [h]
theorem pur_lss : pur P (binS .lss t x y (.int kd a) (.int kd b)) k = k (.bool (decide (a < b))) := pur_eq fun w => by simp [binS, eqG_int, binOp, Op.intCmp]
theorem pur_leq : pur P (binS .leq t x y (.int kd a) (.int kd b)) k = k (.bool (decide (a ≤ b))) := pur_eq fun w => by simp [binS, eqG_int, binOp, Op.intCmp]
theorem pur_gtr : pur P (binS .gtr t x y (.int kd a) (.int kd b)) k = k (.bool (decide (b < a))) := pur_eq fun w => by simp [binS, eqG_int, binOp, Op.intCmp]
theorem pur_geq : pur P (binS .geq t x y (.int kd a) (.int kd b)) k = k (.bool (decide (b ≤ a))) := pur_eq fun w => by simp [binS, eqG_int, binOp, Op.intCmp]
theorem strEq (s u : ByteArray) : (s.toList == u.toList) = decide (s = u) := by
  rw [ByteArray.toList_eq, ByteArray.toList_eq]
  by_cases h : s = u
  · subst h; simp
  · have : s.data ≠ u.data := fun hh => h (ByteArray.ext hh)
    simp [h, this]
theorem pur_seql {s u : ByteArray} : pur P (binS .eql t x y (.string s) (.string u)) k = k (.bool (decide (s = u))) := pur_eq fun w => by simp [binS, eqG_str, binOp, Op.stringOp, strEq]
theorem pur_sneq {s u : ByteArray} : pur P (binS .neq t x y (.string s) (.string u)) k = k (.bool (decide (s ≠ u))) := pur_eq fun w => by simp [binS, eqG_str, binOp, Op.stringOp, strEq]
theorem pur_max {ts : Array TypeId} {ty : TypeId} : pur P (Builtin.max_ ts ty #[.int kd a, .int kd b]) k = k (.int kd (max a b)) := pur_eq fun w => by
  simp [Builtin.max_, Builtin.max2, Int.max_def]; split <;> split <;> first | rfl | (congr 1; omega) | omega
theorem pur_min {ts : Array TypeId} {ty : TypeId} : pur P (Builtin.min_ ts ty #[.int kd a, .int kd b]) k = k (.int kd (min a b)) := pur_eq fun w => by
  simp [Builtin.min_, Builtin.min2, Int.min_def]; split <;> split <;> first | rfl | (congr 1; omega) | omega
theorem wrap_id {n : Int} (h : -9223372036854775808 ≤ n) (h' : n ≤ 9223372036854775807) : IntKind.i64.wrap n = n := by
  simp only [IntKind.wrap, IntKind.signed, IntKind.bits]
  simp
  omega
end ints

/-! ### memory -/

def siz (w : World) : Nat := w.heap.size
def blk (w : World) (b : Nat) : Option Obj := w.heap[b]?
def celO (x : Option Obj) (o : Nat) : Option Value :=
  match x with
  | some (.cells c _ _) => c[o]?
  | _ => none
def cel (w : World) (b o : Nat) : Option Value := celO (blk w b) o
/-- A block of cells none of which is frozen. -/
def freeO (x : Option Obj) : Bool :=
  match x with
  | some (.cells _ _ (lo, hi)) => Nat.beq lo 0 && Nat.beq hi 0
  | _ => false
def fre (w : World) (b : Nat) : Bool := freeO (blk w b)
def one : Value → Bool
  | .agg _ | .tuple _ => false
  | _ => true
theorem one_int {k : IntKind} {n : Int} : one (.int k n) = true := (Eq.refl _).trans rfl
theorem one_ptr {a : Option Addr} : one (.pointer a) = true := (Eq.refl _).trans rfl
theorem one_str {s : ByteArray} : one (.string s) = true := (Eq.refl _).trans rfl
theorem one_bool {b : Bool} : one (.bool b) = true := (Eq.refl _).trans rfl
theorem one_map {r : Option Nat} : one (.map r) = true := (Eq.refl _).trans rfl
theorem one_slice {a : Option Addr} {n c : Nat} : one (.slice a n c) = true := (Eq.refl _).trans rfl
def sto (w : World) (b o : Nat) (v : Value) : World := w.setCell ⟨b, o, none⟩ v

theorem cell_cel (b o : Nat) : w.cell? ⟨b, o, none⟩ = cel w b o := by
  simp only [World.cell?, cel, celO, blk]
  cases h : w.heap[b]? with
  | none => rfl
  | some x => cases x <;> rfl

theorem frozen_fre {b o : Nat} (h : fre w b = true) : w.frozen? ⟨b, o, none⟩ = false := by
  simp only [World.frozen?, fre, freeO, blk] at *
  cases hb : w.heap[b]? with
  | none => rfl
  | some x =>
    rw [hb] at h
    cases x <;> first | rfl | skip
    rename_i c e fz
    obtain ⟨lo, hi⟩ := fz
    simp only [Bool.and_eq_true] at h
    have h1 := Nat.eq_of_beq_eq_true h.1
    have h2 := Nat.eq_of_beq_eq_true h.2
    subst h1; subst h2
    simp

theorem siz_sto {b o : Nat} {v : Value} : siz (sto w b o v) = siz w := by simp [siz, sto, World.setCell]
theorem siz_drew : siz w.drew = siz w := rfl
theorem siz_alloc {o : Obj} : siz (w.alloc o) = siz w + 1 := World.size_alloc _ _
theorem blk_drew {b : Nat} : blk w.drew b = blk w b := rfl
theorem cel_drew {b o : Nat} : cel w.drew b o = cel w b o := rfl
theorem fre_drew {b : Nat} : fre w.drew b = fre w b := rfl
theorem blk_alloc {b : Nat} {o : Obj} : blk (w.alloc o) b = if b = siz w then some o else blk w b := by
  show (w.heap.push o)[b]? = _
  rw [Array.getElem?_push]; rfl
theorem blk_alloc_old {b : Nat} {o : Obj} (h : b < siz w) : blk (w.alloc o) b = blk w b := by rw [blk_alloc, if_neg (by omega)]
theorem blk_alloc_new {o : Obj} : blk (w.alloc o) (siz w) = some o := by rw [blk_alloc, if_pos rfl]
theorem cel_alloc_old {b i : Nat} {o : Obj} (h : b < siz w) : cel (w.alloc o) b i = cel w b i := by rw [cel, blk_alloc_old h]; rfl
theorem fre_alloc_old {b : Nat} {o : Obj} (h : b < siz w) : fre (w.alloc o) b = fre w b := by rw [fre, blk_alloc_old h]; rfl
theorem cel_alloc_new {c : Array Value} {t : TypeId} {fz : Nat × Nat} {i : Nat} : cel (w.alloc (.cells c t fz)) (siz w) i = c[i]? := by rw [cel, blk_alloc_new]; rfl
theorem fre_alloc_new {c : Array Value} {t : TypeId} : fre (w.alloc (.cells c t)) (siz w) = true := by rw [fre, blk_alloc_new]; rfl
theorem blk_lt {b : Nat} {o : Obj} (h : blk w b = some o) : b < siz w := by
  simp only [blk] at h; exact (Array.getElem?_eq_some_iff.1 h).1
theorem cel_lt {b o : Nat} {v : Value} (h : cel w b o = some v) : b < siz w := by
  simp only [cel, celO] at h
  cases hb : blk w b with
  | none => rw [hb] at h; cases h
  | some x => exact blk_lt hb
theorem fre_lt {b : Nat} (h : fre w b = true) : b < siz w := by
  simp only [fre, freeO] at h
  cases hb : blk w b with
  | none => rw [hb] at h; cases h
  | some x => exact blk_lt hb

theorem blk_sto_ne {b b' o : Nat} {v : Value} (h : b' ≠ b) : blk (sto w b o v) b' = blk w b' := by
  simp only [blk, sto, World.setCell, Array.getElem?_modify]
  rw [if_neg (fun hh => h hh.symm)]
theorem cel_sto {b o b' o' : Nat} {v : Value} (h : (cel w b o).isSome = true) : cel (sto w b o v) b' o' = if b' = b ∧ o' = o then some v else cel w b' o' := by
  by_cases hb : b' = b
  · subst hb
    simp only [cel, celO, blk, sto, World.setCell, Array.getElem?_modify, if_true, true_and] at *
    cases hx : w.heap[b']? with
    | none => rw [hx] at h; cases h
    | some x =>
      rw [hx] at h
      cases x <;> simp only [Option.map_some, Option.isSome_none, Bool.false_eq_true] at h ⊢
      rename_i c e fz
      obtain ⟨u, hu⟩ := Option.isSome_iff_exists.1 h
      have hlt := (Array.getElem?_eq_some_iff.1 hu).1
      by_cases ho : o' = o
      · subst ho; simp [hlt]
      · simp only [if_false, ho]
        rw [Array.getElem?_setIfInBounds_ne (fun hh => ho hh.symm)]
  · rw [cel, blk_sto_ne hb, if_neg (by simp [hb])]; rfl
theorem cel_sto_same {b o : Nat} {v : Value} (h : (cel w b o).isSome = true) : cel (sto w b o v) b o = some v := by rw [cel_sto h, if_pos ⟨rfl, rfl⟩]
theorem cel_sto_ne {b o b' o' : Nat} {v : Value} (hn : ¬ (b' = b ∧ o' = o)) : cel (sto w b o v) b' o' = cel w b' o' := by
  by_cases h : (cel w b o).isSome = true
  · rw [cel_sto h, if_neg hn]
  · by_cases hb : b' = b
    · subst hb
      have ho : o' ≠ o := fun hh => hn ⟨rfl, hh⟩
      simp only [cel, celO, blk, sto, World.setCell, Array.getElem?_modify, if_true]
      cases hx : w.heap[b']? with
      | none => rfl
      | some x =>
        cases x <;> simp only [Option.map_some]
        rw [if_neg (by simp), Array.getElem?_setIfInBounds_ne (fun hh => ho hh.symm)]
    · rw [cel, blk_sto_ne hb]; rfl
theorem fre_sto {b o b' : Nat} {v : Value} : fre (sto w b o v) b' = fre w b' := by
  by_cases hb : b' = b
  · subst hb
    simp only [fre, freeO, blk, sto, World.setCell, Array.getElem?_modify, if_true]
    cases hx : w.heap[b']? with
    | none => rfl
    | some x => cases x <;> rfl
  · rw [fre, blk_sto_ne hb]; rfl

theorem run_load1 {t : TypeId} {b o : Nat} {v : Value} (ht : ∀ w, (isAgg t).run P w = .ok false w) (h : cel w b o = some v) : (Instr.loadAt t (.pointer (some ⟨b, o, none⟩))).run P w = .ok v w := by
  simp [Instr.loadAt, Instr.sureAddr, loadVar, ht, cell_cel, h]
theorem rd_load1 {t : TypeId} {b o : Nat} {k : Value → Prop} (ht : ∀ w, (isAgg t).run P w = .ok false w) (h : (cel w b o).isSome = true) :
    rd P (Instr.loadAt t (.pointer (some ⟨b, o, none⟩))) k w = k ((cel w b o).getD undef) := by
  obtain ⟨v, hv⟩ := Option.isSome_iff_exists.1 h
  rw [rd_eq (run_load1 ht hv), hv]; rfl

theorem get_isSome {x : Option Value} (h : x.isSome = true) : x = some (x.getD undef) := by cases x <;> first | rfl | cases h
theorem run_loadN {t n : Nat} {b o : Nat} (ht : ∀ w, (isAgg t).run P w = .ok true w) (hs : ∀ w, (sizeOf t).run P w = .ok n w) (f : Nat → Value) (h : ∀ j, j < n → cel w b (o + j) = some (f j)) :
    (Instr.loadAt t (.pointer (some ⟨b, o, none⟩))).run P w = .ok (.agg ((List.range n).map f).toArray) w := by
  have := run_loadCells (P := P) w ⟨b, o, none⟩ n f (fun j hj => by rw [Addr.add_lit, cell_cel]; exact h j hj)
  simp [Instr.loadAt, Instr.sureAddr, loadVar, ht, hs, this]
theorem agg_cells {c : Array Value} : (Value.agg c).cells = c := rfl
theorem one_cells {v : Value} (h : one v = true) : v.cells = #[v] := by cases v <;> first | rfl | cases h
theorem one_oneCell {v : Value} (h : one v = true) : v.oneCell' = true := by cases v <;> first | rfl | cases h

theorem run_sto {b o : Nat} {v : Value} (hv : one v = true) (h : (cel w b o).isSome = true) (hf : fre w b = true) : (store ⟨b, o, none⟩ v).run P w = .ok () (sto w b o v) := by
  obtain ⟨u, hu⟩ := Option.isSome_iff_exists.1 h
  rw [run_store P w _ v _ (one_oneCell hv), cell_cel, hu]
  simp [frozen_fre hf, sto]

theorem act_store1 {t : TypeId} {b o : Nat} {v : Value} {k : Value → World → Prop} (ht : ∀ w, (sizeOf t).run P w = .ok 1 w) (hv : one v = true) (h : (cel w b o).isSome = true) (hf : fre w b = true) :
    act P (thenU (Instr.storeAt t (.pointer (some ⟨b, o, none⟩)) v)) k w = k undef (sto w b o v) := by
  refine act_eq ?_
  have hs : (storeCells ⟨b, o, none⟩ v.cells.toList).run P w = .ok () (sto w b o v) := by
    rw [one_cells hv]
    simp [storeCells, Addr.add, run_sto hv h hf]
  simp [thenU, Instr.storeAt, Instr.sureAddr, storeVar, ht, one_cells hv]
  rw [one_cells hv] at hs
  simp only at hs
  rw [hs]; simp

/-- The cells from o on, one after the other. -/
def stoL (w : World) (b o : Nat) : List Value → World
  | [] => w
  | v :: l => stoL (sto w b o v) b (o + 1) l
theorem stoL_cons {b o : Nat} {v : Value} {l : List Value} : stoL w b o (v :: l) = stoL (sto w b o v) b (o + 1) l := rfl
theorem stoL_nil {b o : Nat} : stoL w b o [] = w := rfl
theorem run_storeL {b : Nat} : ∀ (l : List Value) (o i : Nat) (w : World), (∀ x ∈ l, one x = true) → (∀ j, j < l.length → (cel w b (o + i + j)).isSome = true) → fre w b = true →
    (storeCells ⟨b, o, none⟩ l i).run P w = .ok () (stoL w b (o + i) l)
  | [], o, i, w, _, _, _ => rfl
  | v :: l, o, i, w, hv, h, hf => by
    have h0 := h 0 (by simp)
    have h1 := run_sto (P := P) (w := w) (b := b) (o := o + i) (hv v (by simp)) (by simpa using h0) hf
    have ih := run_storeL l o (i + 1) (sto w b (o + i) v) (fun x hx => hv x (by simp [hx])) (fun j hj => by
      rw [cel_sto (by simpa using h0)]
      split
      · rfl
      · have := h (j + 1) (by simpa using hj); rwa [show o + i + (j + 1) = o + (i + 1) + j by omega] at this) (by rw [fre_sto]; exact hf)
    rw [storeCells, Sem.run_bind, Addr.add_lit, h1, Result.andThen_ok, ih]; rfl
theorem act_storeN {t b o : Nat} {l : List Value} {k : Value → World → Prop} (hs : ∀ w, (sizeOf t).run P w = .ok l.length w) (hv : ∀ x ∈ l, one x = true) (h : ∀ j, j < l.length → (cel w b (o + j)).isSome = true) (hf : fre w b = true) :
    act P (thenU (Instr.storeAt t (.pointer (some ⟨b, o, none⟩)) (.agg l.toArray))) k w = k undef (stoL w b o l) := by
  refine act_eq ?_
  have := run_storeL (P := P) (b := b) l o 0 w hv (by simpa using h) hf
  simp [thenU, Instr.storeAt, Instr.sureAddr, storeVar, hs, Value.cells, this]

theorem act_box {t : TypeId} {v : Value} {k : Value → World → Prop} : act P (Instr.box t v) k w = k (.pointer (some ⟨siz w, 0, none⟩)) (w.alloc (.cells v.cells t)) := act_eq (by simp [Instr.box, newVar, newRow]; rfl)
theorem act_makeMap {t : TypeId} {k : Value → World → Prop} : act P (Instr.makeMap t none) k w = k (.map (some (siz w))) (w.alloc (.map #[] 0)) := act_eq (by simp [Instr.makeMap]; rfl)

/-! ### what is kept -/

/-- All old blocks but those of F hold what they held; the streams are as they were. -/
structure Keep (F : Nat → Prop) (w w' : World) : Prop where
  os : w'.os = w.os
  tape : w'.tape = w.tape
  output : w'.output = w.output
  size : siz w ≤ siz w'
  block : ∀ b, b < siz w → ¬ F b → blk w' b = blk w b

theorem Keep.refl (F : Nat → Prop) (w : World) : Keep F w w := ⟨rfl, rfl, rfl, Nat.le_refl _, fun _ _ _ => rfl⟩
theorem Keep.mono {F F' : Nat → Prop} {w w' : World} (h : Keep F w w') (hF : ∀ b, b < siz w → F b → F' b) : Keep F' w w' :=
  ⟨h.os, h.tape, h.output, h.size, fun b hb hn => h.block b hb fun hf => hn (hF b hb hf)⟩
theorem Keep.trans {F : Nat → Prop} {w w' w'' : World} (h : Keep F w w') (h' : Keep F w' w'') : Keep F w w'' :=
  ⟨h'.os.trans h.os, h'.tape.trans h.tape, h'.output.trans h.output, Nat.le_trans h.size h'.size, fun b hb hn => (h'.block b (Nat.lt_of_lt_of_le hb h.size) hn).trans (h.block b hb hn)⟩
/-- The second step may write what the first one made. -/
theorem Keep.trans' {F G : Nat → Prop} {w w' w'' : World} (h : Keep F w w') (h' : Keep G w' w'') (hG : ∀ b, b < siz w → G b → F b) : Keep F w w'' :=
  ⟨h'.os.trans h.os, h'.tape.trans h.tape, h'.output.trans h.output, Nat.le_trans h.size h'.size, fun b hb hn => (h'.block b (Nat.lt_of_lt_of_le hb h.size) fun hg => hn (hG b hb hg)).trans (h.block b hb hn)⟩
theorem Keep.drew {F : Nat → Prop} {w w' : World} (h : Keep F w w') : Keep F w w'.drew := ⟨h.os, h.tape, h.output, h.size, h.block⟩
theorem Keep.alloc {F : Nat → Prop} {w w' : World} (h : Keep F w w') (o : Obj) : Keep F w (w'.alloc o) :=
  ⟨h.os, h.tape, h.output, by rw [siz_alloc]; have := h.size; omega, fun b hb hn => by rw [blk_alloc_old (Nat.lt_of_lt_of_le hb h.size)]; exact h.block b hb hn⟩
theorem Keep.sto {F : Nat → Prop} {w w' : World} (h : Keep F w w') {b : Nat} (hb : F b ∨ siz w ≤ b) (o : Nat) (v : Value) : Keep F w (sto w' b o v) :=
  ⟨h.os, h.tape, h.output, by rw [siz_sto]; exact h.size, fun b' hb' hn => by
    rw [blk_sto_ne (fun e => by subst e; rcases hb with hb | hb; exact hn hb; omega)]; exact h.block b' hb' hn⟩
/-- What was made is at or behind B. -/
theorem Keep.below {B : Nat} {w w' : World} (h : Keep (fun b => B ≤ b) w w') (hB : B = siz w) : RowKit.Below w.heap.size w w' :=
  ⟨h.os, h.tape, h.output, h.size, fun k hk => h.block k hk (by rw [hB]; exact Nat.not_le.2 hk)⟩
theorem Keep.none {F : Nat → Prop} {w w' : World} (h : Keep (fun _ => False) w w') : Keep F w w' := h.mono fun _ _ e => e.elim
theorem Keep.cel {F : Nat → Prop} {w w' : World} (h : Keep F w w') {b o : Nat} {v : Value} (hc : cel w b o = some v) (hn : ¬ F b) : cel w' b o = some v := by
  rw [Sh.cel, h.block b (cel_lt hc) hn]; exact hc
theorem Keep.fre {F : Nat → Prop} {w w' : World} (h : Keep F w w') {b : Nat} (hc : fre w b = true) (hn : ¬ F b) : fre w' b = true := by
  rw [Sh.fre, h.block b (fre_lt hc) hn]; exact hc
end
end Go.Sh
