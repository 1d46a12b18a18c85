/- The laws of the operations that stand in the readings, at this program's own types: printed by a program.
   Conditions: as each law says. -/
import Derived.Test.YtmegjkejinfpcaaShS
import Derived.Test.YtmegjkejinfpcaaS
set_option linter.unusedSimpArgs false
set_option linter.unusedVariables false
namespace Go.Proofs.Ytmegjkejinfpcaa
open Go.Sh
set_option maxRecDepth 100000
theorem fa_25_0 {b o : Nat} {k : Value → Prop} : pur Try.prog (Instr.fieldAt 25 (.pointer (some ⟨b, o, none⟩)) 0) k = k (.pointer (some ⟨b, o, none⟩)) := pur_eq fun _ => by kernel_rfl
theorem fa_25_1 {b o : Nat} {k : Value → Prop} : pur Try.prog (Instr.fieldAt 25 (.pointer (some ⟨b, o, none⟩)) 1) k = k (.pointer (some ⟨b, o + 1, none⟩)) := pur_eq fun _ => by kernel_rfl
theorem fa_27_0 {b o : Nat} {k : Value → Prop} : pur Try.prog (Instr.fieldAt 27 (.pointer (some ⟨b, o, none⟩)) 0) k = k (.pointer (some ⟨b, o, none⟩)) := pur_eq fun _ => by kernel_rfl
theorem fa_27_1 {b o : Nat} {k : Value → Prop} : pur Try.prog (Instr.fieldAt 27 (.pointer (some ⟨b, o, none⟩)) 1) k = k (.pointer (some ⟨b, o + 2, none⟩)) := pur_eq fun _ => by kernel_rfl
theorem fa_54_0 {b o : Nat} {k : Value → Prop} : pur Try.prog (Instr.fieldAt 54 (.pointer (some ⟨b, o, none⟩)) 0) k = k (.pointer (some ⟨b, o, none⟩)) := pur_eq fun _ => by kernel_rfl
theorem fa_54_1 {b o : Nat} {k : Value → Prop} : pur Try.prog (Instr.fieldAt 54 (.pointer (some ⟨b, o, none⟩)) 1) k = k (.pointer (some ⟨b, o + 2, none⟩)) := pur_eq fun _ => by kernel_rfl
theorem fa_60_0 {b o : Nat} {k : Value → Prop} : pur Try.prog (Instr.fieldAt 60 (.pointer (some ⟨b, o, none⟩)) 0) k = k (.pointer (some ⟨b, o, none⟩)) := pur_eq fun _ => by kernel_rfl
theorem fa_60_1 {b o : Nat} {k : Value → Prop} : pur Try.prog (Instr.fieldAt 60 (.pointer (some ⟨b, o, none⟩)) 1) k = k (.pointer (some ⟨b, o + 2, none⟩)) := pur_eq fun _ => by kernel_rfl
theorem fa_68_0 {b o : Nat} {k : Value → Prop} : pur Try.prog (Instr.fieldAt 68 (.pointer (some ⟨b, o, none⟩)) 0) k = k (.pointer (some ⟨b, o, none⟩)) := pur_eq fun _ => by kernel_rfl
theorem ld_3 {w : World} {b o : Nat} {k : Value → Prop} (h : (cel w b o).isSome = true) : rd Try.prog (Instr.loadAt 3 (.pointer (some ⟨b, o, none⟩))) k w = k ((cel w b o).getD undef) := rd_load1 (fun w => Try.isAgg3 w) h
theorem rl_3 {w : World} {b o : Nat} {v : Value} (h : cel w b o = some v) : (Instr.loadAt 3 (.pointer (some ⟨b, o, none⟩))).run Try.prog w = .ok v w := run_load1 (fun w => Try.isAgg3 w) h
theorem ld_9 {w : World} {b o : Nat} {k : Value → Prop} (h : (cel w b o).isSome = true) : rd Try.prog (Instr.loadAt 9 (.pointer (some ⟨b, o, none⟩))) k w = k ((cel w b o).getD undef) := rd_load1 (fun w => Try.isAgg9 w) h
theorem rl_9 {w : World} {b o : Nat} {v : Value} (h : cel w b o = some v) : (Instr.loadAt 9 (.pointer (some ⟨b, o, none⟩))).run Try.prog w = .ok v w := run_load1 (fun w => Try.isAgg9 w) h
theorem ld_25 {w : World} {b o : Nat} {k : Value → Prop} (h0 : (cel w b o).isSome = true) (h1 : (cel w b (o + 1)).isSome = true) : rd Try.prog (Instr.loadAt 25 (.pointer (some ⟨b, o, none⟩))) k w = k (.agg #[(cel w b o).getD undef, (cel w b (o + 1)).getD undef]) :=
  rd_eq (run_loadN (n := 2) (fun w => Try.isAgg25 w) (fun w => Try.sizeOf25 w) (fun j => (cel w b (o + j)).getD undef) fun
    | 0, _ => by rw [show o + 0 = o from rfl]; exact get_isSome h0
    | 1, _ => by rw [show o + 1 = o + 1 from rfl]; exact get_isSome h1
    | j + 2, hj => absurd hj (by omega))
theorem ld_27 {w : World} {b o : Nat} {k : Value → Prop} (h0 : (cel w b o).isSome = true) (h1 : (cel w b (o + 1)).isSome = true) (h2 : (cel w b (o + 2)).isSome = true) : rd Try.prog (Instr.loadAt 27 (.pointer (some ⟨b, o, none⟩))) k w = k (.agg #[(cel w b o).getD undef, (cel w b (o + 1)).getD undef, (cel w b (o + 2)).getD undef]) :=
  rd_eq (run_loadN (n := 3) (fun w => Try.isAgg27 w) (fun w => Try.sizeOf27 w) (fun j => (cel w b (o + j)).getD undef) fun
    | 0, _ => by rw [show o + 0 = o from rfl]; exact get_isSome h0
    | 1, _ => by rw [show o + 1 = o + 1 from rfl]; exact get_isSome h1
    | 2, _ => by rw [show o + 2 = o + 2 from rfl]; exact get_isSome h2
    | j + 3, hj => absurd hj (by omega))
theorem ld_54 {w : World} {b o : Nat} {k : Value → Prop} (h0 : (cel w b o).isSome = true) (h1 : (cel w b (o + 1)).isSome = true) (h2 : (cel w b (o + 2)).isSome = true) : rd Try.prog (Instr.loadAt 54 (.pointer (some ⟨b, o, none⟩))) k w = k (.agg #[(cel w b o).getD undef, (cel w b (o + 1)).getD undef, (cel w b (o + 2)).getD undef]) :=
  rd_eq (run_loadN (n := 3) (fun w => Try.isAgg54 w) (fun w => Try.sizeOf54 w) (fun j => (cel w b (o + j)).getD undef) fun
    | 0, _ => by rw [show o + 0 = o from rfl]; exact get_isSome h0
    | 1, _ => by rw [show o + 1 = o + 1 from rfl]; exact get_isSome h1
    | 2, _ => by rw [show o + 2 = o + 2 from rfl]; exact get_isSome h2
    | j + 3, hj => absurd hj (by omega))
theorem ld_57 {w : World} {b o : Nat} {k : Value → Prop} (h : (cel w b o).isSome = true) : rd Try.prog (Instr.loadAt 57 (.pointer (some ⟨b, o, none⟩))) k w = k ((cel w b o).getD undef) := rd_load1 (fun w => Try.isAgg57 w) h
theorem rl_57 {w : World} {b o : Nat} {v : Value} (h : cel w b o = some v) : (Instr.loadAt 57 (.pointer (some ⟨b, o, none⟩))).run Try.prog w = .ok v w := run_load1 (fun w => Try.isAgg57 w) h
theorem ld_60 {w : World} {b o : Nat} {k : Value → Prop} (h0 : (cel w b o).isSome = true) (h1 : (cel w b (o + 1)).isSome = true) (h2 : (cel w b (o + 2)).isSome = true) : rd Try.prog (Instr.loadAt 60 (.pointer (some ⟨b, o, none⟩))) k w = k (.agg #[(cel w b o).getD undef, (cel w b (o + 1)).getD undef, (cel w b (o + 2)).getD undef]) :=
  rd_eq (run_loadN (n := 3) (fun w => Try.isAgg60 w) (fun w => Try.sizeOf60 w) (fun j => (cel w b (o + j)).getD undef) fun
    | 0, _ => by rw [show o + 0 = o from rfl]; exact get_isSome h0
    | 1, _ => by rw [show o + 1 = o + 1 from rfl]; exact get_isSome h1
    | 2, _ => by rw [show o + 2 = o + 2 from rfl]; exact get_isSome h2
    | j + 3, hj => absurd hj (by omega))
theorem ld_95 {w : World} {b o : Nat} {k : Value → Prop} (h : (cel w b o).isSome = true) : rd Try.prog (Instr.loadAt 95 (.pointer (some ⟨b, o, none⟩))) k w = k ((cel w b o).getD undef) := rd_load1 (fun w => Try.isAgg95 w) h
theorem rl_95 {w : World} {b o : Nat} {v : Value} (h : cel w b o = some v) : (Instr.loadAt 95 (.pointer (some ⟨b, o, none⟩))).run Try.prog w = .ok v w := run_load1 (fun w => Try.isAgg95 w) h
theorem st_3 {w : World} {b o : Nat} {v : Value} {k : Value → World → Prop} (hv : one v = true) (h : (cel w b o).isSome = true) (hf : fre w b = true) : act Try.prog (thenU (Instr.storeAt 3 (.pointer (some ⟨b, o, none⟩)) v)) k w = k undef (sto w b o v) := act_store1 (fun w => Try.sizeOf3 w) hv h hf
theorem st_25 {w : World} {b o : Nat} {x0 x1 : Value} {k : Value → World → Prop} (hv0 : one x0 = true) (hv1 : one x1 = true) (h0 : (cel w b o).isSome = true) (h1 : (cel w b (o + 1)).isSome = true) (hf : fre w b = true) : act Try.prog (thenU (Instr.storeAt 25 (.pointer (some ⟨b, o, none⟩)) (.agg #[x0, x1]))) k w = k undef (stoL w b o [x0, x1]) :=
  act_storeN (fun w => Try.sizeOf25 w) (by intro x hx; simp only [List.mem_cons, List.not_mem_nil, or_false] at hx; rcases hx with rfl | rfl <;> assumption) (fun
    | 0, _ => h0
    | 1, _ => h1
    | j + 2, hj => absurd hj (by simp)) hf
theorem st_27 {w : World} {b o : Nat} {x0 x1 x2 : Value} {k : Value → World → Prop} (hv0 : one x0 = true) (hv1 : one x1 = true) (hv2 : one x2 = true) (h0 : (cel w b o).isSome = true) (h1 : (cel w b (o + 1)).isSome = true) (h2 : (cel w b (o + 2)).isSome = true) (hf : fre w b = true) : act Try.prog (thenU (Instr.storeAt 27 (.pointer (some ⟨b, o, none⟩)) (.agg #[x0, x1, x2]))) k w = k undef (stoL w b o [x0, x1, x2]) :=
  act_storeN (fun w => Try.sizeOf27 w) (by intro x hx; simp only [List.mem_cons, List.not_mem_nil, or_false] at hx; rcases hx with rfl | rfl | rfl <;> assumption) (fun
    | 0, _ => h0
    | 1, _ => h1
    | 2, _ => h2
    | j + 3, hj => absurd hj (by simp)) hf
theorem st_54 {w : World} {b o : Nat} {x0 x1 x2 : Value} {k : Value → World → Prop} (hv0 : one x0 = true) (hv1 : one x1 = true) (hv2 : one x2 = true) (h0 : (cel w b o).isSome = true) (h1 : (cel w b (o + 1)).isSome = true) (h2 : (cel w b (o + 2)).isSome = true) (hf : fre w b = true) : act Try.prog (thenU (Instr.storeAt 54 (.pointer (some ⟨b, o, none⟩)) (.agg #[x0, x1, x2]))) k w = k undef (stoL w b o [x0, x1, x2]) :=
  act_storeN (fun w => Try.sizeOf54 w) (by intro x hx; simp only [List.mem_cons, List.not_mem_nil, or_false] at hx; rcases hx with rfl | rfl | rfl <;> assumption) (fun
    | 0, _ => h0
    | 1, _ => h1
    | 2, _ => h2
    | j + 3, hj => absurd hj (by simp)) hf
theorem st_57 {w : World} {b o : Nat} {v : Value} {k : Value → World → Prop} (hv : one v = true) (h : (cel w b o).isSome = true) (hf : fre w b = true) : act Try.prog (thenU (Instr.storeAt 57 (.pointer (some ⟨b, o, none⟩)) v)) k w = k undef (sto w b o v) := act_store1 (fun w => Try.sizeOf57 w) hv h hf
theorem st_60 {w : World} {b o : Nat} {x0 x1 x2 : Value} {k : Value → World → Prop} (hv0 : one x0 = true) (hv1 : one x1 = true) (hv2 : one x2 = true) (h0 : (cel w b o).isSome = true) (h1 : (cel w b (o + 1)).isSome = true) (h2 : (cel w b (o + 2)).isSome = true) (hf : fre w b = true) : act Try.prog (thenU (Instr.storeAt 60 (.pointer (some ⟨b, o, none⟩)) (.agg #[x0, x1, x2]))) k w = k undef (stoL w b o [x0, x1, x2]) :=
  act_storeN (fun w => Try.sizeOf60 w) (by intro x hx; simp only [List.mem_cons, List.not_mem_nil, or_false] at hx; rcases hx with rfl | rfl | rfl <;> assumption) (fun
    | 0, _ => h0
    | 1, _ => h1
    | 2, _ => h2
    | j + 3, hj => absurd hj (by simp)) hf
theorem st_95 {w : World} {b o : Nat} {v : Value} {k : Value → World → Prop} (hv : one v = true) (h : (cel w b o).isSome = true) (hf : fre w b = true) : act Try.prog (thenU (Instr.storeAt 95 (.pointer (some ⟨b, o, none⟩)) v)) k w = k undef (sto w b o v) := act_store1 (fun w => Try.sizeOf95 w) hv h hf
theorem al_3 {w : World} {k : Value → World → Prop} : act Try.prog (Instr.alloc 3 true (.tuple #[])) k w = k (.pointer (some ⟨siz w, 0, none⟩)) (w.alloc (.cells #[(.int .i64 0)] 3)) := act_eq (by kernel_rfl)
theorem al_25 {w : World} {k : Value → World → Prop} : act Try.prog (Instr.alloc 25 true (.tuple #[])) k w = k (.pointer (some ⟨siz w, 0, none⟩)) (w.alloc (.cells #[(.int .i64 0), (.int .i64 0)] 25)) := act_eq (by kernel_rfl)
theorem al_27 {w : World} {k : Value → World → Prop} : act Try.prog (Instr.alloc 27 true (.tuple #[])) k w = k (.pointer (some ⟨siz w, 0, none⟩)) (w.alloc (.cells #[(.int .i64 0), (.int .i64 0), (.int .i64 0)] 27)) := act_eq (by kernel_rfl)
theorem al_54 {w : World} {k : Value → World → Prop} : act Try.prog (Instr.alloc 54 true (.tuple #[])) k w = k (.pointer (some ⟨siz w, 0, none⟩)) (w.alloc (.cells #[(.int .i64 0), (.int .i64 0), (.int .i64 0)] 54)) := act_eq (by kernel_rfl)
theorem al_60 {w : World} {k : Value → World → Prop} : act Try.prog (Instr.alloc 60 true (.tuple #[])) k w = k (.pointer (some ⟨siz w, 0, none⟩)) (w.alloc (.cells #[(.int .i64 0), (.int .i64 0), (.int .i64 0)] 60)) := act_eq (by kernel_rfl)
theorem al_95 {w : World} {k : Value → World → Prop} : act Try.prog (Instr.alloc 95 true (.tuple #[])) k w = k (.pointer (some ⟨siz w, 0, none⟩)) (w.alloc (.cells #[(.int .u64 0)] 95)) := act_eq (by kernel_rfl)
theorem bd_25_ {k : Value → Prop}  : pur Try.prog (Instr.build 25 #[]) k = k (.agg #[(.int .i64 0), (.int .i64 0)]) :=
  pur_eq fun w => by simp [Instr.build, Instr.fill, agg_cells]
theorem bd_25_0_1 {a0 a1 : Value} {k : Value → Prop} (h0 : one a0 = true) (h1 : one a1 = true) : pur Try.prog (Instr.build 25 #[(0, a0), (1, a1)]) k = k (.agg #[a0, a1]) :=
  pur_eq fun w => by simp [Instr.build, Instr.fill, agg_cells, one_cells h0, one_cells h1]
theorem bd_25_1 {a1 : Value} {k : Value → Prop} (h1 : one a1 = true) : pur Try.prog (Instr.build 25 #[(1, a1)]) k = k (.agg #[(.int .i64 0), a1]) :=
  pur_eq fun w => by simp [Instr.build, Instr.fill, agg_cells, one_cells h1]
theorem bd_27_0_1 {a0_0 a0_1 a1 : Value} {k : Value → Prop} (h1 : one a1 = true) : pur Try.prog (Instr.build 27 #[(0, .agg #[a0_0, a0_1]), (1, a1)]) k = k (.agg #[a0_0, a0_1, a1]) :=
  pur_eq fun w => by simp [Instr.build, Instr.fill, agg_cells, one_cells h1]
theorem bd_54_0_1 {a0_0 a0_1 a1 : Value} {k : Value → Prop} (h1 : one a1 = true) : pur Try.prog (Instr.build 54 #[(0, .agg #[a0_0, a0_1]), (1, a1)]) k = k (.agg #[a0_0, a0_1, a1]) :=
  pur_eq fun w => by simp [Instr.build, Instr.fill, agg_cells, one_cells h1]
theorem bd_60_0_1 {a0_0 a0_1 a1 : Value} {k : Value → Prop} (h1 : one a1 = true) : pur Try.prog (Instr.build 60 #[(0, .agg #[a0_0, a0_1]), (1, a1)]) k = k (.agg #[a0_0, a0_1, a1]) :=
  pur_eq fun w => by simp [Instr.build, Instr.fill, agg_cells, one_cells h1]
theorem bd_68_ {k : Value → Prop}  : pur Try.prog (Instr.build 68 #[]) k = k (.agg #[(.slice none 0 0)]) :=
  pur_eq fun w => by simp [Instr.build, Instr.fill, agg_cells]
theorem be_4 {x y a b : Bool} {k : Value → Prop} : pur Try.prog (binS .eql 4 x y (.bool a) (.bool b)) k = k (.bool (a == b)) := pur_eq fun _ => run_beq (fun w => Try.runUnderlying4 w)
theorem pe0_43 {w : World} {x y : Bool} {k : Value → Prop} : rd Try.prog (binS .eql 43 x y (.pointer none) (.pointer none)) k w = k (.bool true) := rd_eq (run_peq_none (fun w => Try.runUnderlying43 w))
theorem pe1_43 {w : World} {x y : Bool} {a : Addr} {k : Value → Prop} : rd Try.prog (binS .eql 43 x y (.pointer (some a)) (.pointer none)) k w = k (.bool false) := rd_eq (run_peq_none (fun w => Try.runUnderlying43 w))
theorem pe2_43 {w : World} {x y : Bool} {b o b' o' : Nat} {k : Value → Prop} (h : fre w b = true) (h' : fre w b' = true) : rd Try.prog (binS .eql 43 x y (.pointer (some ⟨b, o, none⟩)) (.pointer (some ⟨b', o', none⟩))) k w = k (.bool (decide (b = b' ∧ o = o'))) := rd_eq (run_peq (fun w => Try.runUnderlying43 w) ⟨1, by decide, (fun w => Try.sizeOf68 w)⟩ h h')
theorem bn_4 {x y a b : Bool} {k : Value → Prop} : pur Try.prog (binS .neq 4 x y (.bool a) (.bool b)) k = k (.bool (a != b)) := pur_eq fun _ => run_bneq (fun w => Try.runUnderlying4 w)
theorem ln_9 {s : ByteArray} {k : Value → Prop} : pur Try.prog (Builtin.len_ #[9] 3 #[.string s]) k = k (.int .i64 s.size) := pur_eq fun _ => run_lenStr (fun w => Try.runUnderlying9 w)
theorem ln_22 {a : Option Addr} {n c : Nat} {k : Value → Prop} : pur Try.prog (Builtin.len_ #[22] 3 #[.slice a n c]) k = k (.int .i64 n) := pur_eq fun _ => run_lenSl (fun w => Try.runUnderlying22 w)
theorem ln_45 {a : Option Addr} {n c : Nat} {k : Value → Prop} : pur Try.prog (Builtin.len_ #[45] 3 #[.slice a n c]) k = k (.int .i64 n) := pur_eq fun _ => run_lenSl (fun w => Try.runUnderlying45 w)
theorem ln_57 {a : Option Addr} {n c : Nat} {k : Value → Prop} : pur Try.prog (Builtin.len_ #[57] 3 #[.slice a n c]) k = k (.int .i64 n) := pur_eq fun _ => run_lenSl (fun w => Try.runUnderlying57 w)
theorem ln_71 {a : Option Addr} {n c : Nat} {k : Value → Prop} : pur Try.prog (Builtin.len_ #[71] 3 #[.slice a n c]) k = k (.int .i64 n) := pur_eq fun _ => run_lenSl (fun w => Try.runUnderlying71 w)
theorem ln_103 {a : Option Addr} {n c : Nat} {k : Value → Prop} : pur Try.prog (Builtin.len_ #[103] 3 #[.slice a n c]) k = k (.int .i64 n) := pur_eq fun _ => run_lenSl (fun w => Try.runUnderlying103 w)
theorem ix_22 {b o n c i : Nat} {kd : IntKind} {k : Value → Prop} (h : i < n) : pur Try.prog (Instr.indexAt 22 (.slice (some ⟨b, o, none⟩) n c) (.int kd i)) k = k (.pointer (some ⟨b, o + i * 3, none⟩)) := pur_eq fun w => run_index (fun w => Try.runUnderlying22 w) (fun w => Try.sizeOf27 w) h
theorem ix_31 {b o n c i : Nat} {kd : IntKind} {k : Value → Prop} (h : i < n) : pur Try.prog (Instr.indexAt 31 (.slice (some ⟨b, o, none⟩) n c) (.int kd i)) k = k (.pointer (some ⟨b, o + i, none⟩)) := pur_eq fun w => (by have := run_index (kd := kd) (b := b) (o := o) (c := c) (w := w) (fun w => Try.runUnderlying31 w) (fun w => Try.sizeOf9 w) h; rwa [Nat.mul_one] at this)
theorem ix_45 {b o n c i : Nat} {kd : IntKind} {k : Value → Prop} (h : i < n) : pur Try.prog (Instr.indexAt 45 (.slice (some ⟨b, o, none⟩) n c) (.int kd i)) k = k (.pointer (some ⟨b, o + i * 3, none⟩)) := pur_eq fun w => run_index (fun w => Try.runUnderlying45 w) (fun w => Try.sizeOf54 w) h
theorem ix_57 {b o n c i : Nat} {kd : IntKind} {k : Value → Prop} (h : i < n) : pur Try.prog (Instr.indexAt 57 (.slice (some ⟨b, o, none⟩) n c) (.int kd i)) k = k (.pointer (some ⟨b, o + i * 3, none⟩)) := pur_eq fun w => run_index (fun w => Try.runUnderlying57 w) (fun w => Try.sizeOf60 w) h
theorem ix_71 {b o n c i : Nat} {kd : IntKind} {k : Value → Prop} (h : i < n) : pur Try.prog (Instr.indexAt 71 (.slice (some ⟨b, o, none⟩) n c) (.int kd i)) k = k (.pointer (some ⟨b, o + i * 2, none⟩)) := pur_eq fun w => run_index (fun w => Try.runUnderlying71 w) (fun w => Try.sizeOf25 w) h
theorem ix_103 {b o n c i : Nat} {kd : IntKind} {k : Value → Prop} (h : i < n) : pur Try.prog (Instr.indexAt 103 (.slice (some ⟨b, o, none⟩) n c) (.int kd i)) k = k (.pointer (some ⟨b, o + i, none⟩)) := pur_eq fun w => (by have := run_index (kd := kd) (b := b) (o := o) (c := c) (w := w) (fun w => Try.runUnderlying103 w) (fun w => Try.sizeOf3 w) h; rwa [Nat.mul_one] at this)
theorem slt_45 {b o n c j : Nat} {kd : IntKind} {k : Value → Prop} (h : j ≤ c) : pur Try.prog (Instr.sliceAt 45 (.slice (some ⟨b, o, none⟩) n c) none (some (.int kd j)) none) k = k (.slice (some ⟨b, o, none⟩) j c) := pur_eq fun w => run_sliceTo (fun w => Try.runUnderlying45 w) (fun w => Try.sizeOf54 w) h kd
theorem slt_71 {b o n c j : Nat} {kd : IntKind} {k : Value → Prop} (h : j ≤ c) : pur Try.prog (Instr.sliceAt 71 (.slice (some ⟨b, o, none⟩) n c) none (some (.int kd j)) none) k = k (.slice (some ⟨b, o, none⟩) j c) := pur_eq fun w => run_sliceTo (fun w => Try.runUnderlying71 w) (fun w => Try.sizeOf25 w) h kd
theorem bs_22 {w : World} {x0 x1 x2 : Value} {k : Value → World → Prop} : act Try.prog (Instr.buildSlice 22 1 #[(0, .agg #[x0, x1, x2])]) k w = k (.slice (some ⟨siz w, 0, none⟩) 1 1) (w.alloc (.cells #[x0, x1, x2] 27)) := act_eq (by simp [Instr.buildSlice, Instr.fill, agg_cells, newRow, siz, show Array.range 3 = #[0, 1, 2] from rfl])
theorem bs_45 {w : World} {x0 x1 x2 : Value} {k : Value → World → Prop} : act Try.prog (Instr.buildSlice 45 1 #[(0, .agg #[x0, x1, x2])]) k w = k (.slice (some ⟨siz w, 0, none⟩) 1 1) (w.alloc (.cells #[x0, x1, x2] 54)) := act_eq (by simp [Instr.buildSlice, Instr.fill, agg_cells, newRow, siz, show Array.range 3 = #[0, 1, 2] from rfl])
theorem bs_57 {w : World} {x0 x1 x2 : Value} {k : Value → World → Prop} : act Try.prog (Instr.buildSlice 57 1 #[(0, .agg #[x0, x1, x2])]) k w = k (.slice (some ⟨siz w, 0, none⟩) 1 1) (w.alloc (.cells #[x0, x1, x2] 60)) := act_eq (by simp [Instr.buildSlice, Instr.fill, agg_cells, newRow, siz, show Array.range 3 = #[0, 1, 2] from rfl])
theorem bs_71 {w : World} {x0 x1 : Value} {k : Value → World → Prop} : act Try.prog (Instr.buildSlice 71 1 #[(0, .agg #[x0, x1])]) k w = k (.slice (some ⟨siz w, 0, none⟩) 1 1) (w.alloc (.cells #[x0, x1] 25)) := act_eq (by simp [Instr.buildSlice, Instr.fill, agg_cells, newRow, siz, show Array.range 2 = #[0, 1] from rfl])
theorem bs2_103 {w : World} {v v' : Value} {k : Value → World → Prop} (hv : one v = true) (hv' : one v' = true) : act Try.prog (Instr.buildSlice 103 2 #[(0, v), (1, v')]) k w = k (.slice (some ⟨siz w, 0, none⟩) 2 2) (w.alloc (.cells #[v, v'] 3)) := act_buildSl2 (fun w => Try.runUnderlying103 w) (fun w => Try.sizeOf3 w) (fun w => Try.zeroValue3 w) hv hv' rfl
theorem cv_3_76 {kd : IntKind} {n : Int} {k : Value → Prop} : pur Try.prog (convert 3 76 (.int kd n)) k = k (.int .u64 (IntKind.u64.wrap n)) := pur_eq fun w => run_convInt (fun w => Try.runUnderlying3 w) (fun w => Try.runUnderlying76 w) w
theorem cv_3_95 {kd : IntKind} {n : Int} {k : Value → Prop} : pur Try.prog (convert 3 95 (.int kd n)) k = k (.int .u64 (IntKind.u64.wrap n)) := pur_eq fun w => run_convInt (fun w => Try.runUnderlying3 w) (fun w => Try.runUnderlying95 w) w
theorem cv_5_3 {kd : IntKind} {n : Int} {k : Value → Prop} : pur Try.prog (convert 5 3 (.int kd n)) k = k (.int .i64 (IntKind.i64.wrap n)) := pur_eq fun w => run_convInt (fun w => Try.runUnderlying5 w) (fun w => Try.runUnderlying3 w) w
theorem cv_76_3 {kd : IntKind} {n : Int} {k : Value → Prop} : pur Try.prog (convert 76 3 (.int kd n)) k = k (.int .i64 (IntKind.i64.wrap n)) := pur_eq fun w => run_convInt (fun w => Try.runUnderlying76 w) (fun w => Try.runUnderlying3 w) w
theorem cv_76_87 {kd : IntKind} {n : Int} {k : Value → Prop} : pur Try.prog (convert 76 87 (.int kd n)) k = k (.int .u32 (IntKind.u32.wrap n)) := pur_eq fun w => run_convInt (fun w => Try.runUnderlying76 w) (fun w => Try.runUnderlying87 w) w
theorem cv_87_5 {kd : IntKind} {n : Int} {k : Value → Prop} : pur Try.prog (convert 87 5 (.int kd n)) k = k (.int .u8 (IntKind.u8.wrap n)) := pur_eq fun w => run_convInt (fun w => Try.runUnderlying87 w) (fun w => Try.runUnderlying5 w) w
theorem cv_89_5 {kd : IntKind} {n : Int} {k : Value → Prop} : pur Try.prog (convert 89 5 (.int kd n)) k = k (.int .u8 (IntKind.u8.wrap n)) := pur_eq fun w => run_convInt (fun w => Try.runUnderlying89 w) (fun w => Try.runUnderlying5 w) w
theorem ap_22 {w : World} {base ty : Nat} {k : Value → World → Prop} {v : Value} {n : Nat} {xs : List Value} (hown : Own w base 27 3 v n xs) {b o m c : Nat} {news : List Value} (hl : news.length = m * 3) (hnews : ∀ j, j < m * 3 → cel w b (o + j) = news[j]?) (h1 : ∀ u ∈ news, one u = true)
    (hb : (n + m) * 24 ≤ 140737488355328) (hbase : base ≤ siz w) (hk : ∀ v' w', Own w' base 27 3 v' (n + m) (xs ++ news) → w.grownBy w' v.ownBlock → (∀ g, v'.ownBlock = some g → v.ownBlock = some g ∨ siz w ≤ g) → k v' w') :
    act Try.prog (Builtin.append_ #[22, 22] ty #[v, .slice (some ⟨b, o, none⟩) m c]) k w :=
  act_append (i := Try.t27) Try.underlying22 (by kernel_rfl) rfl rfl rfl rfl (by decide) hown hl hnews h1 hb (by unfold maxLen; omega) hbase hk
theorem pu_22 {w : World} {base ty : Nat} {k : Value → World → Prop} {v : Value} {n : Nat} {xs : List Value} {x0 x1 x2 : Value} (hown : Own w base 27 3 v n xs) (hx : ∀ u ∈ [x0, x1, x2], one u = true)
    (hb : (n + 1) * 24 ≤ 140737488355328) (hbase : base ≤ siz w) (hk : ∀ v' w', Own w' base 27 3 v' (n + 1) (xs ++ [x0, x1, x2]) → Keep (fun b => v.ownBlock = some b) w w' → (∀ g, v'.ownBlock = some g → v.ownBlock = some g ∨ siz w ≤ g) → k v' w') :
    act Try.prog (Builtin.append_ #[22, 22] ty #[v, .slice (some ⟨siz w, 0, none⟩) 1 1]) k (w.alloc (.cells #[x0, x1, x2] 27)) := by
  refine ap_22 (w := w.alloc _) (hown.keep ((Keep.refl (fun _ => False) w).alloc _) (fun _ _ => id)) (news := [x0, x1, x2]) rfl (fun j hj => ?_) hx hb (by rw [siz_alloc]; omega) fun v' w' ho hg hr => hk v' w' ho (((Keep.refl _ w).alloc _).grown hg (fun g hg' => .inl hg')) (fun g hg' => ?_)
  · rw [Nat.zero_add, cel_alloc_new]; simp [List.getElem?_toArray]
  · rcases hr g hg' with h | h
    · exact .inl h
    · rw [siz_alloc] at h; exact .inr (by omega)
theorem ap_45 {w : World} {base ty : Nat} {k : Value → World → Prop} {v : Value} {n : Nat} {xs : List Value} (hown : Own w base 54 3 v n xs) {b o m c : Nat} {news : List Value} (hl : news.length = m * 3) (hnews : ∀ j, j < m * 3 → cel w b (o + j) = news[j]?) (h1 : ∀ u ∈ news, one u = true)
    (hb : (n + m) * 24 ≤ 140737488355328) (hbase : base ≤ siz w) (hk : ∀ v' w', Own w' base 54 3 v' (n + m) (xs ++ news) → w.grownBy w' v.ownBlock → (∀ g, v'.ownBlock = some g → v.ownBlock = some g ∨ siz w ≤ g) → k v' w') :
    act Try.prog (Builtin.append_ #[45, 45] ty #[v, .slice (some ⟨b, o, none⟩) m c]) k w :=
  act_append (i := Try.t54) Try.underlying45 (by kernel_rfl) rfl rfl rfl rfl (by decide) hown hl hnews h1 hb (by unfold maxLen; omega) hbase hk
theorem pu_45 {w : World} {base ty : Nat} {k : Value → World → Prop} {v : Value} {n : Nat} {xs : List Value} {x0 x1 x2 : Value} (hown : Own w base 54 3 v n xs) (hx : ∀ u ∈ [x0, x1, x2], one u = true)
    (hb : (n + 1) * 24 ≤ 140737488355328) (hbase : base ≤ siz w) (hk : ∀ v' w', Own w' base 54 3 v' (n + 1) (xs ++ [x0, x1, x2]) → Keep (fun b => v.ownBlock = some b) w w' → (∀ g, v'.ownBlock = some g → v.ownBlock = some g ∨ siz w ≤ g) → k v' w') :
    act Try.prog (Builtin.append_ #[45, 45] ty #[v, .slice (some ⟨siz w, 0, none⟩) 1 1]) k (w.alloc (.cells #[x0, x1, x2] 54)) := by
  refine ap_45 (w := w.alloc _) (hown.keep ((Keep.refl (fun _ => False) w).alloc _) (fun _ _ => id)) (news := [x0, x1, x2]) rfl (fun j hj => ?_) hx hb (by rw [siz_alloc]; omega) fun v' w' ho hg hr => hk v' w' ho (((Keep.refl _ w).alloc _).grown hg (fun g hg' => .inl hg')) (fun g hg' => ?_)
  · rw [Nat.zero_add, cel_alloc_new]; simp [List.getElem?_toArray]
  · rcases hr g hg' with h | h
    · exact .inl h
    · rw [siz_alloc] at h; exact .inr (by omega)
theorem ap_57 {w : World} {base ty : Nat} {k : Value → World → Prop} {v : Value} {n : Nat} {xs : List Value} (hown : Own w base 60 3 v n xs) {b o m c : Nat} {news : List Value} (hl : news.length = m * 3) (hnews : ∀ j, j < m * 3 → cel w b (o + j) = news[j]?) (h1 : ∀ u ∈ news, one u = true)
    (hb : (n + m) * 24 ≤ 140737488355328) (hbase : base ≤ siz w) (hk : ∀ v' w', Own w' base 60 3 v' (n + m) (xs ++ news) → w.grownBy w' v.ownBlock → (∀ g, v'.ownBlock = some g → v.ownBlock = some g ∨ siz w ≤ g) → k v' w') :
    act Try.prog (Builtin.append_ #[57, 57] ty #[v, .slice (some ⟨b, o, none⟩) m c]) k w :=
  act_append (i := Try.t60) Try.underlying57 (by kernel_rfl) rfl rfl rfl rfl (by decide) hown hl hnews h1 hb (by unfold maxLen; omega) hbase hk
theorem pu_57 {w : World} {base ty : Nat} {k : Value → World → Prop} {v : Value} {n : Nat} {xs : List Value} {x0 x1 x2 : Value} (hown : Own w base 60 3 v n xs) (hx : ∀ u ∈ [x0, x1, x2], one u = true)
    (hb : (n + 1) * 24 ≤ 140737488355328) (hbase : base ≤ siz w) (hk : ∀ v' w', Own w' base 60 3 v' (n + 1) (xs ++ [x0, x1, x2]) → Keep (fun b => v.ownBlock = some b) w w' → (∀ g, v'.ownBlock = some g → v.ownBlock = some g ∨ siz w ≤ g) → k v' w') :
    act Try.prog (Builtin.append_ #[57, 57] ty #[v, .slice (some ⟨siz w, 0, none⟩) 1 1]) k (w.alloc (.cells #[x0, x1, x2] 60)) := by
  refine ap_57 (w := w.alloc _) (hown.keep ((Keep.refl (fun _ => False) w).alloc _) (fun _ _ => id)) (news := [x0, x1, x2]) rfl (fun j hj => ?_) hx hb (by rw [siz_alloc]; omega) fun v' w' ho hg hr => hk v' w' ho (((Keep.refl _ w).alloc _).grown hg (fun g hg' => .inl hg')) (fun g hg' => ?_)
  · rw [Nat.zero_add, cel_alloc_new]; simp [List.getElem?_toArray]
  · rcases hr g hg' with h | h
    · exact .inl h
    · rw [siz_alloc] at h; exact .inr (by omega)
theorem ap_71 {w : World} {base ty : Nat} {k : Value → World → Prop} {v : Value} {n : Nat} {xs : List Value} (hown : Own w base 25 2 v n xs) {b o m c : Nat} {news : List Value} (hl : news.length = m * 2) (hnews : ∀ j, j < m * 2 → cel w b (o + j) = news[j]?) (h1 : ∀ u ∈ news, one u = true)
    (hb : (n + m) * 16 ≤ 140737488355328) (hbase : base ≤ siz w) (hk : ∀ v' w', Own w' base 25 2 v' (n + m) (xs ++ news) → w.grownBy w' v.ownBlock → (∀ g, v'.ownBlock = some g → v.ownBlock = some g ∨ siz w ≤ g) → k v' w') :
    act Try.prog (Builtin.append_ #[71, 71] ty #[v, .slice (some ⟨b, o, none⟩) m c]) k w :=
  act_append (i := Try.t25) Try.underlying71 (by kernel_rfl) rfl rfl rfl rfl (by decide) hown hl hnews h1 hb (by unfold maxLen; omega) hbase hk
theorem pu_71 {w : World} {base ty : Nat} {k : Value → World → Prop} {v : Value} {n : Nat} {xs : List Value} {x0 x1 : Value} (hown : Own w base 25 2 v n xs) (hx : ∀ u ∈ [x0, x1], one u = true)
    (hb : (n + 1) * 16 ≤ 140737488355328) (hbase : base ≤ siz w) (hk : ∀ v' w', Own w' base 25 2 v' (n + 1) (xs ++ [x0, x1]) → Keep (fun b => v.ownBlock = some b) w w' → (∀ g, v'.ownBlock = some g → v.ownBlock = some g ∨ siz w ≤ g) → k v' w') :
    act Try.prog (Builtin.append_ #[71, 71] ty #[v, .slice (some ⟨siz w, 0, none⟩) 1 1]) k (w.alloc (.cells #[x0, x1] 25)) := by
  refine ap_71 (w := w.alloc _) (hown.keep ((Keep.refl (fun _ => False) w).alloc _) (fun _ _ => id)) (news := [x0, x1]) rfl (fun j hj => ?_) hx hb (by rw [siz_alloc]; omega) fun v' w' ho hg hr => hk v' w' ho (((Keep.refl _ w).alloc _).grown hg (fun g hg' => .inl hg')) (fun g hg' => ?_)
  · rw [Nat.zero_add, cel_alloc_new]; simp [List.getElem?_toArray]
  · rcases hr g hg' with h | h
    · exact .inl h
    · rw [siz_alloc] at h; exact .inr (by omega)
theorem eqIn_25 {d : Nat} {a0 b0 : Int} {a1 b1 : Int} {w : World} : (Op.equalIn (d + 2) 25 (.agg #[.int .i64 a0, .int .i64 a1]) (.agg #[.int .i64 b0, .int .i64 b1])).run Try.prog w = .ok (decide (a0 = b0) && decide (a1 = b1)) w := by
  unfold Op.equalIn
  rw [Sem.run_bind, Try.runUnderlying25]
  simp [show Try.prog.stoodInHeld 25 = false from by kernel_rfl, part_one (P := Try.prog) (fun w => Try.isAgg3 w), eqIn_int (P := Try.prog) (t := 3) (fun w => Try.runUnderlying3 w)]
  try (by_cases h0 : a0 = b0 <;> by_cases h1 : a1 = b1 <;> simp [h0, h1])
theorem eqIn_27 {d : Nat} {a0 b0 : Int} {a1 b1 : Int} {a2 b2 : Int} {w : World} : (Op.equalIn (d + 3) 27 (.agg #[.int .i64 a0, .int .i64 a1, .int .i64 a2]) (.agg #[.int .i64 b0, .int .i64 b1, .int .i64 b2])).run Try.prog w = .ok ((decide (a0 = b0) && decide (a1 = b1)) && decide (a2 = b2)) w := by
  unfold Op.equalIn
  rw [Sem.run_bind, Try.runUnderlying27]
  simp [show Try.prog.stoodInHeld 27 = false from by kernel_rfl, part_agg (P := Try.prog) (fun w => Try.isAgg25 w) (fun w => Try.sizeOf25 w), eqIn_25, part_one (P := Try.prog) (fun w => Try.isAgg3 w), eqIn_int (P := Try.prog) (t := 3) (fun w => Try.runUnderlying3 w)]
  try (by_cases h0 : a0 = b0 <;> by_cases h1 : a1 = b1 <;> by_cases h2 : a2 = b2 <;> simp [h0, h1, h2])
theorem se_27 {a0 b0 : Int} {a1 b1 : Int} {a2 b2 : Int} {x y : Bool} {w : World} {k : Value → Prop} : rd Try.prog (binS .eql 27 x y (.agg #[.int .i64 a0, .int .i64 a1, .int .i64 a2]) (.agg #[.int .i64 b0, .int .i64 b1, .int .i64 b2])) k w = k (.bool (((decide (a0 = b0) && decide (a1 = b1)) && decide (a2 = b2)))) := rd_eq (run_eqAgg (by kernel_rfl) (fun d w => eqIn_27 (d := d + 6)) w)
theorem sq_57 {w : World} {x y : Bool} {a : Option Addr} {n c : Nat} {k : Value → Prop} : rd Try.prog (binS .eql 57 x y (.slice a n c) (.slice none 0 0)) k w = k (.bool a.isNone) := rd_eq (run_sleq_none (fun w => Try.runUnderlying57 w))
theorem sq_71 {w : World} {x y : Bool} {a : Option Addr} {n c : Nat} {k : Value → Prop} : rd Try.prog (binS .eql 71 x y (.slice a n c) (.slice none 0 0)) k w = k (.bool a.isNone) := rd_eq (run_sleq_none (fun w => Try.runUnderlying71 w))
theorem sn_25 {a0 b0 : Int} {a1 b1 : Int} {x y : Bool} {w : World} {k : Value → Prop} : rd Try.prog (binS .neq 25 x y (.agg #[.int .i64 a0, .int .i64 a1]) (.agg #[.int .i64 b0, .int .i64 b1])) k w = k (.bool (!(decide (a0 = b0) && decide (a1 = b1)))) := rd_eq (run_neAgg (by kernel_rfl) (fun d w => eqIn_25 (d := d + 7)) w)
theorem sn_27 {a0 b0 : Int} {a1 b1 : Int} {a2 b2 : Int} {x y : Bool} {w : World} {k : Value → Prop} : rd Try.prog (binS .neq 27 x y (.agg #[.int .i64 a0, .int .i64 a1, .int .i64 a2]) (.agg #[.int .i64 b0, .int .i64 b1, .int .i64 b2])) k w = k (.bool (!((decide (a0 = b0) && decide (a1 = b1)) && decide (a2 = b2)))) := rd_eq (run_neAgg (by kernel_rfl) (fun d w => eqIn_27 (d := d + 6)) w)
theorem bz_22_1 {w : World} {x0_0 x0_1 x0_2 : Value} {k : Value → World → Prop}  : act Try.prog (Instr.buildSlice 22 1 #[(0, .agg #[x0_0, x0_1, x0_2])]) k w = k (.slice (some ⟨siz w, 0, none⟩) 1 1) (w.alloc (.cells #[x0_0, x0_1, x0_2] 27)) := act_eq (by simp [Instr.buildSlice, Try.runUnderlying22, Try.sizeOf27, Try.zeroValue27, Instr.fill, agg_cells, newRow, siz, show Array.range 3 = #[0, 1, 2] from rfl]; try rfl)
theorem bz_22_2 {w : World} {x0_0 x0_1 x0_2 x1_0 x1_1 x1_2 : Value} {k : Value → World → Prop}  : act Try.prog (Instr.buildSlice 22 2 #[(0, .agg #[x0_0, x0_1, x0_2]), (1, .agg #[x1_0, x1_1, x1_2])]) k w = k (.slice (some ⟨siz w, 0, none⟩) 2 2) (w.alloc (.cells #[x0_0, x0_1, x0_2, x1_0, x1_1, x1_2] 27)) := act_eq (by simp [Instr.buildSlice, Try.runUnderlying22, Try.sizeOf27, Try.zeroValue27, Instr.fill, agg_cells, newRow, siz, show Array.range 6 = #[0, 1, 2, 3, 4, 5] from rfl]; try rfl)
theorem bz_31_3 {w : World} {x0_0 x1_0 x2_0 : Value} {k : Value → World → Prop} (h0 : one x0_0 = true) (h1 : one x1_0 = true) (h2 : one x2_0 = true) : act Try.prog (Instr.buildSlice 31 3 #[(0, x0_0), (1, x1_0), (2, x2_0)]) k w = k (.slice (some ⟨siz w, 0, none⟩) 3 3) (w.alloc (.cells #[x0_0, x1_0, x2_0] 9)) := act_eq (by simp [Instr.buildSlice, Try.runUnderlying31, Try.sizeOf9, Try.zeroValue9, Instr.fill, agg_cells, newRow, siz, show Array.range 3 = #[0, 1, 2] from rfl, one_cells h0, one_cells h1, one_cells h2, one_cells (show one (.string ⟨#[]⟩) = true from rfl)]; try rfl)
theorem bz_45_1 {w : World} {x0_0 x0_1 x0_2 : Value} {k : Value → World → Prop}  : act Try.prog (Instr.buildSlice 45 1 #[(0, .agg #[x0_0, x0_1, x0_2])]) k w = k (.slice (some ⟨siz w, 0, none⟩) 1 1) (w.alloc (.cells #[x0_0, x0_1, x0_2] 54)) := act_eq (by simp [Instr.buildSlice, Try.runUnderlying45, Try.sizeOf54, Try.zeroValue54, Instr.fill, agg_cells, newRow, siz, show Array.range 3 = #[0, 1, 2] from rfl]; try rfl)
theorem bz_57_0 {w : World}  {k : Value → World → Prop}  : act Try.prog (Instr.buildSlice 57 0 #[]) k w = k (.slice (some ⟨siz w, 0, none⟩) 0 0) (w.alloc (.cells #[] 60)) := act_eq (by simp [Instr.buildSlice, Try.runUnderlying57, Try.sizeOf60, Try.zeroValue60, Instr.fill, agg_cells, newRow, siz, show Array.range 0 = #[] from rfl]; try rfl)
theorem bz_57_1 {w : World} {x0_0 x0_1 x0_2 : Value} {k : Value → World → Prop}  : act Try.prog (Instr.buildSlice 57 1 #[(0, .agg #[x0_0, x0_1, x0_2])]) k w = k (.slice (some ⟨siz w, 0, none⟩) 1 1) (w.alloc (.cells #[x0_0, x0_1, x0_2] 60)) := act_eq (by simp [Instr.buildSlice, Try.runUnderlying57, Try.sizeOf60, Try.zeroValue60, Instr.fill, agg_cells, newRow, siz, show Array.range 3 = #[0, 1, 2] from rfl]; try rfl)
theorem bz_71_0 {w : World}  {k : Value → World → Prop}  : act Try.prog (Instr.buildSlice 71 0 #[]) k w = k (.slice (some ⟨siz w, 0, none⟩) 0 0) (w.alloc (.cells #[] 25)) := act_eq (by simp [Instr.buildSlice, Try.runUnderlying71, Try.sizeOf25, Try.zeroValue25, Instr.fill, agg_cells, newRow, siz, show Array.range 0 = #[] from rfl]; try rfl)
theorem bz_71_1 {w : World} {x0_0 x0_1 : Value} {k : Value → World → Prop}  : act Try.prog (Instr.buildSlice 71 1 #[(0, .agg #[x0_0, x0_1])]) k w = k (.slice (some ⟨siz w, 0, none⟩) 1 1) (w.alloc (.cells #[x0_0, x0_1] 25)) := act_eq (by simp [Instr.buildSlice, Try.runUnderlying71, Try.sizeOf25, Try.zeroValue25, Instr.fill, agg_cells, newRow, siz, show Array.range 2 = #[0, 1] from rfl]; try rfl)
theorem bz_71_2 {w : World} {x0_0 x0_1 x1_0 x1_1 : Value} {k : Value → World → Prop}  : act Try.prog (Instr.buildSlice 71 2 #[(0, .agg #[x0_0, x0_1]), (1, .agg #[x1_0, x1_1])]) k w = k (.slice (some ⟨siz w, 0, none⟩) 2 2) (w.alloc (.cells #[x0_0, x0_1, x1_0, x1_1] 25)) := act_eq (by simp [Instr.buildSlice, Try.runUnderlying71, Try.sizeOf25, Try.zeroValue25, Instr.fill, agg_cells, newRow, siz, show Array.range 4 = #[0, 1, 2, 3] from rfl]; try rfl)
theorem bz_103_2 {w : World} {x0_0 x1_0 : Value} {k : Value → World → Prop} (h0 : one x0_0 = true) (h1 : one x1_0 = true) : act Try.prog (Instr.buildSlice 103 2 #[(0, x0_0), (1, x1_0)]) k w = k (.slice (some ⟨siz w, 0, none⟩) 2 2) (w.alloc (.cells #[x0_0, x1_0] 3)) := act_eq (by simp [Instr.buildSlice, Try.runUnderlying103, Try.sizeOf3, Try.zeroValue3, Instr.fill, agg_cells, newRow, siz, show Array.range 2 = #[0, 1] from rfl, one_cells h0, one_cells h1, one_cells (show one (.int .i64 0) = true from rfl)]; try rfl)
theorem slf_45 {b o n c i : Nat} {kd : IntKind} {k : Value → Prop} (h : i ≤ n) (hn : n ≤ c) : pur Try.prog (Instr.sliceAt 45 (.slice (some ⟨b, o, none⟩) n c) (some (.int kd i)) none none) k = k (.slice (some (if c = i then ⟨b, o, none⟩ else ⟨b, o + i * 3, none⟩)) (n - i) (c - i)) := pur_eq fun w => run_sliceFrom (fun w => Try.runUnderlying45 w) (fun w => Try.sizeOf54 w) h hn kd w
theorem slb_45 {b o n c i j : Nat} {kd kd' : IntKind} {k : Value → Prop} (h : i ≤ j) (h' : j ≤ c) : pur Try.prog (Instr.sliceAt 45 (.slice (some ⟨b, o, none⟩) n c) (some (.int kd i)) (some (.int kd' j)) none) k = k (.slice (some (if c = i then ⟨b, o, none⟩ else ⟨b, o + i * 3, none⟩)) (j - i) (c - i)) := pur_eq fun w => run_sliceAt (fun w => Try.runUnderlying45 w) (fun w => Try.sizeOf54 w) h h' kd kd'
theorem slt0_45 {kd : IntKind} {k : Value → Prop} : pur Try.prog (Instr.sliceAt 45 (.slice none 0 0) none (some (.int kd 0)) none) k = k (.slice none 0 0) := pur_eq fun w => run_sliceToNil (fun w => Try.runUnderlying45 w) (fun w => Try.sizeOf54 w) kd w
theorem slf0_45 {kd : IntKind} {k : Value → Prop} : pur Try.prog (Instr.sliceAt 45 (.slice none 0 0) (some (.int kd 0)) none none) k = k (.slice none 0 0) := pur_eq fun w => run_sliceNil (fun w => Try.runUnderlying45 w) (fun w => Try.sizeOf54 w) kd w
theorem slf_71 {b o n c i : Nat} {kd : IntKind} {k : Value → Prop} (h : i ≤ n) (hn : n ≤ c) : pur Try.prog (Instr.sliceAt 71 (.slice (some ⟨b, o, none⟩) n c) (some (.int kd i)) none none) k = k (.slice (some (if c = i then ⟨b, o, none⟩ else ⟨b, o + i * 2, none⟩)) (n - i) (c - i)) := pur_eq fun w => run_sliceFrom (fun w => Try.runUnderlying71 w) (fun w => Try.sizeOf25 w) h hn kd w
theorem slb_71 {b o n c i j : Nat} {kd kd' : IntKind} {k : Value → Prop} (h : i ≤ j) (h' : j ≤ c) : pur Try.prog (Instr.sliceAt 71 (.slice (some ⟨b, o, none⟩) n c) (some (.int kd i)) (some (.int kd' j)) none) k = k (.slice (some (if c = i then ⟨b, o, none⟩ else ⟨b, o + i * 2, none⟩)) (j - i) (c - i)) := pur_eq fun w => run_sliceAt (fun w => Try.runUnderlying71 w) (fun w => Try.sizeOf25 w) h h' kd kd'
theorem slt0_71 {kd : IntKind} {k : Value → Prop} : pur Try.prog (Instr.sliceAt 71 (.slice none 0 0) none (some (.int kd 0)) none) k = k (.slice none 0 0) := pur_eq fun w => run_sliceToNil (fun w => Try.runUnderlying71 w) (fun w => Try.sizeOf25 w) kd w
theorem slf0_71 {kd : IntKind} {k : Value → Prop} : pur Try.prog (Instr.sliceAt 71 (.slice none 0 0) (some (.int kd 0)) none none) k = k (.slice none 0 0) := pur_eq fun w => run_sliceNil (fun w => Try.runUnderlying71 w) (fun w => Try.sizeOf25 w) kd w
theorem stn_3 {w : World} {z v : Value} {tt : TypeId} {k : Value → World → Prop} (hv : one v = true) : act Try.prog (thenU (Instr.storeAt 3 (.pointer (some ⟨siz w, 0, none⟩)) v)) k (w.alloc (.cells #[z] tt)) = k undef (w.alloc (.cells #[v] tt)) := act_store_new1 (fun w => Try.sizeOf3 w) hv
theorem stn_25 {w : World} {x0 x1 z0 z1 : Value} {tt : TypeId} {k : Value → World → Prop} (hv0 : one x0 = true) (hv1 : one x1 = true) : act Try.prog (thenU (Instr.storeAt 25 (.pointer (some ⟨siz w, 0, none⟩)) (.agg #[x0, x1]))) k (w.alloc (.cells #[z0, z1] tt)) = k undef (w.alloc (.cells #[x0, x1] tt)) := act_store_newN (l := [x0, x1]) (zs := [z0, z1]) (fun w => Try.sizeOf25 w) (by intro x hx; simp only [List.mem_cons, List.not_mem_nil, or_false] at hx; rcases hx with rfl | rfl <;> assumption) rfl
theorem stn_27 {w : World} {x0 x1 x2 z0 z1 z2 : Value} {tt : TypeId} {k : Value → World → Prop} (hv0 : one x0 = true) (hv1 : one x1 = true) (hv2 : one x2 = true) : act Try.prog (thenU (Instr.storeAt 27 (.pointer (some ⟨siz w, 0, none⟩)) (.agg #[x0, x1, x2]))) k (w.alloc (.cells #[z0, z1, z2] tt)) = k undef (w.alloc (.cells #[x0, x1, x2] tt)) := act_store_newN (l := [x0, x1, x2]) (zs := [z0, z1, z2]) (fun w => Try.sizeOf27 w) (by intro x hx; simp only [List.mem_cons, List.not_mem_nil, or_false] at hx; rcases hx with rfl | rfl | rfl <;> assumption) rfl
theorem stn_54 {w : World} {x0 x1 x2 z0 z1 z2 : Value} {tt : TypeId} {k : Value → World → Prop} (hv0 : one x0 = true) (hv1 : one x1 = true) (hv2 : one x2 = true) : act Try.prog (thenU (Instr.storeAt 54 (.pointer (some ⟨siz w, 0, none⟩)) (.agg #[x0, x1, x2]))) k (w.alloc (.cells #[z0, z1, z2] tt)) = k undef (w.alloc (.cells #[x0, x1, x2] tt)) := act_store_newN (l := [x0, x1, x2]) (zs := [z0, z1, z2]) (fun w => Try.sizeOf54 w) (by intro x hx; simp only [List.mem_cons, List.not_mem_nil, or_false] at hx; rcases hx with rfl | rfl | rfl <;> assumption) rfl
theorem stn_60 {w : World} {x0 x1 x2 z0 z1 z2 : Value} {tt : TypeId} {k : Value → World → Prop} (hv0 : one x0 = true) (hv1 : one x1 = true) (hv2 : one x2 = true) : act Try.prog (thenU (Instr.storeAt 60 (.pointer (some ⟨siz w, 0, none⟩)) (.agg #[x0, x1, x2]))) k (w.alloc (.cells #[z0, z1, z2] tt)) = k undef (w.alloc (.cells #[x0, x1, x2] tt)) := act_store_newN (l := [x0, x1, x2]) (zs := [z0, z1, z2]) (fun w => Try.sizeOf60 w) (by intro x hx; simp only [List.mem_cons, List.not_mem_nil, or_false] at hx; rcases hx with rfl | rfl | rfl <;> assumption) rfl
theorem stn_95 {w : World} {z v : Value} {tt : TypeId} {k : Value → World → Prop} (hv : one v = true) : act Try.prog (thenU (Instr.storeAt 95 (.pointer (some ⟨siz w, 0, none⟩)) v)) k (w.alloc (.cells #[z] tt)) = k undef (w.alloc (.cells #[v] tt)) := act_store_new1 (fun w => Try.sizeOf95 w) hv
theorem ap0_22 {w : World} {base ty : Nat} {k : Value → World → Prop} {v : Value} {n : Nat} {xs : List Value} (hown : Own w base 27 3 v n xs) {a : Option Addr} {c : Nat} : act Try.prog (Builtin.append_ #[22, 22] ty #[v, .slice a 0 c]) k w = k v w := act_append0 (fun w => Try.runUnderlying22 w) (fun w => Try.sizeOf27 w) hown
theorem ap0_45 {w : World} {base ty : Nat} {k : Value → World → Prop} {v : Value} {n : Nat} {xs : List Value} (hown : Own w base 54 3 v n xs) {a : Option Addr} {c : Nat} : act Try.prog (Builtin.append_ #[45, 45] ty #[v, .slice a 0 c]) k w = k v w := act_append0 (fun w => Try.runUnderlying45 w) (fun w => Try.sizeOf54 w) hown
theorem ap0_57 {w : World} {base ty : Nat} {k : Value → World → Prop} {v : Value} {n : Nat} {xs : List Value} (hown : Own w base 60 3 v n xs) {a : Option Addr} {c : Nat} : act Try.prog (Builtin.append_ #[57, 57] ty #[v, .slice a 0 c]) k w = k v w := act_append0 (fun w => Try.runUnderlying57 w) (fun w => Try.sizeOf60 w) hown
theorem ap0_71 {w : World} {base ty : Nat} {k : Value → World → Prop} {v : Value} {n : Nat} {xs : List Value} (hown : Own w base 25 2 v n xs) {a : Option Addr} {c : Nat} : act Try.prog (Builtin.append_ #[71, 71] ty #[v, .slice a 0 c]) k w = k v w := act_append0 (fun w => Try.runUnderlying71 w) (fun w => Try.sizeOf25 w) hown
end Go.Proofs.Ytmegjkejinfpcaa
