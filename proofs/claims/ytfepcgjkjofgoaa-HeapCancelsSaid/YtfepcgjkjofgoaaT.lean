/- The laws of the operations that stand in the readings, at this program's own types: printed by a program.
   Conditions: as each law says. -/
import Derived.Test.YtfepcgjkjofgoaaShQ
import Derived.Test.YtfepcgjkjofgoaaS
set_option linter.unusedSimpArgs false
set_option linter.unusedVariables false
namespace Go.Proofs.Ytfepcgjkjofgoaa
open Go.Sh
set_option maxRecDepth 100000
theorem fa_52_0 {b o : Nat} {k : Value → Prop} : pur Try.prog (Instr.fieldAt 52 (.pointer (some ⟨b, o, none⟩)) 0) k = k (.pointer (some ⟨b, o, none⟩)) := pur_eq fun _ => by kernel_rfl
theorem fa_52_1 {b o : Nat} {k : Value → Prop} : pur Try.prog (Instr.fieldAt 52 (.pointer (some ⟨b, o, none⟩)) 1) k = k (.pointer (some ⟨b, o + 1, none⟩)) := pur_eq fun _ => by kernel_rfl
theorem fa_52_2 {b o : Nat} {k : Value → Prop} : pur Try.prog (Instr.fieldAt 52 (.pointer (some ⟨b, o, none⟩)) 2) k = k (.pointer (some ⟨b, o + 2, none⟩)) := pur_eq fun _ => by kernel_rfl
theorem fa_55_0 {b o : Nat} {k : Value → Prop} : pur Try.prog (Instr.fieldAt 55 (.pointer (some ⟨b, o, none⟩)) 0) k = k (.pointer (some ⟨b, o, none⟩)) := pur_eq fun _ => by kernel_rfl
theorem fa_55_1 {b o : Nat} {k : Value → Prop} : pur Try.prog (Instr.fieldAt 55 (.pointer (some ⟨b, o, none⟩)) 1) k = k (.pointer (some ⟨b, o + 1, none⟩)) := pur_eq fun _ => by kernel_rfl
theorem fa_55_2 {b o : Nat} {k : Value → Prop} : pur Try.prog (Instr.fieldAt 55 (.pointer (some ⟨b, o, none⟩)) 2) k = k (.pointer (some ⟨b, o + 2, none⟩)) := pur_eq fun _ => by kernel_rfl
theorem fa_55_3 {b o : Nat} {k : Value → Prop} : pur Try.prog (Instr.fieldAt 55 (.pointer (some ⟨b, o, none⟩)) 3) k = k (.pointer (some ⟨b, o + 3, none⟩)) := pur_eq fun _ => by kernel_rfl
theorem fa_61_0 {b o : Nat} {k : Value → Prop} : pur Try.prog (Instr.fieldAt 61 (.pointer (some ⟨b, o, none⟩)) 0) k = k (.pointer (some ⟨b, o, none⟩)) := pur_eq fun _ => by kernel_rfl
theorem fa_61_1 {b o : Nat} {k : Value → Prop} : pur Try.prog (Instr.fieldAt 61 (.pointer (some ⟨b, o, none⟩)) 1) k = k (.pointer (some ⟨b, o + 1, none⟩)) := pur_eq fun _ => by kernel_rfl
theorem fa_61_2 {b o : Nat} {k : Value → Prop} : pur Try.prog (Instr.fieldAt 61 (.pointer (some ⟨b, o, none⟩)) 2) k = k (.pointer (some ⟨b, o + 2, none⟩)) := pur_eq fun _ => by kernel_rfl
theorem fa_64_0 {b o : Nat} {k : Value → Prop} : pur Try.prog (Instr.fieldAt 64 (.pointer (some ⟨b, o, none⟩)) 0) k = k (.pointer (some ⟨b, o, none⟩)) := pur_eq fun _ => by kernel_rfl
theorem fa_64_1 {b o : Nat} {k : Value → Prop} : pur Try.prog (Instr.fieldAt 64 (.pointer (some ⟨b, o, none⟩)) 1) k = k (.pointer (some ⟨b, o + 1, none⟩)) := pur_eq fun _ => by kernel_rfl
theorem fa_64_2 {b o : Nat} {k : Value → Prop} : pur Try.prog (Instr.fieldAt 64 (.pointer (some ⟨b, o, none⟩)) 2) k = k (.pointer (some ⟨b, o + 2, none⟩)) := pur_eq fun _ => by kernel_rfl
theorem fa_64_3 {b o : Nat} {k : Value → Prop} : pur Try.prog (Instr.fieldAt 64 (.pointer (some ⟨b, o, none⟩)) 3) k = k (.pointer (some ⟨b, o + 3, none⟩)) := pur_eq fun _ => by kernel_rfl
theorem ld_3 {w : World} {b o : Nat} {k : Value → Prop} (h : (cel w b o).isSome = true) : rd Try.prog (Instr.loadAt 3 (.pointer (some ⟨b, o, none⟩))) k w = k ((cel w b o).getD undef) := rd_load1 (fun w => Try.isAgg3 w) h
theorem rl_3 {w : World} {b o : Nat} {v : Value} (h : cel w b o = some v) : (Instr.loadAt 3 (.pointer (some ⟨b, o, none⟩))).run Try.prog w = .ok v w := run_load1 (fun w => Try.isAgg3 w) h
theorem ld_4 {w : World} {b o : Nat} {k : Value → Prop} (h : (cel w b o).isSome = true) : rd Try.prog (Instr.loadAt 4 (.pointer (some ⟨b, o, none⟩))) k w = k ((cel w b o).getD undef) := rd_load1 (fun w => Try.isAgg4 w) h
theorem rl_4 {w : World} {b o : Nat} {v : Value} (h : cel w b o = some v) : (Instr.loadAt 4 (.pointer (some ⟨b, o, none⟩))).run Try.prog w = .ok v w := run_load1 (fun w => Try.isAgg4 w) h
theorem ld_9 {w : World} {b o : Nat} {k : Value → Prop} (h : (cel w b o).isSome = true) : rd Try.prog (Instr.loadAt 9 (.pointer (some ⟨b, o, none⟩))) k w = k ((cel w b o).getD undef) := rd_load1 (fun w => Try.isAgg9 w) h
theorem rl_9 {w : World} {b o : Nat} {v : Value} (h : cel w b o = some v) : (Instr.loadAt 9 (.pointer (some ⟨b, o, none⟩))).run Try.prog w = .ok v w := run_load1 (fun w => Try.isAgg9 w) h
theorem ld_49 {w : World} {b o : Nat} {k : Value → Prop} (h : (cel w b o).isSome = true) : rd Try.prog (Instr.loadAt 49 (.pointer (some ⟨b, o, none⟩))) k w = k ((cel w b o).getD undef) := rd_load1 (fun w => Try.isAgg49 w) h
theorem rl_49 {w : World} {b o : Nat} {v : Value} (h : cel w b o = some v) : (Instr.loadAt 49 (.pointer (some ⟨b, o, none⟩))).run Try.prog w = .ok v w := run_load1 (fun w => Try.isAgg49 w) h
theorem ld_50 {w : World} {b o : Nat} {k : Value → Prop} (h : (cel w b o).isSome = true) : rd Try.prog (Instr.loadAt 50 (.pointer (some ⟨b, o, none⟩))) k w = k ((cel w b o).getD undef) := rd_load1 (fun w => Try.isAgg50 w) h
theorem rl_50 {w : World} {b o : Nat} {v : Value} (h : cel w b o = some v) : (Instr.loadAt 50 (.pointer (some ⟨b, o, none⟩))).run Try.prog w = .ok v w := run_load1 (fun w => Try.isAgg50 w) h
theorem ld_53 {w : World} {b o : Nat} {k : Value → Prop} (h : (cel w b o).isSome = true) : rd Try.prog (Instr.loadAt 53 (.pointer (some ⟨b, o, none⟩))) k w = k ((cel w b o).getD undef) := rd_load1 (fun w => Try.isAgg53 w) h
theorem rl_53 {w : World} {b o : Nat} {v : Value} (h : cel w b o = some v) : (Instr.loadAt 53 (.pointer (some ⟨b, o, none⟩))).run Try.prog w = .ok v w := run_load1 (fun w => Try.isAgg53 w) h
theorem ld_58 {w : World} {b o : Nat} {k : Value → Prop} (h : (cel w b o).isSome = true) : rd Try.prog (Instr.loadAt 58 (.pointer (some ⟨b, o, none⟩))) k w = k ((cel w b o).getD undef) := rd_load1 (fun w => Try.isAgg58 w) h
theorem rl_58 {w : World} {b o : Nat} {v : Value} (h : cel w b o = some v) : (Instr.loadAt 58 (.pointer (some ⟨b, o, none⟩))).run Try.prog w = .ok v w := run_load1 (fun w => Try.isAgg58 w) h
theorem ld_59 {w : World} {b o : Nat} {k : Value → Prop} (h : (cel w b o).isSome = true) : rd Try.prog (Instr.loadAt 59 (.pointer (some ⟨b, o, none⟩))) k w = k ((cel w b o).getD undef) := rd_load1 (fun w => Try.isAgg59 w) h
theorem rl_59 {w : World} {b o : Nat} {v : Value} (h : cel w b o = some v) : (Instr.loadAt 59 (.pointer (some ⟨b, o, none⟩))).run Try.prog w = .ok v w := run_load1 (fun w => Try.isAgg59 w) h
theorem ld_62 {w : World} {b o : Nat} {k : Value → Prop} (h : (cel w b o).isSome = true) : rd Try.prog (Instr.loadAt 62 (.pointer (some ⟨b, o, none⟩))) k w = k ((cel w b o).getD undef) := rd_load1 (fun w => Try.isAgg62 w) h
theorem rl_62 {w : World} {b o : Nat} {v : Value} (h : cel w b o = some v) : (Instr.loadAt 62 (.pointer (some ⟨b, o, none⟩))).run Try.prog w = .ok v w := run_load1 (fun w => Try.isAgg62 w) h
theorem ld_104 {w : World} {b o : Nat} {k : Value → Prop} (h : (cel w b o).isSome = true) : rd Try.prog (Instr.loadAt 104 (.pointer (some ⟨b, o, none⟩))) k w = k ((cel w b o).getD undef) := rd_load1 (fun w => Try.isAgg104 w) h
theorem rl_104 {w : World} {b o : Nat} {v : Value} (h : cel w b o = some v) : (Instr.loadAt 104 (.pointer (some ⟨b, o, none⟩))).run Try.prog w = .ok v w := run_load1 (fun w => Try.isAgg104 w) h
theorem st_3 {w : World} {b o : Nat} {v : Value} {k : Value → World → Prop} (hv : one v = true) (h : (cel w b o).isSome = true) (hf : fre w b = true) : act Try.prog (thenU (Instr.storeAt 3 (.pointer (some ⟨b, o, none⟩)) v)) k w = k undef (sto w b o v) := act_store1 (fun w => Try.sizeOf3 w) hv h hf
theorem st_4 {w : World} {b o : Nat} {v : Value} {k : Value → World → Prop} (hv : one v = true) (h : (cel w b o).isSome = true) (hf : fre w b = true) : act Try.prog (thenU (Instr.storeAt 4 (.pointer (some ⟨b, o, none⟩)) v)) k w = k undef (sto w b o v) := act_store1 (fun w => Try.sizeOf4 w) hv h hf
theorem st_49 {w : World} {b o : Nat} {v : Value} {k : Value → World → Prop} (hv : one v = true) (h : (cel w b o).isSome = true) (hf : fre w b = true) : act Try.prog (thenU (Instr.storeAt 49 (.pointer (some ⟨b, o, none⟩)) v)) k w = k undef (sto w b o v) := act_store1 (fun w => Try.sizeOf49 w) hv h hf
theorem st_50 {w : World} {b o : Nat} {v : Value} {k : Value → World → Prop} (hv : one v = true) (h : (cel w b o).isSome = true) (hf : fre w b = true) : act Try.prog (thenU (Instr.storeAt 50 (.pointer (some ⟨b, o, none⟩)) v)) k w = k undef (sto w b o v) := act_store1 (fun w => Try.sizeOf50 w) hv h hf
theorem st_53 {w : World} {b o : Nat} {v : Value} {k : Value → World → Prop} (hv : one v = true) (h : (cel w b o).isSome = true) (hf : fre w b = true) : act Try.prog (thenU (Instr.storeAt 53 (.pointer (some ⟨b, o, none⟩)) v)) k w = k undef (sto w b o v) := act_store1 (fun w => Try.sizeOf53 w) hv h hf
theorem st_58 {w : World} {b o : Nat} {v : Value} {k : Value → World → Prop} (hv : one v = true) (h : (cel w b o).isSome = true) (hf : fre w b = true) : act Try.prog (thenU (Instr.storeAt 58 (.pointer (some ⟨b, o, none⟩)) v)) k w = k undef (sto w b o v) := act_store1 (fun w => Try.sizeOf58 w) hv h hf
theorem st_59 {w : World} {b o : Nat} {v : Value} {k : Value → World → Prop} (hv : one v = true) (h : (cel w b o).isSome = true) (hf : fre w b = true) : act Try.prog (thenU (Instr.storeAt 59 (.pointer (some ⟨b, o, none⟩)) v)) k w = k undef (sto w b o v) := act_store1 (fun w => Try.sizeOf59 w) hv h hf
theorem st_62 {w : World} {b o : Nat} {v : Value} {k : Value → World → Prop} (hv : one v = true) (h : (cel w b o).isSome = true) (hf : fre w b = true) : act Try.prog (thenU (Instr.storeAt 62 (.pointer (some ⟨b, o, none⟩)) v)) k w = k undef (sto w b o v) := act_store1 (fun w => Try.sizeOf62 w) hv h hf
theorem st_104 {w : World} {b o : Nat} {v : Value} {k : Value → World → Prop} (hv : one v = true) (h : (cel w b o).isSome = true) (hf : fre w b = true) : act Try.prog (thenU (Instr.storeAt 104 (.pointer (some ⟨b, o, none⟩)) v)) k w = k undef (sto w b o v) := act_store1 (fun w => Try.sizeOf104 w) hv h hf
theorem al_3 {w : World} {k : Value → World → Prop} : act Try.prog (Instr.alloc 3 true (.tuple #[])) k w = k (.pointer (some ⟨siz w, 0, none⟩)) (w.alloc (.cells #[(.int .i64 0)] 3)) := act_eq (by kernel_rfl)
theorem al_104 {w : World} {k : Value → World → Prop} : act Try.prog (Instr.alloc 104 true (.tuple #[])) k w = k (.pointer (some ⟨siz w, 0, none⟩)) (w.alloc (.cells #[(.int .u64 0)] 104)) := act_eq (by kernel_rfl)
theorem bd_52_ {k : Value → Prop}  : pur Try.prog (Instr.build 52 #[]) k = k (.agg #[(.slice none 0 0), (.map none), (.int .i64 0)]) :=
  pur_eq fun w => by simp [Instr.build, Instr.fill, agg_cells]
theorem bd_55_0_1_2_3 {a0 a1 a2 a3 : Value} {k : Value → Prop} (h0 : one a0 = true) (h1 : one a1 = true) (h2 : one a2 = true) (h3 : one a3 = true) : pur Try.prog (Instr.build 55 #[(0, a0), (1, a1), (2, a2), (3, a3)]) k = k (.agg #[a0, a1, a2, a3]) :=
  pur_eq fun w => by simp [Instr.build, Instr.fill, agg_cells, one_cells h0, one_cells h1, one_cells h2, one_cells h3]
theorem bd_61_ {k : Value → Prop}  : pur Try.prog (Instr.build 61 #[]) k = k (.agg #[(.slice none 0 0), (.map none), (.int .i64 0)]) :=
  pur_eq fun w => by simp [Instr.build, Instr.fill, agg_cells]
theorem bd_64_0_1_2_3 {a0 a1 a2 a3 : Value} {k : Value → Prop} (h0 : one a0 = true) (h1 : one a1 = true) (h2 : one a2 = true) (h3 : one a3 = true) : pur Try.prog (Instr.build 64 #[(0, a0), (1, a1), (2, a2), (3, a3)]) k = k (.agg #[a0, a1, a2, a3]) :=
  pur_eq fun w => by simp [Instr.build, Instr.fill, agg_cells, one_cells h0, one_cells h1, one_cells h2, one_cells h3]
theorem pe0_24 {w : World} {x y : Bool} {k : Value → Prop} : rd Try.prog (binS .eql 24 x y (.pointer none) (.pointer none)) k w = k (.bool true) := rd_eq (run_peq_none (fun w => Try.runUnderlying24 w))
theorem pe1_24 {w : World} {x y : Bool} {a : Addr} {k : Value → Prop} : rd Try.prog (binS .eql 24 x y (.pointer (some a)) (.pointer none)) k w = k (.bool false) := rd_eq (run_peq_none (fun w => Try.runUnderlying24 w))
theorem pe2_24 {w : World} {x y : Bool} {b o b' o' : Nat} {k : Value → Prop} (h : fre w b = true) (h' : fre w b' = true) : rd Try.prog (binS .eql 24 x y (.pointer (some ⟨b, o, none⟩)) (.pointer (some ⟨b', o', none⟩))) k w = k (.bool (decide (b = b' ∧ o = o'))) := rd_eq (run_peq (fun w => Try.runUnderlying24 w) ⟨3, by decide, (fun w => Try.sizeOf52 w)⟩ h h')
theorem pe0_34 {w : World} {x y : Bool} {k : Value → Prop} : rd Try.prog (binS .eql 34 x y (.pointer none) (.pointer none)) k w = k (.bool true) := rd_eq (run_peq_none (fun w => Try.runUnderlying34 w))
theorem pe1_34 {w : World} {x y : Bool} {a : Addr} {k : Value → Prop} : rd Try.prog (binS .eql 34 x y (.pointer (some a)) (.pointer none)) k w = k (.bool false) := rd_eq (run_peq_none (fun w => Try.runUnderlying34 w))
theorem pe2_34 {w : World} {x y : Bool} {b o b' o' : Nat} {k : Value → Prop} (h : fre w b = true) (h' : fre w b' = true) : rd Try.prog (binS .eql 34 x y (.pointer (some ⟨b, o, none⟩)) (.pointer (some ⟨b', o', none⟩))) k w = k (.bool (decide (b = b' ∧ o = o'))) := rd_eq (run_peq (fun w => Try.runUnderlying34 w) ⟨3, by decide, (fun w => Try.sizeOf61 w)⟩ h h')
theorem me_50 {w : World} {x y : Bool} {a : Option Nat} {k : Value → Prop} : rd Try.prog (binS .eql 50 x y (.map a) (.map none)) k w = k (.bool a.isNone) := rd_eq (run_meq_none (fun w => Try.runUnderlying50 w))
theorem pe0_53 {w : World} {x y : Bool} {k : Value → Prop} : rd Try.prog (binS .eql 53 x y (.pointer none) (.pointer none)) k w = k (.bool true) := rd_eq (run_peq_none (fun w => Try.runUnderlying53 w))
theorem pe1_53 {w : World} {x y : Bool} {a : Addr} {k : Value → Prop} : rd Try.prog (binS .eql 53 x y (.pointer (some a)) (.pointer none)) k w = k (.bool false) := rd_eq (run_peq_none (fun w => Try.runUnderlying53 w))
theorem pe2_53 {w : World} {x y : Bool} {b o b' o' : Nat} {k : Value → Prop} (h : fre w b = true) (h' : fre w b' = true) : rd Try.prog (binS .eql 53 x y (.pointer (some ⟨b, o, none⟩)) (.pointer (some ⟨b', o', none⟩))) k w = k (.bool (decide (b = b' ∧ o = o'))) := rd_eq (run_peq (fun w => Try.runUnderlying53 w) ⟨4, by decide, (fun w => Try.sizeOf55 w)⟩ h h')
theorem me_59 {w : World} {x y : Bool} {a : Option Nat} {k : Value → Prop} : rd Try.prog (binS .eql 59 x y (.map a) (.map none)) k w = k (.bool a.isNone) := rd_eq (run_meq_none (fun w => Try.runUnderlying59 w))
theorem pe0_62 {w : World} {x y : Bool} {k : Value → Prop} : rd Try.prog (binS .eql 62 x y (.pointer none) (.pointer none)) k w = k (.bool true) := rd_eq (run_peq_none (fun w => Try.runUnderlying62 w))
theorem pe1_62 {w : World} {x y : Bool} {a : Addr} {k : Value → Prop} : rd Try.prog (binS .eql 62 x y (.pointer (some a)) (.pointer none)) k w = k (.bool false) := rd_eq (run_peq_none (fun w => Try.runUnderlying62 w))
theorem pe2_62 {w : World} {x y : Bool} {b o b' o' : Nat} {k : Value → Prop} (h : fre w b = true) (h' : fre w b' = true) : rd Try.prog (binS .eql 62 x y (.pointer (some ⟨b, o, none⟩)) (.pointer (some ⟨b', o', none⟩))) k w = k (.bool (decide (b = b' ∧ o = o'))) := rd_eq (run_peq (fun w => Try.runUnderlying62 w) ⟨4, by decide, (fun w => Try.sizeOf64 w)⟩ h h')
theorem bn_4 {x y a b : Bool} {k : Value → Prop} : pur Try.prog (binS .neq 4 x y (.bool a) (.bool b)) k = k (.bool (a != b)) := pur_eq fun _ => run_bneq (fun w => Try.runUnderlying4 w)
theorem ln_22 {a : Option Addr} {n c : Nat} {k : Value → Prop} : pur Try.prog (Builtin.len_ #[22] 3 #[.slice a n c]) k = k (.int .i64 n) := pur_eq fun _ => run_lenSl (fun w => Try.runUnderlying22 w)
theorem ln_42 {a : Option Addr} {n c : Nat} {k : Value → Prop} : pur Try.prog (Builtin.len_ #[42] 3 #[.slice a n c]) k = k (.int .i64 n) := pur_eq fun _ => run_lenSl (fun w => Try.runUnderlying42 w)
theorem ln_49 {a : Option Addr} {n c : Nat} {k : Value → Prop} : pur Try.prog (Builtin.len_ #[49] 3 #[.slice a n c]) k = k (.int .i64 n) := pur_eq fun _ => run_lenSl (fun w => Try.runUnderlying49 w)
theorem ln_58 {a : Option Addr} {n c : Nat} {k : Value → Prop} : pur Try.prog (Builtin.len_ #[58] 3 #[.slice a n c]) k = k (.int .i64 n) := pur_eq fun _ => run_lenSl (fun w => Try.runUnderlying58 w)
theorem ix_22 {b o n c i : Nat} {kd : IntKind} {k : Value → Prop} (h : i < n) : pur Try.prog (Instr.indexAt 22 (.slice (some ⟨b, o, none⟩) n c) (.int kd i)) k = k (.pointer (some ⟨b, o + i, none⟩)) := pur_eq fun w => (by have := run_index (kd := kd) (b := b) (o := o) (c := c) (w := w) (fun w => Try.runUnderlying22 w) (fun w => Try.sizeOf3 w) h; rwa [Nat.mul_one] at this)
theorem ix_31 {b o n c i : Nat} {kd : IntKind} {k : Value → Prop} (h : i < n) : pur Try.prog (Instr.indexAt 31 (.slice (some ⟨b, o, none⟩) n c) (.int kd i)) k = k (.pointer (some ⟨b, o + i, none⟩)) := pur_eq fun w => (by have := run_index (kd := kd) (b := b) (o := o) (c := c) (w := w) (fun w => Try.runUnderlying31 w) (fun w => Try.sizeOf4 w) h; rwa [Nat.mul_one] at this)
theorem ix_49 {b o n c i : Nat} {kd : IntKind} {k : Value → Prop} (h : i < n) : pur Try.prog (Instr.indexAt 49 (.slice (some ⟨b, o, none⟩) n c) (.int kd i)) k = k (.pointer (some ⟨b, o + i, none⟩)) := pur_eq fun w => (by have := run_index (kd := kd) (b := b) (o := o) (c := c) (w := w) (fun w => Try.runUnderlying49 w) (fun w => Try.sizeOf53 w) h; rwa [Nat.mul_one] at this)
theorem ix_58 {b o n c i : Nat} {kd : IntKind} {k : Value → Prop} (h : i < n) : pur Try.prog (Instr.indexAt 58 (.slice (some ⟨b, o, none⟩) n c) (.int kd i)) k = k (.pointer (some ⟨b, o + i, none⟩)) := pur_eq fun w => (by have := run_index (kd := kd) (b := b) (o := o) (c := c) (w := w) (fun w => Try.runUnderlying58 w) (fun w => Try.sizeOf62 w) h; rwa [Nat.mul_one] at this)
theorem slt_49 {b o n c j : Nat} {kd : IntKind} {k : Value → Prop} (h : j ≤ c) : pur Try.prog (Instr.sliceAt 49 (.slice (some ⟨b, o, none⟩) n c) none (some (.int kd j)) none) k = k (.slice (some ⟨b, o, none⟩) j c) := pur_eq fun w => run_sliceTo (fun w => Try.runUnderlying49 w) (fun w => Try.sizeOf53 w) h kd
theorem slt_58 {b o n c j : Nat} {kd : IntKind} {k : Value → Prop} (h : j ≤ c) : pur Try.prog (Instr.sliceAt 58 (.slice (some ⟨b, o, none⟩) n c) none (some (.int kd j)) none) k = k (.slice (some ⟨b, o, none⟩) j c) := pur_eq fun w => run_sliceTo (fun w => Try.runUnderlying58 w) (fun w => Try.sizeOf62 w) h kd
theorem bs_22 {w : World} {v : Value} {k : Value → World → Prop} (hv : one v = true) : act Try.prog (Instr.buildSlice 22 1 #[(0, v)]) k w = k (.slice (some ⟨siz w, 0, none⟩) 1 1) (w.alloc (.cells #[v] 3)) := act_buildSl1 (fun w => Try.runUnderlying22 w) (fun w => Try.sizeOf3 w) (fun w => Try.zeroValue3 w) hv
theorem bs2_22 {w : World} {v v' : Value} {k : Value → World → Prop} (hv : one v = true) (hv' : one v' = true) : act Try.prog (Instr.buildSlice 22 2 #[(0, v), (1, v')]) k w = k (.slice (some ⟨siz w, 0, none⟩) 2 2) (w.alloc (.cells #[v, v'] 3)) := act_buildSl2 (fun w => Try.runUnderlying22 w) (fun w => Try.sizeOf3 w) (fun w => Try.zeroValue3 w) hv hv' rfl
theorem bs2_37 {w : World} {v v' : Value} {k : Value → World → Prop} (hv : one v = true) (hv' : one v' = true) : act Try.prog (Instr.buildSlice 37 2 #[(0, v), (1, v')]) k w = k (.slice (some ⟨siz w, 0, none⟩) 2 2) (w.alloc (.cells #[v, v'] 5)) := act_buildSl2 (fun w => Try.runUnderlying37 w) (fun w => Try.sizeOf5 w) (fun w => Try.zeroValue5 w) hv hv' rfl
theorem bs_42 {w : World} {v : Value} {k : Value → World → Prop} (hv : one v = true) : act Try.prog (Instr.buildSlice 42 1 #[(0, v)]) k w = k (.slice (some ⟨siz w, 0, none⟩) 1 1) (w.alloc (.cells #[v] 9)) := act_buildSl1 (fun w => Try.runUnderlying42 w) (fun w => Try.sizeOf9 w) (fun w => Try.zeroValue9 w) hv
theorem bs_49 {w : World} {v : Value} {k : Value → World → Prop} (hv : one v = true) : act Try.prog (Instr.buildSlice 49 1 #[(0, v)]) k w = k (.slice (some ⟨siz w, 0, none⟩) 1 1) (w.alloc (.cells #[v] 53)) := act_buildSl1 (fun w => Try.runUnderlying49 w) (fun w => Try.sizeOf53 w) (fun w => Try.zeroValue53 w) hv
theorem bs_58 {w : World} {v : Value} {k : Value → World → Prop} (hv : one v = true) : act Try.prog (Instr.buildSlice 58 1 #[(0, v)]) k w = k (.slice (some ⟨siz w, 0, none⟩) 1 1) (w.alloc (.cells #[v] 62)) := act_buildSl1 (fun w => Try.runUnderlying58 w) (fun w => Try.sizeOf62 w) (fun w => Try.zeroValue62 w) hv
theorem mk_31 {w : World} {base n : Nat} {k : Value → World → Prop} (hc : n ≤ 1000000) (hbase : base ≤ siz w) (h : ∀ w', Own w' base 4 1 (.slice (some ⟨siz w, 0, none⟩) n n) n (List.replicate n (.bool false)) → Keep (fun _ => False) w w' → siz w < siz w' → k (.slice (some ⟨siz w, 0, none⟩) n n) w') :
    act Try.prog (Instr.makeSlice 31 (.int .i64 (n : Int)) (.int .i64 (n : Int))) k w := act_makeSl (i := Try.t4) Try.underlying31 (by kernel_rfl) rfl rfl hc (by decide) rfl hbase h
theorem ap_22 {w : World} {base ty : Nat} {k : Value → World → Prop} {v : Value} {n : Nat} {xs : List Value} (hown : Own w base 3 1 v n xs) {b o m c : Nat} {news : List Value} (hl : news.length = m * 1) (hnews : ∀ j, j < m * 1 → cel w b (o + j) = news[j]?) (h1 : ∀ u ∈ news, one u = true)
    (hb : (n + m) * 8 ≤ 140737488355328) (hbase : base ≤ siz w) (hk : ∀ v' w', Own w' base 3 1 v' (n + m) (xs ++ news) → w.grownBy w' v.ownBlock → (∀ g, v'.ownBlock = some g → v.ownBlock = some g ∨ siz w ≤ g) → k v' w') :
    act Try.prog (Builtin.append_ #[22, 22] ty #[v, .slice (some ⟨b, o, none⟩) m c]) k w :=
  act_append (i := Try.t3) Try.underlying22 (by kernel_rfl) rfl rfl rfl rfl (by decide) hown hl hnews h1 hb (by unfold maxLen; omega) hbase hk
theorem pu_22 {w : World} {base ty : Nat} {k : Value → World → Prop} {v : Value} {n : Nat} {xs : List Value} {x0 : Value} (hown : Own w base 3 1 v n xs) (hx : ∀ u ∈ [x0], one u = true)
    (hb : (n + 1) * 8 ≤ 140737488355328) (hbase : base ≤ siz w) (hk : ∀ v' w', Own w' base 3 1 v' (n + 1) (xs ++ [x0]) → Keep (fun b => v.ownBlock = some b) w w' → (∀ g, v'.ownBlock = some g → v.ownBlock = some g ∨ siz w ≤ g) → k v' w') :
    act Try.prog (Builtin.append_ #[22, 22] ty #[v, .slice (some ⟨siz w, 0, none⟩) 1 1]) k (w.alloc (.cells #[x0] 3)) := by
  refine ap_22 (w := w.alloc _) (hown.keep ((Keep.refl (fun _ => False) w).alloc _) (fun _ _ => id)) (news := [x0]) rfl (fun j hj => ?_) hx hb (by rw [siz_alloc]; omega) fun v' w' ho hg hr => hk v' w' ho (((Keep.refl _ w).alloc _).grown hg (fun g hg' => .inl hg')) (fun g hg' => ?_)
  · rw [Nat.zero_add, cel_alloc_new]; simp [List.getElem?_toArray]
  · rcases hr g hg' with h | h
    · exact .inl h
    · rw [siz_alloc] at h; exact .inr (by omega)
theorem ap_42 {w : World} {base ty : Nat} {k : Value → World → Prop} {v : Value} {n : Nat} {xs : List Value} (hown : Own w base 9 1 v n xs) {b o m c : Nat} {news : List Value} (hl : news.length = m * 1) (hnews : ∀ j, j < m * 1 → cel w b (o + j) = news[j]?) (h1 : ∀ u ∈ news, one u = true)
    (hb : (n + m) * 16 ≤ 140737488355328) (hbase : base ≤ siz w) (hk : ∀ v' w', Own w' base 9 1 v' (n + m) (xs ++ news) → w.grownBy w' v.ownBlock → (∀ g, v'.ownBlock = some g → v.ownBlock = some g ∨ siz w ≤ g) → k v' w') :
    act Try.prog (Builtin.append_ #[42, 42] ty #[v, .slice (some ⟨b, o, none⟩) m c]) k w :=
  act_append (i := Try.t9) Try.underlying42 (by kernel_rfl) rfl rfl rfl rfl (by decide) hown hl hnews h1 hb (by unfold maxLen; omega) hbase hk
theorem pu_42 {w : World} {base ty : Nat} {k : Value → World → Prop} {v : Value} {n : Nat} {xs : List Value} {x0 : Value} (hown : Own w base 9 1 v n xs) (hx : ∀ u ∈ [x0], one u = true)
    (hb : (n + 1) * 16 ≤ 140737488355328) (hbase : base ≤ siz w) (hk : ∀ v' w', Own w' base 9 1 v' (n + 1) (xs ++ [x0]) → Keep (fun b => v.ownBlock = some b) w w' → (∀ g, v'.ownBlock = some g → v.ownBlock = some g ∨ siz w ≤ g) → k v' w') :
    act Try.prog (Builtin.append_ #[42, 42] ty #[v, .slice (some ⟨siz w, 0, none⟩) 1 1]) k (w.alloc (.cells #[x0] 9)) := by
  refine ap_42 (w := w.alloc _) (hown.keep ((Keep.refl (fun _ => False) w).alloc _) (fun _ _ => id)) (news := [x0]) rfl (fun j hj => ?_) hx hb (by rw [siz_alloc]; omega) fun v' w' ho hg hr => hk v' w' ho (((Keep.refl _ w).alloc _).grown hg (fun g hg' => .inl hg')) (fun g hg' => ?_)
  · rw [Nat.zero_add, cel_alloc_new]; simp [List.getElem?_toArray]
  · rcases hr g hg' with h | h
    · exact .inl h
    · rw [siz_alloc] at h; exact .inr (by omega)
theorem ap_49 {w : World} {base ty : Nat} {k : Value → World → Prop} {v : Value} {n : Nat} {xs : List Value} (hown : Own w base 53 1 v n xs) {b o m c : Nat} {news : List Value} (hl : news.length = m * 1) (hnews : ∀ j, j < m * 1 → cel w b (o + j) = news[j]?) (h1 : ∀ u ∈ news, one u = true)
    (hb : (n + m) * 8 ≤ 140737488355328) (hbase : base ≤ siz w) (hk : ∀ v' w', Own w' base 53 1 v' (n + m) (xs ++ news) → w.grownBy w' v.ownBlock → (∀ g, v'.ownBlock = some g → v.ownBlock = some g ∨ siz w ≤ g) → k v' w') :
    act Try.prog (Builtin.append_ #[49, 49] ty #[v, .slice (some ⟨b, o, none⟩) m c]) k w :=
  act_append (i := Try.t53) Try.underlying49 (by kernel_rfl) rfl rfl rfl rfl (by decide) hown hl hnews h1 hb (by unfold maxLen; omega) hbase hk
theorem pu_49 {w : World} {base ty : Nat} {k : Value → World → Prop} {v : Value} {n : Nat} {xs : List Value} {x0 : Value} (hown : Own w base 53 1 v n xs) (hx : ∀ u ∈ [x0], one u = true)
    (hb : (n + 1) * 8 ≤ 140737488355328) (hbase : base ≤ siz w) (hk : ∀ v' w', Own w' base 53 1 v' (n + 1) (xs ++ [x0]) → Keep (fun b => v.ownBlock = some b) w w' → (∀ g, v'.ownBlock = some g → v.ownBlock = some g ∨ siz w ≤ g) → k v' w') :
    act Try.prog (Builtin.append_ #[49, 49] ty #[v, .slice (some ⟨siz w, 0, none⟩) 1 1]) k (w.alloc (.cells #[x0] 53)) := by
  refine ap_49 (w := w.alloc _) (hown.keep ((Keep.refl (fun _ => False) w).alloc _) (fun _ _ => id)) (news := [x0]) rfl (fun j hj => ?_) hx hb (by rw [siz_alloc]; omega) fun v' w' ho hg hr => hk v' w' ho (((Keep.refl _ w).alloc _).grown hg (fun g hg' => .inl hg')) (fun g hg' => ?_)
  · rw [Nat.zero_add, cel_alloc_new]; simp [List.getElem?_toArray]
  · rcases hr g hg' with h | h
    · exact .inl h
    · rw [siz_alloc] at h; exact .inr (by omega)
theorem ap_58 {w : World} {base ty : Nat} {k : Value → World → Prop} {v : Value} {n : Nat} {xs : List Value} (hown : Own w base 62 1 v n xs) {b o m c : Nat} {news : List Value} (hl : news.length = m * 1) (hnews : ∀ j, j < m * 1 → cel w b (o + j) = news[j]?) (h1 : ∀ u ∈ news, one u = true)
    (hb : (n + m) * 8 ≤ 140737488355328) (hbase : base ≤ siz w) (hk : ∀ v' w', Own w' base 62 1 v' (n + m) (xs ++ news) → w.grownBy w' v.ownBlock → (∀ g, v'.ownBlock = some g → v.ownBlock = some g ∨ siz w ≤ g) → k v' w') :
    act Try.prog (Builtin.append_ #[58, 58] ty #[v, .slice (some ⟨b, o, none⟩) m c]) k w :=
  act_append (i := Try.t62) Try.underlying58 (by kernel_rfl) rfl rfl rfl rfl (by decide) hown hl hnews h1 hb (by unfold maxLen; omega) hbase hk
theorem pu_58 {w : World} {base ty : Nat} {k : Value → World → Prop} {v : Value} {n : Nat} {xs : List Value} {x0 : Value} (hown : Own w base 62 1 v n xs) (hx : ∀ u ∈ [x0], one u = true)
    (hb : (n + 1) * 8 ≤ 140737488355328) (hbase : base ≤ siz w) (hk : ∀ v' w', Own w' base 62 1 v' (n + 1) (xs ++ [x0]) → Keep (fun b => v.ownBlock = some b) w w' → (∀ g, v'.ownBlock = some g → v.ownBlock = some g ∨ siz w ≤ g) → k v' w') :
    act Try.prog (Builtin.append_ #[58, 58] ty #[v, .slice (some ⟨siz w, 0, none⟩) 1 1]) k (w.alloc (.cells #[x0] 62)) := by
  refine ap_58 (w := w.alloc _) (hown.keep ((Keep.refl (fun _ => False) w).alloc _) (fun _ _ => id)) (news := [x0]) rfl (fun j hj => ?_) hx hb (by rw [siz_alloc]; omega) fun v' w' ho hg hr => hk v' w' ho (((Keep.refl _ w).alloc _).grown hg (fun g hg' => .inl hg')) (fun g hg' => ?_)
  · rw [Nat.zero_add, cel_alloc_new]; simp [List.getElem?_toArray]
  · rcases hr g hg' with h | h
    · exact .inl h
    · rw [siz_alloc] at h; exact .inr (by omega)
theorem ky_3 : Keys Try.prog 3 isI64 (.int .i64) := keys_int (fun w => Try.runUnderlying3 w)
theorem lun_50 {w : World} {k : Value} (hk : isI64 k) (c : Bool) : (Instr.lookup 50 (.map none) k c).run Try.prog w = .ok (if c then .tuple #[(.pointer none), .bool false] else (.pointer none)) w := run_lookup_nil ky_3 (fun w => Try.runUnderlying50 w) (fun w => Try.zeroValue53 w) hk c w
theorem lu_50 {w : World} {r : Nat} {l : List (Value × Value)} {k : Value} (hm : mp w r = some l) (hl : okKeys isI64 l) (hk : isI64 k) (c : Bool) :
    (Instr.lookup 50 (.map (some r)) k c).run Try.prog w = .ok (if c then .tuple #[(aget k l).getD (.pointer none), .bool (aget k l).isSome] else (aget k l).getD (.pointer none)) w := run_lookup ky_3 (fun w => Try.runUnderlying50 w) (fun w => Try.zeroValue53 w) hm hl hk c
theorem mu_50 {w : World} {r : Nat} {l : List (Value × Value)} {k v : Value} {Q : Value → World → Prop} (hm : mp w r = some l) (hl : okKeys isI64 l) (hk : isI64 k) (h : ∀ w', MapTo w w' r (aput k v l) → Q undef w') :
    act Try.prog (thenU (Instr.mapUpdate 50 (.map (some r)) k v)) Q w := act_mapUpdate ky_3 (fun w => Try.runUnderlying50 w) hm hl hk h
theorem md_50 {w : World} {r ty t2 : Nat} {l : List (Value × Value)} {k : Value} {Q : Value → World → Prop} (hm : mp w r = some l) (hl : okKeys isI64 l) (hk : isI64 k) (h : ∀ w', MapTo w w' r (adel k l) → Q (.tuple #[]) w') :
    act Try.prog (Builtin.delete_ #[50, t2] ty #[.map (some r), k]) Q w := act_delete ky_3 (fun w => Try.runUnderlying50 w) hm hl hk h
theorem lun_59 {w : World} {k : Value} (hk : isI64 k) (c : Bool) : (Instr.lookup 59 (.map none) k c).run Try.prog w = .ok (if c then .tuple #[(.pointer none), .bool false] else (.pointer none)) w := run_lookup_nil ky_3 (fun w => Try.runUnderlying59 w) (fun w => Try.zeroValue62 w) hk c w
theorem lu_59 {w : World} {r : Nat} {l : List (Value × Value)} {k : Value} (hm : mp w r = some l) (hl : okKeys isI64 l) (hk : isI64 k) (c : Bool) :
    (Instr.lookup 59 (.map (some r)) k c).run Try.prog w = .ok (if c then .tuple #[(aget k l).getD (.pointer none), .bool (aget k l).isSome] else (aget k l).getD (.pointer none)) w := run_lookup ky_3 (fun w => Try.runUnderlying59 w) (fun w => Try.zeroValue62 w) hm hl hk c
theorem mu_59 {w : World} {r : Nat} {l : List (Value × Value)} {k v : Value} {Q : Value → World → Prop} (hm : mp w r = some l) (hl : okKeys isI64 l) (hk : isI64 k) (h : ∀ w', MapTo w w' r (aput k v l) → Q undef w') :
    act Try.prog (thenU (Instr.mapUpdate 59 (.map (some r)) k v)) Q w := act_mapUpdate ky_3 (fun w => Try.runUnderlying59 w) hm hl hk h
theorem md_59 {w : World} {r ty t2 : Nat} {l : List (Value × Value)} {k : Value} {Q : Value → World → Prop} (hm : mp w r = some l) (hl : okKeys isI64 l) (hk : isI64 k) (h : ∀ w', MapTo w w' r (adel k l) → Q (.tuple #[]) w') :
    act Try.prog (Builtin.delete_ #[59, t2] ty #[.map (some r), k]) Q w := act_delete ky_3 (fun w => Try.runUnderlying59 w) hm hl hk h
end Go.Proofs.Ytfepcgjkjofgoaa
