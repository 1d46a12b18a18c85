/- The laws of the operations that stand in the readings, at this program's own types: printed by a program.
   Conditions: as each law says. -/
import Derived.Test.YtkdanklgcgjijaaShQ
import Derived.Test.YtkdanklgcgjijaaS
set_option linter.unusedSimpArgs false
set_option linter.unusedVariables false
namespace Go.Proofs.Ytkdanklgcgjijaa
open Go.Sh
theorem fa_53_0 {b o : Nat} {k : Value → Prop} : pur Try.prog (Instr.fieldAt 53 (.pointer (some ⟨b, o, none⟩)) 0) k = k (.pointer (some ⟨b, o, none⟩)) := pur_eq fun _ => by kernel_rfl
theorem fa_53_1 {b o : Nat} {k : Value → Prop} : pur Try.prog (Instr.fieldAt 53 (.pointer (some ⟨b, o, none⟩)) 1) k = k (.pointer (some ⟨b, o + 1, none⟩)) := pur_eq fun _ => by kernel_rfl
theorem fa_53_2 {b o : Nat} {k : Value → Prop} : pur Try.prog (Instr.fieldAt 53 (.pointer (some ⟨b, o, none⟩)) 2) k = k (.pointer (some ⟨b, o + 2, none⟩)) := pur_eq fun _ => by kernel_rfl
theorem fa_53_3 {b o : Nat} {k : Value → Prop} : pur Try.prog (Instr.fieldAt 53 (.pointer (some ⟨b, o, none⟩)) 3) k = k (.pointer (some ⟨b, o + 3, none⟩)) := pur_eq fun _ => by kernel_rfl
theorem fa_53_4 {b o : Nat} {k : Value → Prop} : pur Try.prog (Instr.fieldAt 53 (.pointer (some ⟨b, o, none⟩)) 4) k = k (.pointer (some ⟨b, o + 4, none⟩)) := pur_eq fun _ => by kernel_rfl
theorem fa_55_0 {b o : Nat} {k : Value → Prop} : pur Try.prog (Instr.fieldAt 55 (.pointer (some ⟨b, o, none⟩)) 0) k = k (.pointer (some ⟨b, o, none⟩)) := pur_eq fun _ => by kernel_rfl
theorem fa_55_1 {b o : Nat} {k : Value → Prop} : pur Try.prog (Instr.fieldAt 55 (.pointer (some ⟨b, o, none⟩)) 1) k = k (.pointer (some ⟨b, o + 1, none⟩)) := pur_eq fun _ => by kernel_rfl
theorem fa_55_2 {b o : Nat} {k : Value → Prop} : pur Try.prog (Instr.fieldAt 55 (.pointer (some ⟨b, o, none⟩)) 2) k = k (.pointer (some ⟨b, o + 6, none⟩)) := pur_eq fun _ => by kernel_rfl
theorem fa_62_0 {b o : Nat} {k : Value → Prop} : pur Try.prog (Instr.fieldAt 62 (.pointer (some ⟨b, o, none⟩)) 0) k = k (.pointer (some ⟨b, o, none⟩)) := pur_eq fun _ => by kernel_rfl
theorem fa_62_1 {b o : Nat} {k : Value → Prop} : pur Try.prog (Instr.fieldAt 62 (.pointer (some ⟨b, o, none⟩)) 1) k = k (.pointer (some ⟨b, o + 1, none⟩)) := pur_eq fun _ => by kernel_rfl
theorem fa_62_2 {b o : Nat} {k : Value → Prop} : pur Try.prog (Instr.fieldAt 62 (.pointer (some ⟨b, o, none⟩)) 2) k = k (.pointer (some ⟨b, o + 2, none⟩)) := pur_eq fun _ => by kernel_rfl
theorem fa_62_3 {b o : Nat} {k : Value → Prop} : pur Try.prog (Instr.fieldAt 62 (.pointer (some ⟨b, o, none⟩)) 3) k = k (.pointer (some ⟨b, o + 3, none⟩)) := pur_eq fun _ => by kernel_rfl
theorem fa_62_4 {b o : Nat} {k : Value → Prop} : pur Try.prog (Instr.fieldAt 62 (.pointer (some ⟨b, o, none⟩)) 4) k = k (.pointer (some ⟨b, o + 4, none⟩)) := pur_eq fun _ => by kernel_rfl
theorem fa_64_0 {b o : Nat} {k : Value → Prop} : pur Try.prog (Instr.fieldAt 64 (.pointer (some ⟨b, o, none⟩)) 0) k = k (.pointer (some ⟨b, o, none⟩)) := pur_eq fun _ => by kernel_rfl
theorem fa_64_1 {b o : Nat} {k : Value → Prop} : pur Try.prog (Instr.fieldAt 64 (.pointer (some ⟨b, o, none⟩)) 1) k = k (.pointer (some ⟨b, o + 1, none⟩)) := pur_eq fun _ => by kernel_rfl
theorem fa_64_2 {b o : Nat} {k : Value → Prop} : pur Try.prog (Instr.fieldAt 64 (.pointer (some ⟨b, o, none⟩)) 2) k = k (.pointer (some ⟨b, o + 6, none⟩)) := pur_eq fun _ => by kernel_rfl
theorem fa_71_0 {b o : Nat} {k : Value → Prop} : pur Try.prog (Instr.fieldAt 71 (.pointer (some ⟨b, o, none⟩)) 0) k = k (.pointer (some ⟨b, o, none⟩)) := pur_eq fun _ => by kernel_rfl
theorem fa_71_1 {b o : Nat} {k : Value → Prop} : pur Try.prog (Instr.fieldAt 71 (.pointer (some ⟨b, o, none⟩)) 1) k = k (.pointer (some ⟨b, o + 1, none⟩)) := pur_eq fun _ => by kernel_rfl
theorem fa_71_2 {b o : Nat} {k : Value → Prop} : pur Try.prog (Instr.fieldAt 71 (.pointer (some ⟨b, o, none⟩)) 2) k = k (.pointer (some ⟨b, o + 2, none⟩)) := pur_eq fun _ => by kernel_rfl
theorem fa_71_3 {b o : Nat} {k : Value → Prop} : pur Try.prog (Instr.fieldAt 71 (.pointer (some ⟨b, o, none⟩)) 3) k = k (.pointer (some ⟨b, o + 3, none⟩)) := pur_eq fun _ => by kernel_rfl
theorem fa_71_4 {b o : Nat} {k : Value → Prop} : pur Try.prog (Instr.fieldAt 71 (.pointer (some ⟨b, o, none⟩)) 4) k = k (.pointer (some ⟨b, o + 4, none⟩)) := pur_eq fun _ => by kernel_rfl
theorem fa_73_0 {b o : Nat} {k : Value → Prop} : pur Try.prog (Instr.fieldAt 73 (.pointer (some ⟨b, o, none⟩)) 0) k = k (.pointer (some ⟨b, o, none⟩)) := pur_eq fun _ => by kernel_rfl
theorem fa_73_1 {b o : Nat} {k : Value → Prop} : pur Try.prog (Instr.fieldAt 73 (.pointer (some ⟨b, o, none⟩)) 1) k = k (.pointer (some ⟨b, o + 1, none⟩)) := pur_eq fun _ => by kernel_rfl
theorem fa_73_2 {b o : Nat} {k : Value → Prop} : pur Try.prog (Instr.fieldAt 73 (.pointer (some ⟨b, o, none⟩)) 2) k = k (.pointer (some ⟨b, o + 6, none⟩)) := pur_eq fun _ => by kernel_rfl
theorem ld_3 {w : World} {b o : Nat} {k : Value → Prop} (h : (cel w b o).isSome = true) : rd Try.prog (Instr.loadAt 3 (.pointer (some ⟨b, o, none⟩))) k w = k ((cel w b o).getD undef) := rd_load1 (fun w => Try.isAgg3 w) h
theorem rl_3 {w : World} {b o : Nat} {v : Value} (h : cel w b o = some v) : (Instr.loadAt 3 (.pointer (some ⟨b, o, none⟩))).run Try.prog w = .ok v w := run_load1 (fun w => Try.isAgg3 w) h
theorem ld_9 {w : World} {b o : Nat} {k : Value → Prop} (h : (cel w b o).isSome = true) : rd Try.prog (Instr.loadAt 9 (.pointer (some ⟨b, o, none⟩))) k w = k ((cel w b o).getD undef) := rd_load1 (fun w => Try.isAgg9 w) h
theorem rl_9 {w : World} {b o : Nat} {v : Value} (h : cel w b o = some v) : (Instr.loadAt 9 (.pointer (some ⟨b, o, none⟩))).run Try.prog w = .ok v w := run_load1 (fun w => Try.isAgg9 w) h
theorem ld_50 {w : World} {b o : Nat} {k : Value → Prop} (h : (cel w b o).isSome = true) : rd Try.prog (Instr.loadAt 50 (.pointer (some ⟨b, o, none⟩))) k w = k ((cel w b o).getD undef) := rd_load1 (fun w => Try.isAgg50 w) h
theorem rl_50 {w : World} {b o : Nat} {v : Value} (h : cel w b o = some v) : (Instr.loadAt 50 (.pointer (some ⟨b, o, none⟩))).run Try.prog w = .ok v w := run_load1 (fun w => Try.isAgg50 w) h
theorem ld_51 {w : World} {b o : Nat} {k : Value → Prop} (h : (cel w b o).isSome = true) : rd Try.prog (Instr.loadAt 51 (.pointer (some ⟨b, o, none⟩))) k w = k ((cel w b o).getD undef) := rd_load1 (fun w => Try.isAgg51 w) h
theorem rl_51 {w : World} {b o : Nat} {v : Value} (h : cel w b o = some v) : (Instr.loadAt 51 (.pointer (some ⟨b, o, none⟩))).run Try.prog w = .ok v w := run_load1 (fun w => Try.isAgg51 w) h
theorem ld_59 {w : World} {b o : Nat} {k : Value → Prop} (h : (cel w b o).isSome = true) : rd Try.prog (Instr.loadAt 59 (.pointer (some ⟨b, o, none⟩))) k w = k ((cel w b o).getD undef) := rd_load1 (fun w => Try.isAgg59 w) h
theorem rl_59 {w : World} {b o : Nat} {v : Value} (h : cel w b o = some v) : (Instr.loadAt 59 (.pointer (some ⟨b, o, none⟩))).run Try.prog w = .ok v w := run_load1 (fun w => Try.isAgg59 w) h
theorem ld_60 {w : World} {b o : Nat} {k : Value → Prop} (h : (cel w b o).isSome = true) : rd Try.prog (Instr.loadAt 60 (.pointer (some ⟨b, o, none⟩))) k w = k ((cel w b o).getD undef) := rd_load1 (fun w => Try.isAgg60 w) h
theorem rl_60 {w : World} {b o : Nat} {v : Value} (h : cel w b o = some v) : (Instr.loadAt 60 (.pointer (some ⟨b, o, none⟩))).run Try.prog w = .ok v w := run_load1 (fun w => Try.isAgg60 w) h
theorem ld_68 {w : World} {b o : Nat} {k : Value → Prop} (h : (cel w b o).isSome = true) : rd Try.prog (Instr.loadAt 68 (.pointer (some ⟨b, o, none⟩))) k w = k ((cel w b o).getD undef) := rd_load1 (fun w => Try.isAgg68 w) h
theorem rl_68 {w : World} {b o : Nat} {v : Value} (h : cel w b o = some v) : (Instr.loadAt 68 (.pointer (some ⟨b, o, none⟩))).run Try.prog w = .ok v w := run_load1 (fun w => Try.isAgg68 w) h
theorem ld_69 {w : World} {b o : Nat} {k : Value → Prop} (h : (cel w b o).isSome = true) : rd Try.prog (Instr.loadAt 69 (.pointer (some ⟨b, o, none⟩))) k w = k ((cel w b o).getD undef) := rd_load1 (fun w => Try.isAgg69 w) h
theorem rl_69 {w : World} {b o : Nat} {v : Value} (h : cel w b o = some v) : (Instr.loadAt 69 (.pointer (some ⟨b, o, none⟩))).run Try.prog w = .ok v w := run_load1 (fun w => Try.isAgg69 w) h
theorem st_3 {w : World} {b o : Nat} {v : Value} {k : Value → World → Prop} (hv : one v = true) (h : (cel w b o).isSome = true) (hf : fre w b = true) : act Try.prog (thenU (Instr.storeAt 3 (.pointer (some ⟨b, o, none⟩)) v)) k w = k undef (sto w b o v) := act_store1 (fun w => Try.sizeOf3 w) hv h hf
theorem st_9 {w : World} {b o : Nat} {v : Value} {k : Value → World → Prop} (hv : one v = true) (h : (cel w b o).isSome = true) (hf : fre w b = true) : act Try.prog (thenU (Instr.storeAt 9 (.pointer (some ⟨b, o, none⟩)) v)) k w = k undef (sto w b o v) := act_store1 (fun w => Try.sizeOf9 w) hv h hf
theorem st_51 {w : World} {b o : Nat} {v : Value} {k : Value → World → Prop} (hv : one v = true) (h : (cel w b o).isSome = true) (hf : fre w b = true) : act Try.prog (thenU (Instr.storeAt 51 (.pointer (some ⟨b, o, none⟩)) v)) k w = k undef (sto w b o v) := act_store1 (fun w => Try.sizeOf51 w) hv h hf
theorem st_60 {w : World} {b o : Nat} {v : Value} {k : Value → World → Prop} (hv : one v = true) (h : (cel w b o).isSome = true) (hf : fre w b = true) : act Try.prog (thenU (Instr.storeAt 60 (.pointer (some ⟨b, o, none⟩)) v)) k w = k undef (sto w b o v) := act_store1 (fun w => Try.sizeOf60 w) hv h hf
theorem st_69 {w : World} {b o : Nat} {v : Value} {k : Value → World → Prop} (hv : one v = true) (h : (cel w b o).isSome = true) (hf : fre w b = true) : act Try.prog (thenU (Instr.storeAt 69 (.pointer (some ⟨b, o, none⟩)) v)) k w = k undef (sto w b o v) := act_store1 (fun w => Try.sizeOf69 w) hv h hf
theorem al_53 {w : World} {k : Value → World → Prop} : act Try.prog (Instr.alloc 53 true (.tuple #[])) k w = k (.pointer (some ⟨siz w, 0, none⟩)) (w.alloc (.cells #[(.int .i64 0), (.string ⟨#[]⟩), (.int .i64 0), (.pointer none), (.pointer none)] 53)) := act_eq (by kernel_rfl)
theorem al_62 {w : World} {k : Value → World → Prop} : act Try.prog (Instr.alloc 62 true (.tuple #[])) k w = k (.pointer (some ⟨siz w, 0, none⟩)) (w.alloc (.cells #[(.string ⟨#[]⟩), (.int .i64 0), (.int .i64 0), (.pointer none), (.pointer none)] 62)) := act_eq (by kernel_rfl)
theorem al_71 {w : World} {k : Value → World → Prop} : act Try.prog (Instr.alloc 71 true (.tuple #[])) k w = k (.pointer (some ⟨siz w, 0, none⟩)) (w.alloc (.cells #[(.int .i64 0), (.int .i64 0), (.int .i64 0), (.pointer none), (.pointer none)] 71)) := act_eq (by kernel_rfl)
theorem bd_53_0_1 {a0 a1 : Value} {k : Value → Prop} (h0 : one a0 = true) (h1 : one a1 = true) : pur Try.prog (Instr.build 53 #[(0, a0), (1, a1)]) k = k (.agg #[a0, a1, (.int .i64 0), (.pointer none), (.pointer none)]) :=
  pur_eq fun w => by simp [Instr.build, Instr.fill, agg_cells, one_cells h0, one_cells h1]
theorem bd_55_0_2 {a0 a2 : Value} {k : Value → Prop} (h0 : one a0 = true) (h2 : one a2 = true) : pur Try.prog (Instr.build 55 #[(0, a0), (2, a2)]) k = k (.agg #[a0, (.int .i64 0), (.string ⟨#[]⟩), (.int .i64 0), (.pointer none), (.pointer none), a2]) :=
  pur_eq fun w => by simp [Instr.build, Instr.fill, agg_cells, one_cells h0, one_cells h2]
theorem bd_62_0_1 {a0 a1 : Value} {k : Value → Prop} (h0 : one a0 = true) (h1 : one a1 = true) : pur Try.prog (Instr.build 62 #[(0, a0), (1, a1)]) k = k (.agg #[a0, a1, (.int .i64 0), (.pointer none), (.pointer none)]) :=
  pur_eq fun w => by simp [Instr.build, Instr.fill, agg_cells, one_cells h0, one_cells h1]
theorem bd_64_0_2 {a0 a2 : Value} {k : Value → Prop} (h0 : one a0 = true) (h2 : one a2 = true) : pur Try.prog (Instr.build 64 #[(0, a0), (2, a2)]) k = k (.agg #[a0, (.string ⟨#[]⟩), (.int .i64 0), (.int .i64 0), (.pointer none), (.pointer none), a2]) :=
  pur_eq fun w => by simp [Instr.build, Instr.fill, agg_cells, one_cells h0, one_cells h2]
theorem bd_71_0_1 {a0 a1 : Value} {k : Value → Prop} (h0 : one a0 = true) (h1 : one a1 = true) : pur Try.prog (Instr.build 71 #[(0, a0), (1, a1)]) k = k (.agg #[a0, a1, (.int .i64 0), (.pointer none), (.pointer none)]) :=
  pur_eq fun w => by simp [Instr.build, Instr.fill, agg_cells, one_cells h0, one_cells h1]
theorem bd_73_0_2 {a0 a2 : Value} {k : Value → Prop} (h0 : one a0 = true) (h2 : one a2 = true) : pur Try.prog (Instr.build 73 #[(0, a0), (2, a2)]) k = k (.agg #[a0, (.int .i64 0), (.int .i64 0), (.int .i64 0), (.pointer none), (.pointer none), a2]) :=
  pur_eq fun w => by simp [Instr.build, Instr.fill, agg_cells, one_cells h0, one_cells h2]
theorem pe0_24 {w : World} {x y : Bool} {k : Value → Prop} : rd Try.prog (binS .eql 24 x y (.pointer none) (.pointer none)) k w = k (.bool true) := rd_eq (run_peq_none (fun w => Try.runUnderlying24 w))
theorem pe1_24 {w : World} {x y : Bool} {a : Addr} {k : Value → Prop} : rd Try.prog (binS .eql 24 x y (.pointer (some a)) (.pointer none)) k w = k (.bool false) := rd_eq (run_peq_none (fun w => Try.runUnderlying24 w))
theorem pe2_24 {w : World} {x y : Bool} {b o b' o' : Nat} {k : Value → Prop} (h : fre w b = true) (h' : fre w b' = true) : rd Try.prog (binS .eql 24 x y (.pointer (some ⟨b, o, none⟩)) (.pointer (some ⟨b', o', none⟩))) k w = k (.bool (decide (b = b' ∧ o = o'))) := rd_eq (run_peq (fun w => Try.runUnderlying24 w) ⟨7, by decide, (fun w => Try.sizeOf55 w)⟩ h h')
theorem pe0_33 {w : World} {x y : Bool} {k : Value → Prop} : rd Try.prog (binS .eql 33 x y (.pointer none) (.pointer none)) k w = k (.bool true) := rd_eq (run_peq_none (fun w => Try.runUnderlying33 w))
theorem pe1_33 {w : World} {x y : Bool} {a : Addr} {k : Value → Prop} : rd Try.prog (binS .eql 33 x y (.pointer (some a)) (.pointer none)) k w = k (.bool false) := rd_eq (run_peq_none (fun w => Try.runUnderlying33 w))
theorem pe2_33 {w : World} {x y : Bool} {b o b' o' : Nat} {k : Value → Prop} (h : fre w b = true) (h' : fre w b' = true) : rd Try.prog (binS .eql 33 x y (.pointer (some ⟨b, o, none⟩)) (.pointer (some ⟨b', o', none⟩))) k w = k (.bool (decide (b = b' ∧ o = o'))) := rd_eq (run_peq (fun w => Try.runUnderlying33 w) ⟨7, by decide, (fun w => Try.sizeOf64 w)⟩ h h')
theorem pe0_41 {w : World} {x y : Bool} {k : Value → Prop} : rd Try.prog (binS .eql 41 x y (.pointer none) (.pointer none)) k w = k (.bool true) := rd_eq (run_peq_none (fun w => Try.runUnderlying41 w))
theorem pe1_41 {w : World} {x y : Bool} {a : Addr} {k : Value → Prop} : rd Try.prog (binS .eql 41 x y (.pointer (some a)) (.pointer none)) k w = k (.bool false) := rd_eq (run_peq_none (fun w => Try.runUnderlying41 w))
theorem pe2_41 {w : World} {x y : Bool} {b o b' o' : Nat} {k : Value → Prop} (h : fre w b = true) (h' : fre w b' = true) : rd Try.prog (binS .eql 41 x y (.pointer (some ⟨b, o, none⟩)) (.pointer (some ⟨b', o', none⟩))) k w = k (.bool (decide (b = b' ∧ o = o'))) := rd_eq (run_peq (fun w => Try.runUnderlying41 w) ⟨7, by decide, (fun w => Try.sizeOf73 w)⟩ h h')
theorem pe0_51 {w : World} {x y : Bool} {k : Value → Prop} : rd Try.prog (binS .eql 51 x y (.pointer none) (.pointer none)) k w = k (.bool true) := rd_eq (run_peq_none (fun w => Try.runUnderlying51 w))
theorem pe1_51 {w : World} {x y : Bool} {a : Addr} {k : Value → Prop} : rd Try.prog (binS .eql 51 x y (.pointer (some a)) (.pointer none)) k w = k (.bool false) := rd_eq (run_peq_none (fun w => Try.runUnderlying51 w))
theorem pe2_51 {w : World} {x y : Bool} {b o b' o' : Nat} {k : Value → Prop} (h : fre w b = true) (h' : fre w b' = true) : rd Try.prog (binS .eql 51 x y (.pointer (some ⟨b, o, none⟩)) (.pointer (some ⟨b', o', none⟩))) k w = k (.bool (decide (b = b' ∧ o = o'))) := rd_eq (run_peq (fun w => Try.runUnderlying51 w) ⟨5, by decide, (fun w => Try.sizeOf53 w)⟩ h h')
theorem pe0_60 {w : World} {x y : Bool} {k : Value → Prop} : rd Try.prog (binS .eql 60 x y (.pointer none) (.pointer none)) k w = k (.bool true) := rd_eq (run_peq_none (fun w => Try.runUnderlying60 w))
theorem pe1_60 {w : World} {x y : Bool} {a : Addr} {k : Value → Prop} : rd Try.prog (binS .eql 60 x y (.pointer (some a)) (.pointer none)) k w = k (.bool false) := rd_eq (run_peq_none (fun w => Try.runUnderlying60 w))
theorem pe2_60 {w : World} {x y : Bool} {b o b' o' : Nat} {k : Value → Prop} (h : fre w b = true) (h' : fre w b' = true) : rd Try.prog (binS .eql 60 x y (.pointer (some ⟨b, o, none⟩)) (.pointer (some ⟨b', o', none⟩))) k w = k (.bool (decide (b = b' ∧ o = o'))) := rd_eq (run_peq (fun w => Try.runUnderlying60 w) ⟨5, by decide, (fun w => Try.sizeOf62 w)⟩ h h')
theorem pe0_69 {w : World} {x y : Bool} {k : Value → Prop} : rd Try.prog (binS .eql 69 x y (.pointer none) (.pointer none)) k w = k (.bool true) := rd_eq (run_peq_none (fun w => Try.runUnderlying69 w))
theorem pe1_69 {w : World} {x y : Bool} {a : Addr} {k : Value → Prop} : rd Try.prog (binS .eql 69 x y (.pointer (some a)) (.pointer none)) k w = k (.bool false) := rd_eq (run_peq_none (fun w => Try.runUnderlying69 w))
theorem pe2_69 {w : World} {x y : Bool} {b o b' o' : Nat} {k : Value → Prop} (h : fre w b = true) (h' : fre w b' = true) : rd Try.prog (binS .eql 69 x y (.pointer (some ⟨b, o, none⟩)) (.pointer (some ⟨b', o', none⟩))) k w = k (.bool (decide (b = b' ∧ o = o'))) := rd_eq (run_peq (fun w => Try.runUnderlying69 w) ⟨5, by decide, (fun w => Try.sizeOf71 w)⟩ h h')
theorem bn_4 {x y a b : Bool} {k : Value → Prop} : pur Try.prog (binS .neq 4 x y (.bool a) (.bool b)) k = k (.bool (a != b)) := pur_eq fun _ => run_bneq (fun w => Try.runUnderlying4 w)
theorem pn0_51 {w : World} {x y : Bool} {k : Value → Prop} : rd Try.prog (binS .neq 51 x y (.pointer none) (.pointer none)) k w = k (.bool false) := rd_eq (run_pneq_none (fun w => Try.runUnderlying51 w))
theorem pn1_51 {w : World} {x y : Bool} {a : Addr} {k : Value → Prop} : rd Try.prog (binS .neq 51 x y (.pointer (some a)) (.pointer none)) k w = k (.bool true) := rd_eq (run_pneq_none (fun w => Try.runUnderlying51 w))
theorem pn2_51 {w : World} {x y : Bool} {b o b' o' : Nat} {k : Value → Prop} (h : fre w b = true) (h' : fre w b' = true) : rd Try.prog (binS .neq 51 x y (.pointer (some ⟨b, o, none⟩)) (.pointer (some ⟨b', o', none⟩))) k w = k (.bool (decide (¬ (b = b' ∧ o = o')))) := rd_eq (run_pneq (fun w => Try.runUnderlying51 w) ⟨5, by decide, (fun w => Try.sizeOf53 w)⟩ h h')
theorem pn0_60 {w : World} {x y : Bool} {k : Value → Prop} : rd Try.prog (binS .neq 60 x y (.pointer none) (.pointer none)) k w = k (.bool false) := rd_eq (run_pneq_none (fun w => Try.runUnderlying60 w))
theorem pn1_60 {w : World} {x y : Bool} {a : Addr} {k : Value → Prop} : rd Try.prog (binS .neq 60 x y (.pointer (some a)) (.pointer none)) k w = k (.bool true) := rd_eq (run_pneq_none (fun w => Try.runUnderlying60 w))
theorem pn2_60 {w : World} {x y : Bool} {b o b' o' : Nat} {k : Value → Prop} (h : fre w b = true) (h' : fre w b' = true) : rd Try.prog (binS .neq 60 x y (.pointer (some ⟨b, o, none⟩)) (.pointer (some ⟨b', o', none⟩))) k w = k (.bool (decide (¬ (b = b' ∧ o = o')))) := rd_eq (run_pneq (fun w => Try.runUnderlying60 w) ⟨5, by decide, (fun w => Try.sizeOf62 w)⟩ h h')
theorem pn0_69 {w : World} {x y : Bool} {k : Value → Prop} : rd Try.prog (binS .neq 69 x y (.pointer none) (.pointer none)) k w = k (.bool false) := rd_eq (run_pneq_none (fun w => Try.runUnderlying69 w))
theorem pn1_69 {w : World} {x y : Bool} {a : Addr} {k : Value → Prop} : rd Try.prog (binS .neq 69 x y (.pointer (some a)) (.pointer none)) k w = k (.bool true) := rd_eq (run_pneq_none (fun w => Try.runUnderlying69 w))
theorem pn2_69 {w : World} {x y : Bool} {b o b' o' : Nat} {k : Value → Prop} (h : fre w b = true) (h' : fre w b' = true) : rd Try.prog (binS .neq 69 x y (.pointer (some ⟨b, o, none⟩)) (.pointer (some ⟨b', o', none⟩))) k w = k (.bool (decide (¬ (b = b' ∧ o = o')))) := rd_eq (run_pneq (fun w => Try.runUnderlying69 w) ⟨5, by decide, (fun w => Try.sizeOf71 w)⟩ h h')
theorem ln_22 {a : Option Addr} {n c : Nat} {k : Value → Prop} : pur Try.prog (Builtin.len_ #[22] 3 #[.slice a n c]) k = k (.int .i64 n) := pur_eq fun _ => run_lenSl (fun w => Try.runUnderlying22 w)
theorem ln_32 {a : Option Addr} {n c : Nat} {k : Value → Prop} : pur Try.prog (Builtin.len_ #[32] 3 #[.slice a n c]) k = k (.int .i64 n) := pur_eq fun _ => run_lenSl (fun w => Try.runUnderlying32 w)
theorem lm_50 {w : World} {r : Nat} {l : List (Value × Value)} (h : mp w r = some l) : (Builtin.len_ #[50] 3 #[.map (some r)]).run Try.prog w = .ok (.int .i64 l.length) w := run_lenMap (fun w => Try.runUnderlying50 w) h
theorem lm_59 {w : World} {r : Nat} {l : List (Value × Value)} (h : mp w r = some l) : (Builtin.len_ #[59] 3 #[.map (some r)]).run Try.prog w = .ok (.int .i64 l.length) w := run_lenMap (fun w => Try.runUnderlying59 w) h
theorem lm_68 {w : World} {r : Nat} {l : List (Value × Value)} (h : mp w r = some l) : (Builtin.len_ #[68] 3 #[.map (some r)]).run Try.prog w = .ok (.int .i64 l.length) w := run_lenMap (fun w => Try.runUnderlying68 w) h
theorem ix_22 {b o n c i : Nat} {kd : IntKind} {k : Value → Prop} (h : i < n) : pur Try.prog (Instr.indexAt 22 (.slice (some ⟨b, o, none⟩) n c) (.int kd i)) k = k (.pointer (some ⟨b, o + i, none⟩)) := pur_eq fun w => (by have := run_index (kd := kd) (b := b) (o := o) (c := c) (w := w) (fun w => Try.runUnderlying22 w) (fun w => Try.sizeOf3 w) h; rwa [Nat.mul_one] at this)
theorem ix_32 {b o n c i : Nat} {kd : IntKind} {k : Value → Prop} (h : i < n) : pur Try.prog (Instr.indexAt 32 (.slice (some ⟨b, o, none⟩) n c) (.int kd i)) k = k (.pointer (some ⟨b, o + i, none⟩)) := pur_eq fun w => (by have := run_index (kd := kd) (b := b) (o := o) (c := c) (w := w) (fun w => Try.runUnderlying32 w) (fun w => Try.sizeOf9 w) h; rwa [Nat.mul_one] at this)
theorem bs_22 {w : World} {v : Value} {k : Value → World → Prop} (hv : one v = true) : act Try.prog (Instr.buildSlice 22 1 #[(0, v)]) k w = k (.slice (some ⟨siz w, 0, none⟩) 1 1) (w.alloc (.cells #[v] 3)) := act_buildSl1 (fun w => Try.runUnderlying22 w) (fun w => Try.sizeOf3 w) (fun w => Try.zeroValue3 w) hv
theorem bs_32 {w : World} {v : Value} {k : Value → World → Prop} (hv : one v = true) : act Try.prog (Instr.buildSlice 32 1 #[(0, v)]) k w = k (.slice (some ⟨siz w, 0, none⟩) 1 1) (w.alloc (.cells #[v] 9)) := act_buildSl1 (fun w => Try.runUnderlying32 w) (fun w => Try.sizeOf9 w) (fun w => Try.zeroValue9 w) hv
theorem ap_22 {w : World} {base ty : Nat} {k : Value → World → Prop} {v : Value} {n : Nat} {xs : List Value} (hown : Own w base 3 1 v n xs) {b o m c : Nat} {news : List Value} (hl : news.length = m * 1) (hnews : ∀ j, j < m * 1 → cel w b (o + j) = news[j]?) (h1 : ∀ u ∈ news, one u = true)
    (hb : (n + m) * 8 ≤ 140737488355328) (hbase : base ≤ siz w) (hk : ∀ v' w', Own w' base 3 1 v' (n + m) (xs ++ news) → w.grownBy w' v.ownBlock → (∀ g, v'.ownBlock = some g → v.ownBlock = some g ∨ siz w ≤ g) → k v' w') :
    act Try.prog (Builtin.append_ #[22, 22] ty #[v, .slice (some ⟨b, o, none⟩) m c]) k w :=
  act_append (i := Try.t3) Try.underlying22 (by kernel_rfl) rfl rfl rfl rfl (by decide) hown hl hnews h1 hb (by unfold maxLen; omega) hbase hk
theorem pu_22 {w : World} {base ty : Nat} {k : Value → World → Prop} {v : Value} {n : Nat} {xs : List Value} {x0 : Value} (hown : Own w base 3 1 v n xs) (hx : ∀ u ∈ [x0], one u = true)
    (hb : (n + 1) * 8 ≤ 140737488355328) (hbase : base ≤ siz w) (hk : ∀ v' w', Own w' base 3 1 v' (n + 1) (xs ++ [x0]) → Keep (fun b => v.ownBlock = some b) w w' → (∀ g, v'.ownBlock = some g → v.ownBlock = some g ∨ siz w ≤ g) → k v' w') :
    act Try.prog (Builtin.append_ #[22, 22] ty #[v, .slice (some ⟨siz w, 0, none⟩) 1 1]) k (w.alloc (.cells #[x0] 3)) := by
  refine ap_22 (w := w.alloc _) (hown.keep ((Keep.refl (fun _ => False) w).alloc _) (fun _ _ => id)) (news := [x0]) rfl (fun j hj => ?_) hx hb (by rw [siz_alloc]; omega) fun v' w' ho hg hr => hk v' w' ho (((Keep.refl _ w).alloc _).grown hg (fun g hg' => .inl hg')) (fun g hg' => ?_)
  · rw [Nat.zero_add, cel_alloc_new]; simp [List.getElem?_toArray]
  · rcases hr g hg' with h | h
    · exact .inl h
    · rw [siz_alloc] at h; exact .inr (by omega)
theorem ap_32 {w : World} {base ty : Nat} {k : Value → World → Prop} {v : Value} {n : Nat} {xs : List Value} (hown : Own w base 9 1 v n xs) {b o m c : Nat} {news : List Value} (hl : news.length = m * 1) (hnews : ∀ j, j < m * 1 → cel w b (o + j) = news[j]?) (h1 : ∀ u ∈ news, one u = true)
    (hb : (n + m) * 16 ≤ 140737488355328) (hbase : base ≤ siz w) (hk : ∀ v' w', Own w' base 9 1 v' (n + m) (xs ++ news) → w.grownBy w' v.ownBlock → (∀ g, v'.ownBlock = some g → v.ownBlock = some g ∨ siz w ≤ g) → k v' w') :
    act Try.prog (Builtin.append_ #[32, 32] ty #[v, .slice (some ⟨b, o, none⟩) m c]) k w :=
  act_append (i := Try.t9) Try.underlying32 (by kernel_rfl) rfl rfl rfl rfl (by decide) hown hl hnews h1 hb (by unfold maxLen; omega) hbase hk
theorem pu_32 {w : World} {base ty : Nat} {k : Value → World → Prop} {v : Value} {n : Nat} {xs : List Value} {x0 : Value} (hown : Own w base 9 1 v n xs) (hx : ∀ u ∈ [x0], one u = true)
    (hb : (n + 1) * 16 ≤ 140737488355328) (hbase : base ≤ siz w) (hk : ∀ v' w', Own w' base 9 1 v' (n + 1) (xs ++ [x0]) → Keep (fun b => v.ownBlock = some b) w w' → (∀ g, v'.ownBlock = some g → v.ownBlock = some g ∨ siz w ≤ g) → k v' w') :
    act Try.prog (Builtin.append_ #[32, 32] ty #[v, .slice (some ⟨siz w, 0, none⟩) 1 1]) k (w.alloc (.cells #[x0] 9)) := by
  refine ap_32 (w := w.alloc _) (hown.keep ((Keep.refl (fun _ => False) w).alloc _) (fun _ _ => id)) (news := [x0]) rfl (fun j hj => ?_) hx hb (by rw [siz_alloc]; omega) fun v' w' ho hg hr => hk v' w' ho (((Keep.refl _ w).alloc _).grown hg (fun g hg' => .inl hg')) (fun g hg' => ?_)
  · rw [Nat.zero_add, cel_alloc_new]; simp [List.getElem?_toArray]
  · rcases hr g hg' with h | h
    · exact .inl h
    · rw [siz_alloc] at h; exact .inr (by omega)
theorem ky_3 : Keys Try.prog 3 isI64 (.int .i64) := keys_int (fun w => Try.runUnderlying3 w)
theorem lu_50 {w : World} {r : Nat} {l : List (Value × Value)} {k : Value} (hm : mp w r = some l) (hl : okKeys isI64 l) (hk : isI64 k) (c : Bool) :
    (Instr.lookup 50 (.map (some r)) k c).run Try.prog w = .ok (if c then .tuple #[(aget k l).getD (.pointer none), .bool (aget k l).isSome] else (aget k l).getD (.pointer none)) w := run_lookup ky_3 (fun w => Try.runUnderlying50 w) (fun w => Try.zeroValue51 w) hm hl hk c
theorem mu_50 {w : World} {r : Nat} {l : List (Value × Value)} {k v : Value} {Q : Value → World → Prop} (hm : mp w r = some l) (hl : okKeys isI64 l) (hk : isI64 k) (h : ∀ w', MapTo w w' r (aput k v l) → Q undef w') :
    act Try.prog (thenU (Instr.mapUpdate 50 (.map (some r)) k v)) Q w := act_mapUpdate ky_3 (fun w => Try.runUnderlying50 w) hm hl hk h
theorem md_50 {w : World} {r ty t2 : Nat} {l : List (Value × Value)} {k : Value} {Q : Value → World → Prop} (hm : mp w r = some l) (hl : okKeys isI64 l) (hk : isI64 k) (h : ∀ w', MapTo w w' r (adel k l) → Q (.tuple #[]) w') :
    act Try.prog (Builtin.delete_ #[50, t2] ty #[.map (some r), k]) Q w := act_delete ky_3 (fun w => Try.runUnderlying50 w) hm hl hk h
theorem ky_9 : Keys Try.prog 9 isText (.string) := keys_text (fun w => Try.runUnderlying9 w)
theorem lu_59 {w : World} {r : Nat} {l : List (Value × Value)} {k : Value} (hm : mp w r = some l) (hl : okKeys isText l) (hk : isText k) (c : Bool) :
    (Instr.lookup 59 (.map (some r)) k c).run Try.prog w = .ok (if c then .tuple #[(aget k l).getD (.pointer none), .bool (aget k l).isSome] else (aget k l).getD (.pointer none)) w := run_lookup ky_9 (fun w => Try.runUnderlying59 w) (fun w => Try.zeroValue60 w) hm hl hk c
theorem mu_59 {w : World} {r : Nat} {l : List (Value × Value)} {k v : Value} {Q : Value → World → Prop} (hm : mp w r = some l) (hl : okKeys isText l) (hk : isText k) (h : ∀ w', MapTo w w' r (aput k v l) → Q undef w') :
    act Try.prog (thenU (Instr.mapUpdate 59 (.map (some r)) k v)) Q w := act_mapUpdate ky_9 (fun w => Try.runUnderlying59 w) hm hl hk h
theorem md_59 {w : World} {r ty t2 : Nat} {l : List (Value × Value)} {k : Value} {Q : Value → World → Prop} (hm : mp w r = some l) (hl : okKeys isText l) (hk : isText k) (h : ∀ w', MapTo w w' r (adel k l) → Q (.tuple #[]) w') :
    act Try.prog (Builtin.delete_ #[59, t2] ty #[.map (some r), k]) Q w := act_delete ky_9 (fun w => Try.runUnderlying59 w) hm hl hk h
theorem lu_68 {w : World} {r : Nat} {l : List (Value × Value)} {k : Value} (hm : mp w r = some l) (hl : okKeys isI64 l) (hk : isI64 k) (c : Bool) :
    (Instr.lookup 68 (.map (some r)) k c).run Try.prog w = .ok (if c then .tuple #[(aget k l).getD (.pointer none), .bool (aget k l).isSome] else (aget k l).getD (.pointer none)) w := run_lookup ky_3 (fun w => Try.runUnderlying68 w) (fun w => Try.zeroValue69 w) hm hl hk c
theorem mu_68 {w : World} {r : Nat} {l : List (Value × Value)} {k v : Value} {Q : Value → World → Prop} (hm : mp w r = some l) (hl : okKeys isI64 l) (hk : isI64 k) (h : ∀ w', MapTo w w' r (aput k v l) → Q undef w') :
    act Try.prog (thenU (Instr.mapUpdate 68 (.map (some r)) k v)) Q w := act_mapUpdate ky_3 (fun w => Try.runUnderlying68 w) hm hl hk h
theorem md_68 {w : World} {r ty t2 : Nat} {l : List (Value × Value)} {k : Value} {Q : Value → World → Prop} (hm : mp w r = some l) (hl : okKeys isI64 l) (hk : isI64 k) (h : ∀ w', MapTo w w' r (adel k l) → Q (.tuple #[]) w') :
    act Try.prog (Builtin.delete_ #[68, t2] ty #[.map (some r), k]) Q w := act_delete ky_3 (fun w => Try.runUnderlying68 w) hm hl hk h
end Go.Proofs.Ytkdanklgcgjijaa
