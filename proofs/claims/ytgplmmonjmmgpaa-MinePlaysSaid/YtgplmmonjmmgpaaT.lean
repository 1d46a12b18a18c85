/- The laws of the operations that stand in the readings, at this program's own types: printed by a program.
   Conditions: as each law says. -/
import Derived.Test.YtgplmmonjmmgpaaShQ
import Derived.Test.YtgplmmonjmmgpaaS
set_option linter.unusedSimpArgs false
set_option linter.unusedVariables false
namespace Go.Proofs.Ytgplmmonjmmgpaa
open Go.Sh
set_option maxRecDepth 100000
theorem fa_44_0 {b o : Nat} {k : Value → Prop} : pur Try.prog (Instr.fieldAt 44 (.pointer (some ⟨b, o, none⟩)) 0) k = k (.pointer (some ⟨b, o, none⟩)) := pur_eq fun _ => by kernel_rfl
theorem fa_44_1 {b o : Nat} {k : Value → Prop} : pur Try.prog (Instr.fieldAt 44 (.pointer (some ⟨b, o, none⟩)) 1) k = k (.pointer (some ⟨b, o + 1, none⟩)) := pur_eq fun _ => by kernel_rfl
theorem fa_44_2 {b o : Nat} {k : Value → Prop} : pur Try.prog (Instr.fieldAt 44 (.pointer (some ⟨b, o, none⟩)) 2) k = k (.pointer (some ⟨b, o + 2, none⟩)) := pur_eq fun _ => by kernel_rfl
theorem fa_48_0 {b o : Nat} {k : Value → Prop} : pur Try.prog (Instr.fieldAt 48 (.pointer (some ⟨b, o, none⟩)) 0) k = k (.pointer (some ⟨b, o, none⟩)) := pur_eq fun _ => by kernel_rfl
theorem fa_48_1 {b o : Nat} {k : Value → Prop} : pur Try.prog (Instr.fieldAt 48 (.pointer (some ⟨b, o, none⟩)) 1) k = k (.pointer (some ⟨b, o + 1, none⟩)) := pur_eq fun _ => by kernel_rfl
theorem fa_48_2 {b o : Nat} {k : Value → Prop} : pur Try.prog (Instr.fieldAt 48 (.pointer (some ⟨b, o, none⟩)) 2) k = k (.pointer (some ⟨b, o + 2, none⟩)) := pur_eq fun _ => by kernel_rfl
theorem fa_48_3 {b o : Nat} {k : Value → Prop} : pur Try.prog (Instr.fieldAt 48 (.pointer (some ⟨b, o, none⟩)) 3) k = k (.pointer (some ⟨b, o + 3, none⟩)) := pur_eq fun _ => by kernel_rfl
theorem fa_48_4 {b o : Nat} {k : Value → Prop} : pur Try.prog (Instr.fieldAt 48 (.pointer (some ⟨b, o, none⟩)) 4) k = k (.pointer (some ⟨b, o + 4, none⟩)) := pur_eq fun _ => by kernel_rfl
theorem fa_48_5 {b o : Nat} {k : Value → Prop} : pur Try.prog (Instr.fieldAt 48 (.pointer (some ⟨b, o, none⟩)) 5) k = k (.pointer (some ⟨b, o + 5, none⟩)) := pur_eq fun _ => by kernel_rfl
theorem fa_50_0 {b o : Nat} {k : Value → Prop} : pur Try.prog (Instr.fieldAt 50 (.pointer (some ⟨b, o, none⟩)) 0) k = k (.pointer (some ⟨b, o, none⟩)) := pur_eq fun _ => by kernel_rfl
theorem fa_50_1 {b o : Nat} {k : Value → Prop} : pur Try.prog (Instr.fieldAt 50 (.pointer (some ⟨b, o, none⟩)) 1) k = k (.pointer (some ⟨b, o + 1, none⟩)) := pur_eq fun _ => by kernel_rfl
theorem fa_58_0 {b o : Nat} {k : Value → Prop} : pur Try.prog (Instr.fieldAt 58 (.pointer (some ⟨b, o, none⟩)) 0) k = k (.pointer (some ⟨b, o, none⟩)) := pur_eq fun _ => by kernel_rfl
theorem fa_58_1 {b o : Nat} {k : Value → Prop} : pur Try.prog (Instr.fieldAt 58 (.pointer (some ⟨b, o, none⟩)) 1) k = k (.pointer (some ⟨b, o + 1, none⟩)) := pur_eq fun _ => by kernel_rfl
theorem fa_58_2 {b o : Nat} {k : Value → Prop} : pur Try.prog (Instr.fieldAt 58 (.pointer (some ⟨b, o, none⟩)) 2) k = k (.pointer (some ⟨b, o + 2, none⟩)) := pur_eq fun _ => by kernel_rfl
theorem fa_58_3 {b o : Nat} {k : Value → Prop} : pur Try.prog (Instr.fieldAt 58 (.pointer (some ⟨b, o, none⟩)) 3) k = k (.pointer (some ⟨b, o + 3, none⟩)) := pur_eq fun _ => by kernel_rfl
theorem fa_66_0 {b o : Nat} {k : Value → Prop} : pur Try.prog (Instr.fieldAt 66 (.pointer (some ⟨b, o, none⟩)) 0) k = k (.pointer (some ⟨b, o, none⟩)) := pur_eq fun _ => by kernel_rfl
theorem fa_66_1 {b o : Nat} {k : Value → Prop} : pur Try.prog (Instr.fieldAt 66 (.pointer (some ⟨b, o, none⟩)) 1) k = k (.pointer (some ⟨b, o + 1, none⟩)) := pur_eq fun _ => by kernel_rfl
theorem ld_3 {w : World} {b o : Nat} {k : Value → Prop} (h : (cel w b o).isSome = true) : rd Try.prog (Instr.loadAt 3 (.pointer (some ⟨b, o, none⟩))) k w = k ((cel w b o).getD undef) := rd_load1 (fun w => Try.isAgg3 w) h
theorem rl_3 {w : World} {b o : Nat} {v : Value} (h : cel w b o = some v) : (Instr.loadAt 3 (.pointer (some ⟨b, o, none⟩))).run Try.prog w = .ok v w := run_load1 (fun w => Try.isAgg3 w) h
theorem ld_4 {w : World} {b o : Nat} {k : Value → Prop} (h : (cel w b o).isSome = true) : rd Try.prog (Instr.loadAt 4 (.pointer (some ⟨b, o, none⟩))) k w = k ((cel w b o).getD undef) := rd_load1 (fun w => Try.isAgg4 w) h
theorem rl_4 {w : World} {b o : Nat} {v : Value} (h : cel w b o = some v) : (Instr.loadAt 4 (.pointer (some ⟨b, o, none⟩))).run Try.prog w = .ok v w := run_load1 (fun w => Try.isAgg4 w) h
theorem ld_22 {w : World} {b o : Nat} {k : Value → Prop} (h : (cel w b o).isSome = true) : rd Try.prog (Instr.loadAt 22 (.pointer (some ⟨b, o, none⟩))) k w = k ((cel w b o).getD undef) := rd_load1 (fun w => Try.isAgg22 w) h
theorem rl_22 {w : World} {b o : Nat} {v : Value} (h : cel w b o = some v) : (Instr.loadAt 22 (.pointer (some ⟨b, o, none⟩))).run Try.prog w = .ok v w := run_load1 (fun w => Try.isAgg22 w) h
theorem ld_32 {w : World} {b o : Nat} {k : Value → Prop} (h : (cel w b o).isSome = true) : rd Try.prog (Instr.loadAt 32 (.pointer (some ⟨b, o, none⟩))) k w = k ((cel w b o).getD undef) := rd_load1 (fun w => Try.isAgg32 w) h
theorem rl_32 {w : World} {b o : Nat} {v : Value} (h : cel w b o = some v) : (Instr.loadAt 32 (.pointer (some ⟨b, o, none⟩))).run Try.prog w = .ok v w := run_load1 (fun w => Try.isAgg32 w) h
theorem ld_46 {w : World} {b o : Nat} {k : Value → Prop} (h : (cel w b o).isSome = true) : rd Try.prog (Instr.loadAt 46 (.pointer (some ⟨b, o, none⟩))) k w = k ((cel w b o).getD undef) := rd_load1 (fun w => Try.isAgg46 w) h
theorem rl_46 {w : World} {b o : Nat} {v : Value} (h : cel w b o = some v) : (Instr.loadAt 46 (.pointer (some ⟨b, o, none⟩))).run Try.prog w = .ok v w := run_load1 (fun w => Try.isAgg46 w) h
theorem ld_56 {w : World} {b o : Nat} {k : Value → Prop} (h : (cel w b o).isSome = true) : rd Try.prog (Instr.loadAt 56 (.pointer (some ⟨b, o, none⟩))) k w = k ((cel w b o).getD undef) := rd_load1 (fun w => Try.isAgg56 w) h
theorem rl_56 {w : World} {b o : Nat} {v : Value} (h : cel w b o = some v) : (Instr.loadAt 56 (.pointer (some ⟨b, o, none⟩))).run Try.prog w = .ok v w := run_load1 (fun w => Try.isAgg56 w) h
theorem ld_81 {w : World} {b o : Nat} {k : Value → Prop} (h : (cel w b o).isSome = true) : rd Try.prog (Instr.loadAt 81 (.pointer (some ⟨b, o, none⟩))) k w = k ((cel w b o).getD undef) := rd_load1 (fun w => Try.isAgg81 w) h
theorem rl_81 {w : World} {b o : Nat} {v : Value} (h : cel w b o = some v) : (Instr.loadAt 81 (.pointer (some ⟨b, o, none⟩))).run Try.prog w = .ok v w := run_load1 (fun w => Try.isAgg81 w) h
theorem st_3 {w : World} {b o : Nat} {v : Value} {k : Value → World → Prop} (hv : one v = true) (h : (cel w b o).isSome = true) (hf : fre w b = true) : act Try.prog (thenU (Instr.storeAt 3 (.pointer (some ⟨b, o, none⟩)) v)) k w = k undef (sto w b o v) := act_store1 (fun w => Try.sizeOf3 w) hv h hf
theorem st_4 {w : World} {b o : Nat} {v : Value} {k : Value → World → Prop} (hv : one v = true) (h : (cel w b o).isSome = true) (hf : fre w b = true) : act Try.prog (thenU (Instr.storeAt 4 (.pointer (some ⟨b, o, none⟩)) v)) k w = k undef (sto w b o v) := act_store1 (fun w => Try.sizeOf4 w) hv h hf
theorem st_22 {w : World} {b o : Nat} {v : Value} {k : Value → World → Prop} (hv : one v = true) (h : (cel w b o).isSome = true) (hf : fre w b = true) : act Try.prog (thenU (Instr.storeAt 22 (.pointer (some ⟨b, o, none⟩)) v)) k w = k undef (sto w b o v) := act_store1 (fun w => Try.sizeOf22 w) hv h hf
theorem st_56 {w : World} {b o : Nat} {v : Value} {k : Value → World → Prop} (hv : one v = true) (h : (cel w b o).isSome = true) (hf : fre w b = true) : act Try.prog (thenU (Instr.storeAt 56 (.pointer (some ⟨b, o, none⟩)) v)) k w = k undef (sto w b o v) := act_store1 (fun w => Try.sizeOf56 w) hv h hf
theorem st_81 {w : World} {b o : Nat} {v : Value} {k : Value → World → Prop} (hv : one v = true) (h : (cel w b o).isSome = true) (hf : fre w b = true) : act Try.prog (thenU (Instr.storeAt 81 (.pointer (some ⟨b, o, none⟩)) v)) k w = k undef (sto w b o v) := act_store1 (fun w => Try.sizeOf81 w) hv h hf
theorem al_3 {w : World} {k : Value → World → Prop} : act Try.prog (Instr.alloc 3 true (.tuple #[])) k w = k (.pointer (some ⟨siz w, 0, none⟩)) (w.alloc (.cells #[(.int .i64 0)] 3)) := act_eq (by kernel_rfl)
theorem al_81 {w : World} {k : Value → World → Prop} : act Try.prog (Instr.alloc 81 true (.tuple #[])) k w = k (.pointer (some ⟨siz w, 0, none⟩)) (w.alloc (.cells #[(.int .u64 0)] 81)) := act_eq (by kernel_rfl)
theorem bd_44_0_1_2 {a0 a1 a2 : Value} {k : Value → Prop} (h0 : one a0 = true) (h1 : one a1 = true) (h2 : one a2 = true) : pur Try.prog (Instr.build 44 #[(0, a0), (1, a1), (2, a2)]) k = k (.agg #[a0, a1, a2]) :=
  pur_eq fun w => by simp [Instr.build, Instr.fill, agg_cells, one_cells h0, one_cells h1, one_cells h2]
theorem bd_48_0_1 {a0 a1 : Value} {k : Value → Prop} (h0 : one a0 = true) (h1 : one a1 = true) : pur Try.prog (Instr.build 48 #[(0, a0), (1, a1)]) k = k (.agg #[a0, a1, (.int .i64 0), (.int .i64 0), (.int .i64 0), (.bool false)]) :=
  pur_eq fun w => by simp [Instr.build, Instr.fill, agg_cells, one_cells h0, one_cells h1]
theorem bd_50_0_1 {a0 a1 : Value} {k : Value → Prop} (h0 : one a0 = true) (h1 : one a1 = true) : pur Try.prog (Instr.build 50 #[(0, a0), (1, a1)]) k = k (.agg #[a0, a1]) :=
  pur_eq fun w => by simp [Instr.build, Instr.fill, agg_cells, one_cells h0, one_cells h1]
theorem bd_58_ {k : Value → Prop}  : pur Try.prog (Instr.build 58 #[]) k = k (.agg #[(.int .i64 0), (.int .i64 0), (.pointer none), (.bool false)]) :=
  pur_eq fun w => by simp [Instr.build, Instr.fill, agg_cells]
theorem bd_66_1 {a1 : Value} {k : Value → Prop} (h1 : one a1 = true) : pur Try.prog (Instr.build 66 #[(1, a1)]) k = k (.agg #[(.slice none 0 0), a1]) :=
  pur_eq fun w => by simp [Instr.build, Instr.fill, agg_cells, one_cells h1]
theorem be_4 {x y a b : Bool} {k : Value → Prop} : pur Try.prog (binS .eql 4 x y (.bool a) (.bool b)) k = k (.bool (a == b)) := pur_eq fun _ => run_beq (fun w => Try.runUnderlying4 w)
theorem pe0_24 {w : World} {x y : Bool} {k : Value → Prop} : rd Try.prog (binS .eql 24 x y (.pointer none) (.pointer none)) k w = k (.bool true) := rd_eq (run_peq_none (fun w => Try.runUnderlying24 w))
theorem pe1_24 {w : World} {x y : Bool} {a : Addr} {k : Value → Prop} : rd Try.prog (binS .eql 24 x y (.pointer (some a)) (.pointer none)) k w = k (.bool false) := rd_eq (run_peq_none (fun w => Try.runUnderlying24 w))
theorem pe2_24 {w : World} {x y : Bool} {b o b' o' : Nat} {k : Value → Prop} (h : fre w b = true) (h' : fre w b' = true) : rd Try.prog (binS .eql 24 x y (.pointer (some ⟨b, o, none⟩)) (.pointer (some ⟨b', o', none⟩))) k w = k (.bool (decide (b = b' ∧ o = o'))) := rd_eq (run_peq (fun w => Try.runUnderlying24 w) ⟨6, by decide, (fun w => Try.sizeOf48 w)⟩ h h')
theorem pe0_32 {w : World} {x y : Bool} {k : Value → Prop} : rd Try.prog (binS .eql 32 x y (.pointer none) (.pointer none)) k w = k (.bool true) := rd_eq (run_peq_none (fun w => Try.runUnderlying32 w))
theorem pe1_32 {w : World} {x y : Bool} {a : Addr} {k : Value → Prop} : rd Try.prog (binS .eql 32 x y (.pointer (some a)) (.pointer none)) k w = k (.bool false) := rd_eq (run_peq_none (fun w => Try.runUnderlying32 w))
theorem pe2_32 {w : World} {x y : Bool} {b o b' o' : Nat} {k : Value → Prop} (h : fre w b = true) (h' : fre w b' = true) : rd Try.prog (binS .eql 32 x y (.pointer (some ⟨b, o, none⟩)) (.pointer (some ⟨b', o', none⟩))) k w = k (.bool (decide (b = b' ∧ o = o'))) := rd_eq (run_peq (fun w => Try.runUnderlying32 w) ⟨2, by decide, (fun w => Try.sizeOf50 w)⟩ h h')
theorem pe0_39 {w : World} {x y : Bool} {k : Value → Prop} : rd Try.prog (binS .eql 39 x y (.pointer none) (.pointer none)) k w = k (.bool true) := rd_eq (run_peq_none (fun w => Try.runUnderlying39 w))
theorem pe1_39 {w : World} {x y : Bool} {a : Addr} {k : Value → Prop} : rd Try.prog (binS .eql 39 x y (.pointer (some a)) (.pointer none)) k w = k (.bool false) := rd_eq (run_peq_none (fun w => Try.runUnderlying39 w))
theorem pe2_39 {w : World} {x y : Bool} {b o b' o' : Nat} {k : Value → Prop} (h : fre w b = true) (h' : fre w b' = true) : rd Try.prog (binS .eql 39 x y (.pointer (some ⟨b, o, none⟩)) (.pointer (some ⟨b', o', none⟩))) k w = k (.bool (decide (b = b' ∧ o = o'))) := rd_eq (run_peq (fun w => Try.runUnderlying39 w) ⟨4, by decide, (fun w => Try.sizeOf58 w)⟩ h h')
theorem me_46 {w : World} {x y : Bool} {a : Option Nat} {k : Value → Prop} : rd Try.prog (binS .eql 46 x y (.map a) (.map none)) k w = k (.bool a.isNone) := rd_eq (run_meq_none (fun w => Try.runUnderlying46 w))
theorem pe0_56 {w : World} {x y : Bool} {k : Value → Prop} : rd Try.prog (binS .eql 56 x y (.pointer none) (.pointer none)) k w = k (.bool true) := rd_eq (run_peq_none (fun w => Try.runUnderlying56 w))
theorem pe1_56 {w : World} {x y : Bool} {a : Addr} {k : Value → Prop} : rd Try.prog (binS .eql 56 x y (.pointer (some a)) (.pointer none)) k w = k (.bool false) := rd_eq (run_peq_none (fun w => Try.runUnderlying56 w))
theorem pe2_56 {w : World} {x y : Bool} {b o b' o' : Nat} {k : Value → Prop} (h : fre w b = true) (h' : fre w b' = true) : rd Try.prog (binS .eql 56 x y (.pointer (some ⟨b, o, none⟩)) (.pointer (some ⟨b', o', none⟩))) k w = k (.bool (decide (b = b' ∧ o = o'))) := rd_eq (run_peq (fun w => Try.runUnderlying56 w) ⟨2, by decide, (fun w => Try.sizeOf66 w)⟩ h h')
theorem bn_4 {x y a b : Bool} {k : Value → Prop} : pur Try.prog (binS .neq 4 x y (.bool a) (.bool b)) k = k (.bool (a != b)) := pur_eq fun _ => run_bneq (fun w => Try.runUnderlying4 w)
theorem pn0_39 {w : World} {x y : Bool} {k : Value → Prop} : rd Try.prog (binS .neq 39 x y (.pointer none) (.pointer none)) k w = k (.bool false) := rd_eq (run_pneq_none (fun w => Try.runUnderlying39 w))
theorem pn1_39 {w : World} {x y : Bool} {a : Addr} {k : Value → Prop} : rd Try.prog (binS .neq 39 x y (.pointer (some a)) (.pointer none)) k w = k (.bool true) := rd_eq (run_pneq_none (fun w => Try.runUnderlying39 w))
theorem pn2_39 {w : World} {x y : Bool} {b o b' o' : Nat} {k : Value → Prop} (h : fre w b = true) (h' : fre w b' = true) : rd Try.prog (binS .neq 39 x y (.pointer (some ⟨b, o, none⟩)) (.pointer (some ⟨b', o', none⟩))) k w = k (.bool (decide (¬ (b = b' ∧ o = o')))) := rd_eq (run_pneq (fun w => Try.runUnderlying39 w) ⟨4, by decide, (fun w => Try.sizeOf58 w)⟩ h h')
theorem ln_22 {a : Option Addr} {n c : Nat} {k : Value → Prop} : pur Try.prog (Builtin.len_ #[22] 3 #[.slice a n c]) k = k (.int .i64 n) := pur_eq fun _ => run_lenSl (fun w => Try.runUnderlying22 w)
theorem ln_41 {a : Option Addr} {n c : Nat} {k : Value → Prop} : pur Try.prog (Builtin.len_ #[41] 3 #[.slice a n c]) k = k (.int .i64 n) := pur_eq fun _ => run_lenSl (fun w => Try.runUnderlying41 w)
theorem ix_22 {b o n c i : Nat} {kd : IntKind} {k : Value → Prop} (h : i < n) : pur Try.prog (Instr.indexAt 22 (.slice (some ⟨b, o, none⟩) n c) (.int kd i)) k = k (.pointer (some ⟨b, o + i, none⟩)) := pur_eq fun w => (by have := run_index (kd := kd) (b := b) (o := o) (c := c) (w := w) (fun w => Try.runUnderlying22 w) (fun w => Try.sizeOf3 w) h; rwa [Nat.mul_one] at this)
theorem ix_41 {b o n c i : Nat} {kd : IntKind} {k : Value → Prop} (h : i < n) : pur Try.prog (Instr.indexAt 41 (.slice (some ⟨b, o, none⟩) n c) (.int kd i)) k = k (.pointer (some ⟨b, o + i * 3, none⟩)) := pur_eq fun w => run_index (fun w => Try.runUnderlying41 w) (fun w => Try.sizeOf44 w) h
theorem slt_22 {b o n c j : Nat} {kd : IntKind} {k : Value → Prop} (h : j ≤ c) : pur Try.prog (Instr.sliceAt 22 (.slice (some ⟨b, o, none⟩) n c) none (some (.int kd j)) none) k = k (.slice (some ⟨b, o, none⟩) j c) := pur_eq fun w => run_sliceTo (fun w => Try.runUnderlying22 w) (fun w => Try.sizeOf3 w) h kd
theorem bs_22 {w : World} {v : Value} {k : Value → World → Prop} (hv : one v = true) : act Try.prog (Instr.buildSlice 22 1 #[(0, v)]) k w = k (.slice (some ⟨siz w, 0, none⟩) 1 1) (w.alloc (.cells #[v] 3)) := act_buildSl1 (fun w => Try.runUnderlying22 w) (fun w => Try.sizeOf3 w) (fun w => Try.zeroValue3 w) hv
theorem bs_41 {w : World} {x0 x1 x2 : Value} {k : Value → World → Prop} : act Try.prog (Instr.buildSlice 41 1 #[(0, .agg #[x0, x1, x2])]) k w = k (.slice (some ⟨siz w, 0, none⟩) 1 1) (w.alloc (.cells #[x0, x1, x2] 44)) := act_eq (by simp [Instr.buildSlice, Instr.fill, agg_cells, newRow, siz, show Array.range 3 = #[0, 1, 2] from rfl])
theorem cv_3_62 {kd : IntKind} {n : Int} {k : Value → Prop} : pur Try.prog (convert 3 62 (.int kd n)) k = k (.int .u64 (IntKind.u64.wrap n)) := pur_eq fun w => run_convInt (fun w => Try.runUnderlying3 w) (fun w => Try.runUnderlying62 w) w
theorem cv_3_70 {kd : IntKind} {n : Int} {k : Value → Prop} : pur Try.prog (convert 3 70 (.int kd n)) k = k (.int .u64 (IntKind.u64.wrap n)) := pur_eq fun w => run_convInt (fun w => Try.runUnderlying3 w) (fun w => Try.runUnderlying70 w) w
theorem cv_3_81 {kd : IntKind} {n : Int} {k : Value → Prop} : pur Try.prog (convert 3 81 (.int kd n)) k = k (.int .u64 (IntKind.u64.wrap n)) := pur_eq fun w => run_convInt (fun w => Try.runUnderlying3 w) (fun w => Try.runUnderlying81 w) w
theorem cv_5_3 {kd : IntKind} {n : Int} {k : Value → Prop} : pur Try.prog (convert 5 3 (.int kd n)) k = k (.int .i64 (IntKind.i64.wrap n)) := pur_eq fun w => run_convInt (fun w => Try.runUnderlying5 w) (fun w => Try.runUnderlying3 w) w
theorem cv_62_3 {kd : IntKind} {n : Int} {k : Value → Prop} : pur Try.prog (convert 62 3 (.int kd n)) k = k (.int .i64 (IntKind.i64.wrap n)) := pur_eq fun w => run_convInt (fun w => Try.runUnderlying62 w) (fun w => Try.runUnderlying3 w) w
theorem cv_62_5 {kd : IntKind} {n : Int} {k : Value → Prop} : pur Try.prog (convert 62 5 (.int kd n)) k = k (.int .u8 (IntKind.u8.wrap n)) := pur_eq fun w => run_convInt (fun w => Try.runUnderlying62 w) (fun w => Try.runUnderlying5 w) w
theorem cv_70_3 {kd : IntKind} {n : Int} {k : Value → Prop} : pur Try.prog (convert 70 3 (.int kd n)) k = k (.int .i64 (IntKind.i64.wrap n)) := pur_eq fun w => run_convInt (fun w => Try.runUnderlying70 w) (fun w => Try.runUnderlying3 w) w
theorem cv_70_79 {kd : IntKind} {n : Int} {k : Value → Prop} : pur Try.prog (convert 70 79 (.int kd n)) k = k (.int .u32 (IntKind.u32.wrap n)) := pur_eq fun w => run_convInt (fun w => Try.runUnderlying70 w) (fun w => Try.runUnderlying79 w) w
theorem cv_79_5 {kd : IntKind} {n : Int} {k : Value → Prop} : pur Try.prog (convert 79 5 (.int kd n)) k = k (.int .u8 (IntKind.u8.wrap n)) := pur_eq fun w => run_convInt (fun w => Try.runUnderlying79 w) (fun w => Try.runUnderlying5 w) w
theorem ap_22 {w : World} {base ty : Nat} {k : Value → World → Prop} {v : Value} {n : Nat} {xs : List Value} (hown : Own w base 3 1 v n xs) {b o m c : Nat} {news : List Value} (hl : news.length = m * 1) (hnews : ∀ j, j < m * 1 → cel w b (o + j) = news[j]?) (h1 : ∀ u ∈ news, one u = true)
    (hb : (n + m) * 8 ≤ 140737488355328) (hbase : base ≤ siz w) (hk : ∀ v' w', Own w' base 3 1 v' (n + m) (xs ++ news) → w.grownBy w' v.ownBlock → (∀ g, v'.ownBlock = some g → v.ownBlock = some g ∨ siz w ≤ g) → k v' w') :
    act Try.prog (Builtin.append_ #[22, 22] ty #[v, .slice (some ⟨b, o, none⟩) m c]) k w :=
  act_append (i := Try.t3) Try.underlying22 (by kernel_rfl) rfl rfl rfl rfl (by decide) hown hl hnews h1 hb (by unfold maxLen; omega) hbase hk
theorem pu_22 {w : World} {base ty : Nat} {k : Value → World → Prop} {v : Value} {n : Nat} {xs : List Value} {x0 : Value} (hown : Own w base 3 1 v n xs) (hx : ∀ u ∈ [x0], one u = true)
    (hb : (n + 1) * 8 ≤ 140737488355328) (hbase : base ≤ siz w) (hk : ∀ v' w', Own w' base 3 1 v' (n + 1) (xs ++ [x0]) → Keep (fun b => v.ownBlock = some b) w w' → (∀ g, v'.ownBlock = some g → v.ownBlock = some g ∨ siz w ≤ g) → k v' w') :
    act Try.prog (Builtin.append_ #[22, 22] ty #[v, .slice (some ⟨siz w, 0, none⟩) 1 1]) k (w.alloc (.cells #[x0] 3)) := by
  refine ap_22 (w := w.alloc _) (hown.keep ((Keep.refl (fun _ => False) w).alloc _) (fun _ _ => id)) (news := [x0]) rfl (fun j hj => ?_) hx hb (by rw [siz_alloc]; omega) fun v' w' ho hg hr => hk v' w' ho (((Keep.refl _ w).alloc _).grown hg (fun g hg' => .inl hg')) (fun g hg' => ?_)
  · rw [Nat.zero_add, cel_alloc_new]; simp [List.getElem?_toArray]
  · rcases hr g hg' with h | h
    · exact .inl h
    · rw [siz_alloc] at h; exact .inr (by omega)
theorem ap_41 {w : World} {base ty : Nat} {k : Value → World → Prop} {v : Value} {n : Nat} {xs : List Value} (hown : Own w base 44 3 v n xs) {b o m c : Nat} {news : List Value} (hl : news.length = m * 3) (hnews : ∀ j, j < m * 3 → cel w b (o + j) = news[j]?) (h1 : ∀ u ∈ news, one u = true)
    (hb : (n + m) * 24 ≤ 140737488355328) (hbase : base ≤ siz w) (hk : ∀ v' w', Own w' base 44 3 v' (n + m) (xs ++ news) → w.grownBy w' v.ownBlock → (∀ g, v'.ownBlock = some g → v.ownBlock = some g ∨ siz w ≤ g) → k v' w') :
    act Try.prog (Builtin.append_ #[41, 41] ty #[v, .slice (some ⟨b, o, none⟩) m c]) k w :=
  act_append (i := Try.t44) Try.underlying41 (by kernel_rfl) rfl rfl rfl rfl (by decide) hown hl hnews h1 hb (by unfold maxLen; omega) hbase hk
theorem pu_41 {w : World} {base ty : Nat} {k : Value → World → Prop} {v : Value} {n : Nat} {xs : List Value} {x0 x1 x2 : Value} (hown : Own w base 44 3 v n xs) (hx : ∀ u ∈ [x0, x1, x2], one u = true)
    (hb : (n + 1) * 24 ≤ 140737488355328) (hbase : base ≤ siz w) (hk : ∀ v' w', Own w' base 44 3 v' (n + 1) (xs ++ [x0, x1, x2]) → Keep (fun b => v.ownBlock = some b) w w' → (∀ g, v'.ownBlock = some g → v.ownBlock = some g ∨ siz w ≤ g) → k v' w') :
    act Try.prog (Builtin.append_ #[41, 41] ty #[v, .slice (some ⟨siz w, 0, none⟩) 1 1]) k (w.alloc (.cells #[x0, x1, x2] 44)) := by
  refine ap_41 (w := w.alloc _) (hown.keep ((Keep.refl (fun _ => False) w).alloc _) (fun _ _ => id)) (news := [x0, x1, x2]) rfl (fun j hj => ?_) hx hb (by rw [siz_alloc]; omega) fun v' w' ho hg hr => hk v' w' ho (((Keep.refl _ w).alloc _).grown hg (fun g hg' => .inl hg')) (fun g hg' => ?_)
  · rw [Nat.zero_add, cel_alloc_new]; simp [List.getElem?_toArray]
  · rcases hr g hg' with h | h
    · exact .inl h
    · rw [siz_alloc] at h; exact .inr (by omega)
theorem ky_3 : Keys Try.prog 3 isI64 (.int .i64) := keys_int (fun w => Try.runUnderlying3 w)
theorem lun_46 {w : World} {k : Value} (hk : isI64 k) (c : Bool) : (Instr.lookup 46 (.map none) k c).run Try.prog w = .ok (if c then .tuple #[(.int .i64 0), .bool false] else (.int .i64 0)) w := run_lookup_nil ky_3 (fun w => Try.runUnderlying46 w) (fun w => Try.zeroValue3 w) hk c w
theorem lu_46 {w : World} {r : Nat} {l : List (Value × Value)} {k : Value} (hm : mp w r = some l) (hl : okKeys isI64 l) (hk : isI64 k) (c : Bool) :
    (Instr.lookup 46 (.map (some r)) k c).run Try.prog w = .ok (if c then .tuple #[(aget k l).getD (.int .i64 0), .bool (aget k l).isSome] else (aget k l).getD (.int .i64 0)) w := run_lookup ky_3 (fun w => Try.runUnderlying46 w) (fun w => Try.zeroValue3 w) hm hl hk c
theorem mu_46 {w : World} {r : Nat} {l : List (Value × Value)} {k v : Value} {Q : Value → World → Prop} (hm : mp w r = some l) (hl : okKeys isI64 l) (hk : isI64 k) (h : ∀ w', MapTo w w' r (aput k v l) → Q undef w') :
    act Try.prog (thenU (Instr.mapUpdate 46 (.map (some r)) k v)) Q w := act_mapUpdate ky_3 (fun w => Try.runUnderlying46 w) hm hl hk h
theorem md_46 {w : World} {r ty t2 : Nat} {l : List (Value × Value)} {k : Value} {Q : Value → World → Prop} (hm : mp w r = some l) (hl : okKeys isI64 l) (hk : isI64 k) (h : ∀ w', MapTo w w' r (adel k l) → Q (.tuple #[]) w') :
    act Try.prog (Builtin.delete_ #[46, t2] ty #[.map (some r), k]) Q w := act_delete ky_3 (fun w => Try.runUnderlying46 w) hm hl hk h
end Go.Proofs.Ytgplmmonjmmgpaa
