/- The laws of the operations that stand in the readings, at this program's own types: printed by a program.
   Conditions: as each law says. -/
import Derived.Test.YtkmbegcjkiphjaaShS
import Derived.Test.YtkmbegcjkiphjaaS
set_option linter.unusedSimpArgs false
set_option linter.unusedVariables false
namespace Go.Proofs.Ytkmbegcjkiphjaa
open Go.Sh
set_option maxRecDepth 100000
theorem fa_27_0 {b o : Nat} {k : Value → Prop} : pur Try.prog (Instr.fieldAt 27 (.pointer (some ⟨b, o, none⟩)) 0) k = k (.pointer (some ⟨b, o, none⟩)) := pur_eq fun _ => by kernel_rfl
theorem fa_27_1 {b o : Nat} {k : Value → Prop} : pur Try.prog (Instr.fieldAt 27 (.pointer (some ⟨b, o, none⟩)) 1) k = k (.pointer (some ⟨b, o + 1, none⟩)) := pur_eq fun _ => by kernel_rfl
theorem fa_29_0 {b o : Nat} {k : Value → Prop} : pur Try.prog (Instr.fieldAt 29 (.pointer (some ⟨b, o, none⟩)) 0) k = k (.pointer (some ⟨b, o, none⟩)) := pur_eq fun _ => by kernel_rfl
theorem fa_29_1 {b o : Nat} {k : Value → Prop} : pur Try.prog (Instr.fieldAt 29 (.pointer (some ⟨b, o, none⟩)) 1) k = k (.pointer (some ⟨b, o + 1, none⟩)) := pur_eq fun _ => by kernel_rfl
theorem fa_29_3 {b o : Nat} {k : Value → Prop} : pur Try.prog (Instr.fieldAt 29 (.pointer (some ⟨b, o, none⟩)) 3) k = k (.pointer (some ⟨b, o + 3, none⟩)) := pur_eq fun _ => by kernel_rfl
theorem fa_38_0 {b o : Nat} {k : Value → Prop} : pur Try.prog (Instr.fieldAt 38 (.pointer (some ⟨b, o, none⟩)) 0) k = k (.pointer (some ⟨b, o, none⟩)) := pur_eq fun _ => by kernel_rfl
theorem fa_38_1 {b o : Nat} {k : Value → Prop} : pur Try.prog (Instr.fieldAt 38 (.pointer (some ⟨b, o, none⟩)) 1) k = k (.pointer (some ⟨b, o + 2, none⟩)) := pur_eq fun _ => by kernel_rfl
theorem fa_46_0 {b o : Nat} {k : Value → Prop} : pur Try.prog (Instr.fieldAt 46 (.pointer (some ⟨b, o, none⟩)) 0) k = k (.pointer (some ⟨b, o, none⟩)) := pur_eq fun _ => by kernel_rfl
theorem fa_46_1 {b o : Nat} {k : Value → Prop} : pur Try.prog (Instr.fieldAt 46 (.pointer (some ⟨b, o, none⟩)) 1) k = k (.pointer (some ⟨b, o + 2, none⟩)) := pur_eq fun _ => by kernel_rfl
theorem fa_60_0 {b o : Nat} {k : Value → Prop} : pur Try.prog (Instr.fieldAt 60 (.pointer (some ⟨b, o, none⟩)) 0) k = k (.pointer (some ⟨b, o, none⟩)) := pur_eq fun _ => by kernel_rfl
theorem fa_65_0 {b o : Nat} {k : Value → Prop} : pur Try.prog (Instr.fieldAt 65 (.pointer (some ⟨b, o, none⟩)) 0) k = k (.pointer (some ⟨b, o, none⟩)) := pur_eq fun _ => by kernel_rfl
theorem ld_3 {w : World} {b o : Nat} {k : Value → Prop} (h : (cel w b o).isSome = true) : rd Try.prog (Instr.loadAt 3 (.pointer (some ⟨b, o, none⟩))) k w = k ((cel w b o).getD undef) := rd_load1 (fun w => Try.isAgg3 w) h
theorem rl_3 {w : World} {b o : Nat} {v : Value} (h : cel w b o = some v) : (Instr.loadAt 3 (.pointer (some ⟨b, o, none⟩))).run Try.prog w = .ok v w := run_load1 (fun w => Try.isAgg3 w) h
theorem ld_9 {w : World} {b o : Nat} {k : Value → Prop} (h : (cel w b o).isSome = true) : rd Try.prog (Instr.loadAt 9 (.pointer (some ⟨b, o, none⟩))) k w = k ((cel w b o).getD undef) := rd_load1 (fun w => Try.isAgg9 w) h
theorem rl_9 {w : World} {b o : Nat} {v : Value} (h : cel w b o = some v) : (Instr.loadAt 9 (.pointer (some ⟨b, o, none⟩))).run Try.prog w = .ok v w := run_load1 (fun w => Try.isAgg9 w) h
theorem ld_27 {w : World} {b o : Nat} {k : Value → Prop} (h0 : (cel w b o).isSome = true) (h1 : (cel w b (o + 1)).isSome = true) : rd Try.prog (Instr.loadAt 27 (.pointer (some ⟨b, o, none⟩))) k w = k (.agg #[(cel w b o).getD undef, (cel w b (o + 1)).getD undef]) :=
  rd_eq (run_loadN (n := 2) (fun w => Try.isAgg27 w) (fun w => Try.sizeOf27 w) (fun j => (cel w b (o + j)).getD undef) fun
    | 0, _ => by rw [show o + 0 = o from rfl]; exact get_isSome h0
    | 1, _ => by rw [show o + 1 = o + 1 from rfl]; exact get_isSome h1
    | j + 2, hj => absurd hj (by omega))
theorem ld_35 {w : World} {b o : Nat} {k : Value → Prop} (h : (cel w b o).isSome = true) : rd Try.prog (Instr.loadAt 35 (.pointer (some ⟨b, o, none⟩))) k w = k ((cel w b o).getD undef) := rd_load1 (fun w => Try.isAgg35 w) h
theorem rl_35 {w : World} {b o : Nat} {v : Value} (h : cel w b o = some v) : (Instr.loadAt 35 (.pointer (some ⟨b, o, none⟩))).run Try.prog w = .ok v w := run_load1 (fun w => Try.isAgg35 w) h
theorem ld_38 {w : World} {b o : Nat} {k : Value → Prop} (h0 : (cel w b o).isSome = true) (h1 : (cel w b (o + 1)).isSome = true) (h2 : (cel w b (o + 2)).isSome = true) : rd Try.prog (Instr.loadAt 38 (.pointer (some ⟨b, o, none⟩))) k w = k (.agg #[(cel w b o).getD undef, (cel w b (o + 1)).getD undef, (cel w b (o + 2)).getD undef]) :=
  rd_eq (run_loadN (n := 3) (fun w => Try.isAgg38 w) (fun w => Try.sizeOf38 w) (fun j => (cel w b (o + j)).getD undef) fun
    | 0, _ => by rw [show o + 0 = o from rfl]; exact get_isSome h0
    | 1, _ => by rw [show o + 1 = o + 1 from rfl]; exact get_isSome h1
    | 2, _ => by rw [show o + 2 = o + 2 from rfl]; exact get_isSome h2
    | j + 3, hj => absurd hj (by omega))
theorem ld_43 {w : World} {b o : Nat} {k : Value → Prop} (h : (cel w b o).isSome = true) : rd Try.prog (Instr.loadAt 43 (.pointer (some ⟨b, o, none⟩))) k w = k ((cel w b o).getD undef) := rd_load1 (fun w => Try.isAgg43 w) h
theorem rl_43 {w : World} {b o : Nat} {v : Value} (h : cel w b o = some v) : (Instr.loadAt 43 (.pointer (some ⟨b, o, none⟩))).run Try.prog w = .ok v w := run_load1 (fun w => Try.isAgg43 w) h
theorem ld_46 {w : World} {b o : Nat} {k : Value → Prop} (h0 : (cel w b o).isSome = true) (h1 : (cel w b (o + 1)).isSome = true) (h2 : (cel w b (o + 2)).isSome = true) : rd Try.prog (Instr.loadAt 46 (.pointer (some ⟨b, o, none⟩))) k w = k (.agg #[(cel w b o).getD undef, (cel w b (o + 1)).getD undef, (cel w b (o + 2)).getD undef]) :=
  rd_eq (run_loadN (n := 3) (fun w => Try.isAgg46 w) (fun w => Try.sizeOf46 w) (fun j => (cel w b (o + j)).getD undef) fun
    | 0, _ => by rw [show o + 0 = o from rfl]; exact get_isSome h0
    | 1, _ => by rw [show o + 1 = o + 1 from rfl]; exact get_isSome h1
    | 2, _ => by rw [show o + 2 = o + 2 from rfl]; exact get_isSome h2
    | j + 3, hj => absurd hj (by omega))
theorem ld_107 {w : World} {b o : Nat} {k : Value → Prop} (h : (cel w b o).isSome = true) : rd Try.prog (Instr.loadAt 107 (.pointer (some ⟨b, o, none⟩))) k w = k ((cel w b o).getD undef) := rd_load1 (fun w => Try.isAgg107 w) h
theorem rl_107 {w : World} {b o : Nat} {v : Value} (h : cel w b o = some v) : (Instr.loadAt 107 (.pointer (some ⟨b, o, none⟩))).run Try.prog w = .ok v w := run_load1 (fun w => Try.isAgg107 w) h
theorem st_3 {w : World} {b o : Nat} {v : Value} {k : Value → World → Prop} (hv : one v = true) (h : (cel w b o).isSome = true) (hf : fre w b = true) : act Try.prog (thenU (Instr.storeAt 3 (.pointer (some ⟨b, o, none⟩)) v)) k w = k undef (sto w b o v) := act_store1 (fun w => Try.sizeOf3 w) hv h hf
theorem st_27 {w : World} {b o : Nat} {x0 x1 : Value} {k : Value → World → Prop} (hv0 : one x0 = true) (hv1 : one x1 = true) (h0 : (cel w b o).isSome = true) (h1 : (cel w b (o + 1)).isSome = true) (hf : fre w b = true) : act Try.prog (thenU (Instr.storeAt 27 (.pointer (some ⟨b, o, none⟩)) (.agg #[x0, x1]))) k w = k undef (stoL w b o [x0, x1]) :=
  act_storeN (fun w => Try.sizeOf27 w) (by intro x hx; simp only [List.mem_cons, List.not_mem_nil, or_false] at hx; rcases hx with rfl | rfl <;> assumption) (fun
    | 0, _ => h0
    | 1, _ => h1
    | j + 2, hj => absurd hj (by simp)) hf
theorem st_35 {w : World} {b o : Nat} {v : Value} {k : Value → World → Prop} (hv : one v = true) (h : (cel w b o).isSome = true) (hf : fre w b = true) : act Try.prog (thenU (Instr.storeAt 35 (.pointer (some ⟨b, o, none⟩)) v)) k w = k undef (sto w b o v) := act_store1 (fun w => Try.sizeOf35 w) hv h hf
theorem st_38 {w : World} {b o : Nat} {x0 x1 x2 : Value} {k : Value → World → Prop} (hv0 : one x0 = true) (hv1 : one x1 = true) (hv2 : one x2 = true) (h0 : (cel w b o).isSome = true) (h1 : (cel w b (o + 1)).isSome = true) (h2 : (cel w b (o + 2)).isSome = true) (hf : fre w b = true) : act Try.prog (thenU (Instr.storeAt 38 (.pointer (some ⟨b, o, none⟩)) (.agg #[x0, x1, x2]))) k w = k undef (stoL w b o [x0, x1, x2]) :=
  act_storeN (fun w => Try.sizeOf38 w) (by intro x hx; simp only [List.mem_cons, List.not_mem_nil, or_false] at hx; rcases hx with rfl | rfl | rfl <;> assumption) (fun
    | 0, _ => h0
    | 1, _ => h1
    | 2, _ => h2
    | j + 3, hj => absurd hj (by simp)) hf
theorem st_43 {w : World} {b o : Nat} {v : Value} {k : Value → World → Prop} (hv : one v = true) (h : (cel w b o).isSome = true) (hf : fre w b = true) : act Try.prog (thenU (Instr.storeAt 43 (.pointer (some ⟨b, o, none⟩)) v)) k w = k undef (sto w b o v) := act_store1 (fun w => Try.sizeOf43 w) hv h hf
theorem st_46 {w : World} {b o : Nat} {x0 x1 x2 : Value} {k : Value → World → Prop} (hv0 : one x0 = true) (hv1 : one x1 = true) (hv2 : one x2 = true) (h0 : (cel w b o).isSome = true) (h1 : (cel w b (o + 1)).isSome = true) (h2 : (cel w b (o + 2)).isSome = true) (hf : fre w b = true) : act Try.prog (thenU (Instr.storeAt 46 (.pointer (some ⟨b, o, none⟩)) (.agg #[x0, x1, x2]))) k w = k undef (stoL w b o [x0, x1, x2]) :=
  act_storeN (fun w => Try.sizeOf46 w) (by intro x hx; simp only [List.mem_cons, List.not_mem_nil, or_false] at hx; rcases hx with rfl | rfl | rfl <;> assumption) (fun
    | 0, _ => h0
    | 1, _ => h1
    | 2, _ => h2
    | j + 3, hj => absurd hj (by simp)) hf
theorem st_107 {w : World} {b o : Nat} {v : Value} {k : Value → World → Prop} (hv : one v = true) (h : (cel w b o).isSome = true) (hf : fre w b = true) : act Try.prog (thenU (Instr.storeAt 107 (.pointer (some ⟨b, o, none⟩)) v)) k w = k undef (sto w b o v) := act_store1 (fun w => Try.sizeOf107 w) hv h hf
theorem al_3 {w : World} {k : Value → World → Prop} : act Try.prog (Instr.alloc 3 true (.tuple #[])) k w = k (.pointer (some ⟨siz w, 0, none⟩)) (w.alloc (.cells #[(.int .i64 0)] 3)) := act_eq (by kernel_rfl)
theorem al_27 {w : World} {k : Value → World → Prop} : act Try.prog (Instr.alloc 27 true (.tuple #[])) k w = k (.pointer (some ⟨siz w, 0, none⟩)) (w.alloc (.cells #[(.int .i64 0), (.int .i64 0)] 27)) := act_eq (by kernel_rfl)
theorem al_38 {w : World} {k : Value → World → Prop} : act Try.prog (Instr.alloc 38 true (.tuple #[])) k w = k (.pointer (some ⟨siz w, 0, none⟩)) (w.alloc (.cells #[(.int .i64 0), (.int .i64 0), (.string ⟨#[]⟩)] 38)) := act_eq (by kernel_rfl)
theorem al_46 {w : World} {k : Value → World → Prop} : act Try.prog (Instr.alloc 46 true (.tuple #[])) k w = k (.pointer (some ⟨siz w, 0, none⟩)) (w.alloc (.cells #[(.int .i64 0), (.int .i64 0), (.int .i64 0)] 46)) := act_eq (by kernel_rfl)
theorem al_107 {w : World} {k : Value → World → Prop} : act Try.prog (Instr.alloc 107 true (.tuple #[])) k w = k (.pointer (some ⟨siz w, 0, none⟩)) (w.alloc (.cells #[(.int .u64 0)] 107)) := act_eq (by kernel_rfl)
theorem bd_27_ {k : Value → Prop}  : pur Try.prog (Instr.build 27 #[]) k = k (.agg #[(.int .i64 0), (.int .i64 0)]) :=
  pur_eq fun w => by simp [Instr.build, Instr.fill, agg_cells]
theorem bd_27_0_1 {a0 a1 : Value} {k : Value → Prop} (h0 : one a0 = true) (h1 : one a1 = true) : pur Try.prog (Instr.build 27 #[(0, a0), (1, a1)]) k = k (.agg #[a0, a1]) :=
  pur_eq fun w => by simp [Instr.build, Instr.fill, agg_cells, one_cells h0, one_cells h1]
theorem bd_27_1 {a1 : Value} {k : Value → Prop} (h1 : one a1 = true) : pur Try.prog (Instr.build 27 #[(1, a1)]) k = k (.agg #[(.int .i64 0), a1]) :=
  pur_eq fun w => by simp [Instr.build, Instr.fill, agg_cells, one_cells h1]
theorem bd_38_0_1 {a0_0 a0_1 a1 : Value} {k : Value → Prop} (h1 : one a1 = true) : pur Try.prog (Instr.build 38 #[(0, .agg #[a0_0, a0_1]), (1, a1)]) k = k (.agg #[a0_0, a0_1, a1]) :=
  pur_eq fun w => by simp [Instr.build, Instr.fill, agg_cells, one_cells h1]
theorem bd_46_0_1 {a0_0 a0_1 a1 : Value} {k : Value → Prop} (h1 : one a1 = true) : pur Try.prog (Instr.build 46 #[(0, .agg #[a0_0, a0_1]), (1, a1)]) k = k (.agg #[a0_0, a0_1, a1]) :=
  pur_eq fun w => by simp [Instr.build, Instr.fill, agg_cells, one_cells h1]
theorem bd_60_ {k : Value → Prop}  : pur Try.prog (Instr.build 60 #[]) k = k (.agg #[(.slice none 0 0)]) :=
  pur_eq fun w => by simp [Instr.build, Instr.fill, agg_cells]
theorem bd_65_ {k : Value → Prop}  : pur Try.prog (Instr.build 65 #[]) k = k (.agg #[(.slice none 0 0)]) :=
  pur_eq fun w => by simp [Instr.build, Instr.fill, agg_cells]
theorem be_4 {x y a b : Bool} {k : Value → Prop} : pur Try.prog (binS .eql 4 x y (.bool a) (.bool b)) k = k (.bool (a == b)) := pur_eq fun _ => run_beq (fun w => Try.runUnderlying4 w)
theorem pe0_24 {w : World} {x y : Bool} {k : Value → Prop} : rd Try.prog (binS .eql 24 x y (.pointer none) (.pointer none)) k w = k (.bool true) := rd_eq (run_peq_none (fun w => Try.runUnderlying24 w))
theorem pe1_24 {w : World} {x y : Bool} {a : Addr} {k : Value → Prop} : rd Try.prog (binS .eql 24 x y (.pointer (some a)) (.pointer none)) k w = k (.bool false) := rd_eq (run_peq_none (fun w => Try.runUnderlying24 w))
theorem pe2_24 {w : World} {x y : Bool} {b o b' o' : Nat} {k : Value → Prop} (h : fre w b = true) (h' : fre w b' = true) : rd Try.prog (binS .eql 24 x y (.pointer (some ⟨b, o, none⟩)) (.pointer (some ⟨b', o', none⟩))) k w = k (.bool (decide (b = b' ∧ o = o'))) := rd_eq (run_peq (fun w => Try.runUnderlying24 w) ⟨1, by decide, (fun w => Try.sizeOf60 w)⟩ h h')
theorem pe0_40 {w : World} {x y : Bool} {k : Value → Prop} : rd Try.prog (binS .eql 40 x y (.pointer none) (.pointer none)) k w = k (.bool true) := rd_eq (run_peq_none (fun w => Try.runUnderlying40 w))
theorem pe1_40 {w : World} {x y : Bool} {a : Addr} {k : Value → Prop} : rd Try.prog (binS .eql 40 x y (.pointer (some a)) (.pointer none)) k w = k (.bool false) := rd_eq (run_peq_none (fun w => Try.runUnderlying40 w))
theorem pe2_40 {w : World} {x y : Bool} {b o b' o' : Nat} {k : Value → Prop} (h : fre w b = true) (h' : fre w b' = true) : rd Try.prog (binS .eql 40 x y (.pointer (some ⟨b, o, none⟩)) (.pointer (some ⟨b', o', none⟩))) k w = k (.bool (decide (b = b' ∧ o = o'))) := rd_eq (run_peq (fun w => Try.runUnderlying40 w) ⟨1, by decide, (fun w => Try.sizeOf65 w)⟩ h h')
theorem ln_22 {a : Option Addr} {n c : Nat} {k : Value → Prop} : pur Try.prog (Builtin.len_ #[22] 3 #[.slice a n c]) k = k (.int .i64 n) := pur_eq fun _ => run_lenSl (fun w => Try.runUnderlying22 w)
theorem ln_35 {a : Option Addr} {n c : Nat} {k : Value → Prop} : pur Try.prog (Builtin.len_ #[35] 3 #[.slice a n c]) k = k (.int .i64 n) := pur_eq fun _ => run_lenSl (fun w => Try.runUnderlying35 w)
theorem ln_43 {a : Option Addr} {n c : Nat} {k : Value → Prop} : pur Try.prog (Builtin.len_ #[43] 3 #[.slice a n c]) k = k (.int .i64 n) := pur_eq fun _ => run_lenSl (fun w => Try.runUnderlying43 w)
theorem ln_49 {a : Option Addr} {n c : Nat} {k : Value → Prop} : pur Try.prog (Builtin.len_ #[49] 3 #[.slice a n c]) k = k (.int .i64 n) := pur_eq fun _ => run_lenSl (fun w => Try.runUnderlying49 w)
theorem ln_106 {a : Option Addr} {n c : Nat} {k : Value → Prop} : pur Try.prog (Builtin.len_ #[106] 3 #[.slice a n c]) k = k (.int .i64 n) := pur_eq fun _ => run_lenSl (fun w => Try.runUnderlying106 w)
theorem ix_22 {b o n c i : Nat} {kd : IntKind} {k : Value → Prop} (h : i < n) : pur Try.prog (Instr.indexAt 22 (.slice (some ⟨b, o, none⟩) n c) (.int kd i)) k = k (.pointer (some ⟨b, o + i * 5, none⟩)) := pur_eq fun w => run_index (fun w => Try.runUnderlying22 w) (fun w => Try.sizeOf29 w) h
theorem ix_35 {b o n c i : Nat} {kd : IntKind} {k : Value → Prop} (h : i < n) : pur Try.prog (Instr.indexAt 35 (.slice (some ⟨b, o, none⟩) n c) (.int kd i)) k = k (.pointer (some ⟨b, o + i * 3, none⟩)) := pur_eq fun w => run_index (fun w => Try.runUnderlying35 w) (fun w => Try.sizeOf38 w) h
theorem ix_43 {b o n c i : Nat} {kd : IntKind} {k : Value → Prop} (h : i < n) : pur Try.prog (Instr.indexAt 43 (.slice (some ⟨b, o, none⟩) n c) (.int kd i)) k = k (.pointer (some ⟨b, o + i * 3, none⟩)) := pur_eq fun w => run_index (fun w => Try.runUnderlying43 w) (fun w => Try.sizeOf46 w) h
theorem ix_49 {b o n c i : Nat} {kd : IntKind} {k : Value → Prop} (h : i < n) : pur Try.prog (Instr.indexAt 49 (.slice (some ⟨b, o, none⟩) n c) (.int kd i)) k = k (.pointer (some ⟨b, o + i * 2, none⟩)) := pur_eq fun w => run_index (fun w => Try.runUnderlying49 w) (fun w => Try.sizeOf27 w) h
theorem ix_106 {b o n c i : Nat} {kd : IntKind} {k : Value → Prop} (h : i < n) : pur Try.prog (Instr.indexAt 106 (.slice (some ⟨b, o, none⟩) n c) (.int kd i)) k = k (.pointer (some ⟨b, o + i, none⟩)) := pur_eq fun w => (by have := run_index (kd := kd) (b := b) (o := o) (c := c) (w := w) (fun w => Try.runUnderlying106 w) (fun w => Try.sizeOf3 w) h; rwa [Nat.mul_one] at this)
theorem slt_49 {b o n c j : Nat} {kd : IntKind} {k : Value → Prop} (h : j ≤ c) : pur Try.prog (Instr.sliceAt 49 (.slice (some ⟨b, o, none⟩) n c) none (some (.int kd j)) none) k = k (.slice (some ⟨b, o, none⟩) j c) := pur_eq fun w => run_sliceTo (fun w => Try.runUnderlying49 w) (fun w => Try.sizeOf27 w) h kd
theorem bs_30 {w : World} {v : Value} {k : Value → World → Prop} (hv : one v = true) : act Try.prog (Instr.buildSlice 30 1 #[(0, v)]) k w = k (.slice (some ⟨siz w, 0, none⟩) 1 1) (w.alloc (.cells #[v] 5)) := act_buildSl1 (fun w => Try.runUnderlying30 w) (fun w => Try.sizeOf5 w) (fun w => Try.zeroValue5 w) hv
theorem bs_35 {w : World} {x0 x1 x2 : Value} {k : Value → World → Prop} : act Try.prog (Instr.buildSlice 35 1 #[(0, .agg #[x0, x1, x2])]) k w = k (.slice (some ⟨siz w, 0, none⟩) 1 1) (w.alloc (.cells #[x0, x1, x2] 38)) := act_eq (by simp [Instr.buildSlice, Instr.fill, agg_cells, newRow, siz, show Array.range 3 = #[0, 1, 2] from rfl])
theorem bs_43 {w : World} {x0 x1 x2 : Value} {k : Value → World → Prop} : act Try.prog (Instr.buildSlice 43 1 #[(0, .agg #[x0, x1, x2])]) k w = k (.slice (some ⟨siz w, 0, none⟩) 1 1) (w.alloc (.cells #[x0, x1, x2] 46)) := act_eq (by simp [Instr.buildSlice, Instr.fill, agg_cells, newRow, siz, show Array.range 3 = #[0, 1, 2] from rfl])
theorem bs_49 {w : World} {x0 x1 : Value} {k : Value → World → Prop} : act Try.prog (Instr.buildSlice 49 1 #[(0, .agg #[x0, x1])]) k w = k (.slice (some ⟨siz w, 0, none⟩) 1 1) (w.alloc (.cells #[x0, x1] 27)) := act_eq (by simp [Instr.buildSlice, Instr.fill, agg_cells, newRow, siz, show Array.range 2 = #[0, 1] from rfl])
theorem bs2_106 {w : World} {v v' : Value} {k : Value → World → Prop} (hv : one v = true) (hv' : one v' = true) : act Try.prog (Instr.buildSlice 106 2 #[(0, v), (1, v')]) k w = k (.slice (some ⟨siz w, 0, none⟩) 2 2) (w.alloc (.cells #[v, v'] 3)) := act_buildSl2 (fun w => Try.runUnderlying106 w) (fun w => Try.sizeOf3 w) (fun w => Try.zeroValue3 w) hv hv' rfl
theorem cv_3_5 {kd : IntKind} {n : Int} {k : Value → Prop} : pur Try.prog (convert 3 5 (.int kd n)) k = k (.int .u8 (IntKind.u8.wrap n)) := pur_eq fun w => run_convInt (fun w => Try.runUnderlying3 w) (fun w => Try.runUnderlying5 w) w
theorem cv_3_80 {kd : IntKind} {n : Int} {k : Value → Prop} : pur Try.prog (convert 3 80 (.int kd n)) k = k (.int .u64 (IntKind.u64.wrap n)) := pur_eq fun w => run_convInt (fun w => Try.runUnderlying3 w) (fun w => Try.runUnderlying80 w) w
theorem cv_3_107 {kd : IntKind} {n : Int} {k : Value → Prop} : pur Try.prog (convert 3 107 (.int kd n)) k = k (.int .u64 (IntKind.u64.wrap n)) := pur_eq fun w => run_convInt (fun w => Try.runUnderlying3 w) (fun w => Try.runUnderlying107 w) w
theorem cv_5_3 {kd : IntKind} {n : Int} {k : Value → Prop} : pur Try.prog (convert 5 3 (.int kd n)) k = k (.int .i64 (IntKind.i64.wrap n)) := pur_eq fun w => run_convInt (fun w => Try.runUnderlying5 w) (fun w => Try.runUnderlying3 w) w
theorem cv_80_3 {kd : IntKind} {n : Int} {k : Value → Prop} : pur Try.prog (convert 80 3 (.int kd n)) k = k (.int .i64 (IntKind.i64.wrap n)) := pur_eq fun w => run_convInt (fun w => Try.runUnderlying80 w) (fun w => Try.runUnderlying3 w) w
theorem cv_80_96 {kd : IntKind} {n : Int} {k : Value → Prop} : pur Try.prog (convert 80 96 (.int kd n)) k = k (.int .u32 (IntKind.u32.wrap n)) := pur_eq fun w => run_convInt (fun w => Try.runUnderlying80 w) (fun w => Try.runUnderlying96 w) w
theorem cv_96_5 {kd : IntKind} {n : Int} {k : Value → Prop} : pur Try.prog (convert 96 5 (.int kd n)) k = k (.int .u8 (IntKind.u8.wrap n)) := pur_eq fun w => run_convInt (fun w => Try.runUnderlying96 w) (fun w => Try.runUnderlying5 w) w
theorem cv_98_5 {kd : IntKind} {n : Int} {k : Value → Prop} : pur Try.prog (convert 98 5 (.int kd n)) k = k (.int .u8 (IntKind.u8.wrap n)) := pur_eq fun w => run_convInt (fun w => Try.runUnderlying98 w) (fun w => Try.runUnderlying5 w) w
theorem ap_35 {w : World} {base ty : Nat} {k : Value → World → Prop} {v : Value} {n : Nat} {xs : List Value} (hown : Own w base 38 3 v n xs) {b o m c : Nat} {news : List Value} (hl : news.length = m * 3) (hnews : ∀ j, j < m * 3 → cel w b (o + j) = news[j]?) (h1 : ∀ u ∈ news, one u = true)
    (hb : (n + m) * 32 ≤ 140737488355328) (hbase : base ≤ siz w) (hk : ∀ v' w', Own w' base 38 3 v' (n + m) (xs ++ news) → w.grownBy w' v.ownBlock → (∀ g, v'.ownBlock = some g → v.ownBlock = some g ∨ siz w ≤ g) → k v' w') :
    act Try.prog (Builtin.append_ #[35, 35] ty #[v, .slice (some ⟨b, o, none⟩) m c]) k w :=
  act_append (i := Try.t38) Try.underlying35 (by kernel_rfl) rfl rfl rfl rfl (by decide) hown hl hnews h1 hb (by unfold maxLen; omega) hbase hk
theorem pu_35 {w : World} {base ty : Nat} {k : Value → World → Prop} {v : Value} {n : Nat} {xs : List Value} {x0 x1 x2 : Value} (hown : Own w base 38 3 v n xs) (hx : ∀ u ∈ [x0, x1, x2], one u = true)
    (hb : (n + 1) * 32 ≤ 140737488355328) (hbase : base ≤ siz w) (hk : ∀ v' w', Own w' base 38 3 v' (n + 1) (xs ++ [x0, x1, x2]) → Keep (fun b => v.ownBlock = some b) w w' → (∀ g, v'.ownBlock = some g → v.ownBlock = some g ∨ siz w ≤ g) → k v' w') :
    act Try.prog (Builtin.append_ #[35, 35] ty #[v, .slice (some ⟨siz w, 0, none⟩) 1 1]) k (w.alloc (.cells #[x0, x1, x2] 38)) := by
  refine ap_35 (w := w.alloc _) (hown.keep ((Keep.refl (fun _ => False) w).alloc _) (fun _ _ => id)) (news := [x0, x1, x2]) rfl (fun j hj => ?_) hx hb (by rw [siz_alloc]; omega) fun v' w' ho hg hr => hk v' w' ho (((Keep.refl _ w).alloc _).grown hg (fun g hg' => .inl hg')) (fun g hg' => ?_)
  · rw [Nat.zero_add, cel_alloc_new]; simp [List.getElem?_toArray]
  · rcases hr g hg' with h | h
    · exact .inl h
    · rw [siz_alloc] at h; exact .inr (by omega)
theorem ap_43 {w : World} {base ty : Nat} {k : Value → World → Prop} {v : Value} {n : Nat} {xs : List Value} (hown : Own w base 46 3 v n xs) {b o m c : Nat} {news : List Value} (hl : news.length = m * 3) (hnews : ∀ j, j < m * 3 → cel w b (o + j) = news[j]?) (h1 : ∀ u ∈ news, one u = true)
    (hb : (n + m) * 24 ≤ 140737488355328) (hbase : base ≤ siz w) (hk : ∀ v' w', Own w' base 46 3 v' (n + m) (xs ++ news) → w.grownBy w' v.ownBlock → (∀ g, v'.ownBlock = some g → v.ownBlock = some g ∨ siz w ≤ g) → k v' w') :
    act Try.prog (Builtin.append_ #[43, 43] ty #[v, .slice (some ⟨b, o, none⟩) m c]) k w :=
  act_append (i := Try.t46) Try.underlying43 (by kernel_rfl) rfl rfl rfl rfl (by decide) hown hl hnews h1 hb (by unfold maxLen; omega) hbase hk
theorem pu_43 {w : World} {base ty : Nat} {k : Value → World → Prop} {v : Value} {n : Nat} {xs : List Value} {x0 x1 x2 : Value} (hown : Own w base 46 3 v n xs) (hx : ∀ u ∈ [x0, x1, x2], one u = true)
    (hb : (n + 1) * 24 ≤ 140737488355328) (hbase : base ≤ siz w) (hk : ∀ v' w', Own w' base 46 3 v' (n + 1) (xs ++ [x0, x1, x2]) → Keep (fun b => v.ownBlock = some b) w w' → (∀ g, v'.ownBlock = some g → v.ownBlock = some g ∨ siz w ≤ g) → k v' w') :
    act Try.prog (Builtin.append_ #[43, 43] ty #[v, .slice (some ⟨siz w, 0, none⟩) 1 1]) k (w.alloc (.cells #[x0, x1, x2] 46)) := by
  refine ap_43 (w := w.alloc _) (hown.keep ((Keep.refl (fun _ => False) w).alloc _) (fun _ _ => id)) (news := [x0, x1, x2]) rfl (fun j hj => ?_) hx hb (by rw [siz_alloc]; omega) fun v' w' ho hg hr => hk v' w' ho (((Keep.refl _ w).alloc _).grown hg (fun g hg' => .inl hg')) (fun g hg' => ?_)
  · rw [Nat.zero_add, cel_alloc_new]; simp [List.getElem?_toArray]
  · rcases hr g hg' with h | h
    · exact .inl h
    · rw [siz_alloc] at h; exact .inr (by omega)
theorem ap_49 {w : World} {base ty : Nat} {k : Value → World → Prop} {v : Value} {n : Nat} {xs : List Value} (hown : Own w base 27 2 v n xs) {b o m c : Nat} {news : List Value} (hl : news.length = m * 2) (hnews : ∀ j, j < m * 2 → cel w b (o + j) = news[j]?) (h1 : ∀ u ∈ news, one u = true)
    (hb : (n + m) * 16 ≤ 140737488355328) (hbase : base ≤ siz w) (hk : ∀ v' w', Own w' base 27 2 v' (n + m) (xs ++ news) → w.grownBy w' v.ownBlock → (∀ g, v'.ownBlock = some g → v.ownBlock = some g ∨ siz w ≤ g) → k v' w') :
    act Try.prog (Builtin.append_ #[49, 49] ty #[v, .slice (some ⟨b, o, none⟩) m c]) k w :=
  act_append (i := Try.t27) Try.underlying49 (by kernel_rfl) rfl rfl rfl rfl (by decide) hown hl hnews h1 hb (by unfold maxLen; omega) hbase hk
theorem pu_49 {w : World} {base ty : Nat} {k : Value → World → Prop} {v : Value} {n : Nat} {xs : List Value} {x0 x1 : Value} (hown : Own w base 27 2 v n xs) (hx : ∀ u ∈ [x0, x1], one u = true)
    (hb : (n + 1) * 16 ≤ 140737488355328) (hbase : base ≤ siz w) (hk : ∀ v' w', Own w' base 27 2 v' (n + 1) (xs ++ [x0, x1]) → Keep (fun b => v.ownBlock = some b) w w' → (∀ g, v'.ownBlock = some g → v.ownBlock = some g ∨ siz w ≤ g) → k v' w') :
    act Try.prog (Builtin.append_ #[49, 49] ty #[v, .slice (some ⟨siz w, 0, none⟩) 1 1]) k (w.alloc (.cells #[x0, x1] 27)) := by
  refine ap_49 (w := w.alloc _) (hown.keep ((Keep.refl (fun _ => False) w).alloc _) (fun _ _ => id)) (news := [x0, x1]) rfl (fun j hj => ?_) hx hb (by rw [siz_alloc]; omega) fun v' w' ho hg hr => hk v' w' ho (((Keep.refl _ w).alloc _).grown hg (fun g hg' => .inl hg')) (fun g hg' => ?_)
  · rw [Nat.zero_add, cel_alloc_new]; simp [List.getElem?_toArray]
  · rcases hr g hg' with h | h
    · exact .inl h
    · rw [siz_alloc] at h; exact .inr (by omega)
theorem eqIn_27 {d : Nat} {a0 b0 : Int} {a1 b1 : Int} {w : World} : (Op.equalIn (d + 2) 27 (.agg #[.int .i64 a0, .int .i64 a1]) (.agg #[.int .i64 b0, .int .i64 b1])).run Try.prog w = .ok (decide (a0 = b0) && decide (a1 = b1)) w := by
  unfold Op.equalIn
  rw [Sem.run_bind, Try.runUnderlying27]
  simp [show Try.prog.stoodInHeld 27 = false from by kernel_rfl, part_one (P := Try.prog) (fun w => Try.isAgg3 w), eqIn_int (P := Try.prog) (t := 3) (fun w => Try.runUnderlying3 w)]
  try (by_cases h0 : a0 = b0 <;> by_cases h1 : a1 = b1 <;> simp [h0, h1])
theorem se_27 {a0 b0 : Int} {a1 b1 : Int} {x y : Bool} {w : World} {k : Value → Prop} : rd Try.prog (binS .eql 27 x y (.agg #[.int .i64 a0, .int .i64 a1]) (.agg #[.int .i64 b0, .int .i64 b1])) k w = k (.bool ((decide (a0 = b0) && decide (a1 = b1)))) := rd_eq (run_eqAgg (by kernel_rfl) (fun d w => eqIn_27 (d := d + 7)) w)
theorem sq_35 {w : World} {x y : Bool} {a : Option Addr} {n c : Nat} {k : Value → Prop} : rd Try.prog (binS .eql 35 x y (.slice a n c) (.slice none 0 0)) k w = k (.bool a.isNone) := rd_eq (run_sleq_none (fun w => Try.runUnderlying35 w))
theorem sq_43 {w : World} {x y : Bool} {a : Option Addr} {n c : Nat} {k : Value → Prop} : rd Try.prog (binS .eql 43 x y (.slice a n c) (.slice none 0 0)) k w = k (.bool a.isNone) := rd_eq (run_sleq_none (fun w => Try.runUnderlying43 w))
theorem sq_49 {w : World} {x y : Bool} {a : Option Addr} {n c : Nat} {k : Value → Prop} : rd Try.prog (binS .eql 49 x y (.slice a n c) (.slice none 0 0)) k w = k (.bool a.isNone) := rd_eq (run_sleq_none (fun w => Try.runUnderlying49 w))
theorem eqIn_46 {d : Nat} {a0 b0 : Int} {a1 b1 : Int} {a2 b2 : Int} {w : World} : (Op.equalIn (d + 3) 46 (.agg #[.int .i64 a0, .int .i64 a1, .int .i64 a2]) (.agg #[.int .i64 b0, .int .i64 b1, .int .i64 b2])).run Try.prog w = .ok ((decide (a0 = b0) && decide (a1 = b1)) && decide (a2 = b2)) w := by
  unfold Op.equalIn
  rw [Sem.run_bind, Try.runUnderlying46]
  simp [show Try.prog.stoodInHeld 46 = false from by kernel_rfl, part_agg (P := Try.prog) (fun w => Try.isAgg27 w) (fun w => Try.sizeOf27 w), eqIn_27, part_one (P := Try.prog) (fun w => Try.isAgg3 w), eqIn_int (P := Try.prog) (t := 3) (fun w => Try.runUnderlying3 w)]
  try (by_cases h0 : a0 = b0 <;> by_cases h1 : a1 = b1 <;> by_cases h2 : a2 = b2 <;> simp [h0, h1, h2])
theorem sn_46 {a0 b0 : Int} {a1 b1 : Int} {a2 b2 : Int} {x y : Bool} {w : World} {k : Value → Prop} : rd Try.prog (binS .neq 46 x y (.agg #[.int .i64 a0, .int .i64 a1, .int .i64 a2]) (.agg #[.int .i64 b0, .int .i64 b1, .int .i64 b2])) k w = k (.bool (!((decide (a0 = b0) && decide (a1 = b1)) && decide (a2 = b2)))) := rd_eq (run_neAgg (by kernel_rfl) (fun d w => eqIn_46 (d := d + 6)) w)
theorem bz_30_1 {w : World} {x0_0 : Value} {k : Value → World → Prop} (h0 : one x0_0 = true) : act Try.prog (Instr.buildSlice 30 1 #[(0, x0_0)]) k w = k (.slice (some ⟨siz w, 0, none⟩) 1 1) (w.alloc (.cells #[x0_0] 5)) := act_eq (by simp [Instr.buildSlice, Try.runUnderlying30, Try.sizeOf5, Try.zeroValue5, Instr.fill, agg_cells, newRow, siz, show Array.range 1 = #[0] from rfl, one_cells h0, one_cells (show one (.int .u8 0) = true from rfl)]; try rfl)
theorem bz_35_0 {w : World}  {k : Value → World → Prop}  : act Try.prog (Instr.buildSlice 35 0 #[]) k w = k (.slice (some ⟨siz w, 0, none⟩) 0 0) (w.alloc (.cells #[] 38)) := act_eq (by simp [Instr.buildSlice, Try.runUnderlying35, Try.sizeOf38, Try.zeroValue38, Instr.fill, agg_cells, newRow, siz, show Array.range 0 = #[] from rfl]; try rfl)
theorem bz_35_1 {w : World} {x0_0 x0_1 x0_2 : Value} {k : Value → World → Prop}  : act Try.prog (Instr.buildSlice 35 1 #[(0, .agg #[x0_0, x0_1, x0_2])]) k w = k (.slice (some ⟨siz w, 0, none⟩) 1 1) (w.alloc (.cells #[x0_0, x0_1, x0_2] 38)) := act_eq (by simp [Instr.buildSlice, Try.runUnderlying35, Try.sizeOf38, Try.zeroValue38, Instr.fill, agg_cells, newRow, siz, show Array.range 3 = #[0, 1, 2] from rfl]; try rfl)
theorem bz_43_0 {w : World}  {k : Value → World → Prop}  : act Try.prog (Instr.buildSlice 43 0 #[]) k w = k (.slice (some ⟨siz w, 0, none⟩) 0 0) (w.alloc (.cells #[] 46)) := act_eq (by simp [Instr.buildSlice, Try.runUnderlying43, Try.sizeOf46, Try.zeroValue46, Instr.fill, agg_cells, newRow, siz, show Array.range 0 = #[] from rfl]; try rfl)
theorem bz_43_1 {w : World} {x0_0 x0_1 x0_2 : Value} {k : Value → World → Prop}  : act Try.prog (Instr.buildSlice 43 1 #[(0, .agg #[x0_0, x0_1, x0_2])]) k w = k (.slice (some ⟨siz w, 0, none⟩) 1 1) (w.alloc (.cells #[x0_0, x0_1, x0_2] 46)) := act_eq (by simp [Instr.buildSlice, Try.runUnderlying43, Try.sizeOf46, Try.zeroValue46, Instr.fill, agg_cells, newRow, siz, show Array.range 3 = #[0, 1, 2] from rfl]; try rfl)
theorem bz_49_0 {w : World}  {k : Value → World → Prop}  : act Try.prog (Instr.buildSlice 49 0 #[]) k w = k (.slice (some ⟨siz w, 0, none⟩) 0 0) (w.alloc (.cells #[] 27)) := act_eq (by simp [Instr.buildSlice, Try.runUnderlying49, Try.sizeOf27, Try.zeroValue27, Instr.fill, agg_cells, newRow, siz, show Array.range 0 = #[] from rfl]; try rfl)
theorem bz_49_1 {w : World} {x0_0 x0_1 : Value} {k : Value → World → Prop}  : act Try.prog (Instr.buildSlice 49 1 #[(0, .agg #[x0_0, x0_1])]) k w = k (.slice (some ⟨siz w, 0, none⟩) 1 1) (w.alloc (.cells #[x0_0, x0_1] 27)) := act_eq (by simp [Instr.buildSlice, Try.runUnderlying49, Try.sizeOf27, Try.zeroValue27, Instr.fill, agg_cells, newRow, siz, show Array.range 2 = #[0, 1] from rfl]; try rfl)
theorem bz_49_2 {w : World} {x0_0 x0_1 x1_0 x1_1 : Value} {k : Value → World → Prop}  : act Try.prog (Instr.buildSlice 49 2 #[(0, .agg #[x0_0, x0_1]), (1, .agg #[x1_0, x1_1])]) k w = k (.slice (some ⟨siz w, 0, none⟩) 2 2) (w.alloc (.cells #[x0_0, x0_1, x1_0, x1_1] 27)) := act_eq (by simp [Instr.buildSlice, Try.runUnderlying49, Try.sizeOf27, Try.zeroValue27, Instr.fill, agg_cells, newRow, siz, show Array.range 4 = #[0, 1, 2, 3] from rfl]; try rfl)
theorem bz_106_2 {w : World} {x0_0 x1_0 : Value} {k : Value → World → Prop} (h0 : one x0_0 = true) (h1 : one x1_0 = true) : act Try.prog (Instr.buildSlice 106 2 #[(0, x0_0), (1, x1_0)]) k w = k (.slice (some ⟨siz w, 0, none⟩) 2 2) (w.alloc (.cells #[x0_0, x1_0] 3)) := act_eq (by simp [Instr.buildSlice, Try.runUnderlying106, Try.sizeOf3, Try.zeroValue3, Instr.fill, agg_cells, newRow, siz, show Array.range 2 = #[0, 1] from rfl, one_cells h0, one_cells h1, one_cells (show one (.int .i64 0) = true from rfl)]; try rfl)
theorem slf_49 {b o n c i : Nat} {kd : IntKind} {k : Value → Prop} (h : i ≤ n) (hn : n ≤ c) : pur Try.prog (Instr.sliceAt 49 (.slice (some ⟨b, o, none⟩) n c) (some (.int kd i)) none none) k = k (.slice (some (if c = i then ⟨b, o, none⟩ else ⟨b, o + i * 2, none⟩)) (n - i) (c - i)) := pur_eq fun w => run_sliceFrom (fun w => Try.runUnderlying49 w) (fun w => Try.sizeOf27 w) h hn kd w
theorem slb_49 {b o n c i j : Nat} {kd kd' : IntKind} {k : Value → Prop} (h : i ≤ j) (h' : j ≤ c) : pur Try.prog (Instr.sliceAt 49 (.slice (some ⟨b, o, none⟩) n c) (some (.int kd i)) (some (.int kd' j)) none) k = k (.slice (some (if c = i then ⟨b, o, none⟩ else ⟨b, o + i * 2, none⟩)) (j - i) (c - i)) := pur_eq fun w => run_sliceAt (fun w => Try.runUnderlying49 w) (fun w => Try.sizeOf27 w) h h' kd kd'
theorem slt0_49 {kd : IntKind} {k : Value → Prop} : pur Try.prog (Instr.sliceAt 49 (.slice none 0 0) none (some (.int kd 0)) none) k = k (.slice none 0 0) := pur_eq fun w => run_sliceToNil (fun w => Try.runUnderlying49 w) (fun w => Try.sizeOf27 w) kd w
theorem slf0_49 {kd : IntKind} {k : Value → Prop} : pur Try.prog (Instr.sliceAt 49 (.slice none 0 0) (some (.int kd 0)) none none) k = k (.slice none 0 0) := pur_eq fun w => run_sliceNil (fun w => Try.runUnderlying49 w) (fun w => Try.sizeOf27 w) kd w
theorem stn_3 {w : World} {z v : Value} {tt : TypeId} {k : Value → World → Prop} (hv : one v = true) : act Try.prog (thenU (Instr.storeAt 3 (.pointer (some ⟨siz w, 0, none⟩)) v)) k (w.alloc (.cells #[z] tt)) = k undef (w.alloc (.cells #[v] tt)) := act_store_new1 (fun w => Try.sizeOf3 w) hv
theorem stn_27 {w : World} {x0 x1 z0 z1 : Value} {tt : TypeId} {k : Value → World → Prop} (hv0 : one x0 = true) (hv1 : one x1 = true) : act Try.prog (thenU (Instr.storeAt 27 (.pointer (some ⟨siz w, 0, none⟩)) (.agg #[x0, x1]))) k (w.alloc (.cells #[z0, z1] tt)) = k undef (w.alloc (.cells #[x0, x1] tt)) := act_store_newN (l := [x0, x1]) (zs := [z0, z1]) (fun w => Try.sizeOf27 w) (by intro x hx; simp only [List.mem_cons, List.not_mem_nil, or_false] at hx; rcases hx with rfl | rfl <;> assumption) rfl
theorem stn_38 {w : World} {x0 x1 x2 z0 z1 z2 : Value} {tt : TypeId} {k : Value → World → Prop} (hv0 : one x0 = true) (hv1 : one x1 = true) (hv2 : one x2 = true) : act Try.prog (thenU (Instr.storeAt 38 (.pointer (some ⟨siz w, 0, none⟩)) (.agg #[x0, x1, x2]))) k (w.alloc (.cells #[z0, z1, z2] tt)) = k undef (w.alloc (.cells #[x0, x1, x2] tt)) := act_store_newN (l := [x0, x1, x2]) (zs := [z0, z1, z2]) (fun w => Try.sizeOf38 w) (by intro x hx; simp only [List.mem_cons, List.not_mem_nil, or_false] at hx; rcases hx with rfl | rfl | rfl <;> assumption) rfl
theorem stn_46 {w : World} {x0 x1 x2 z0 z1 z2 : Value} {tt : TypeId} {k : Value → World → Prop} (hv0 : one x0 = true) (hv1 : one x1 = true) (hv2 : one x2 = true) : act Try.prog (thenU (Instr.storeAt 46 (.pointer (some ⟨siz w, 0, none⟩)) (.agg #[x0, x1, x2]))) k (w.alloc (.cells #[z0, z1, z2] tt)) = k undef (w.alloc (.cells #[x0, x1, x2] tt)) := act_store_newN (l := [x0, x1, x2]) (zs := [z0, z1, z2]) (fun w => Try.sizeOf46 w) (by intro x hx; simp only [List.mem_cons, List.not_mem_nil, or_false] at hx; rcases hx with rfl | rfl | rfl <;> assumption) rfl
theorem stn_107 {w : World} {z v : Value} {tt : TypeId} {k : Value → World → Prop} (hv : one v = true) : act Try.prog (thenU (Instr.storeAt 107 (.pointer (some ⟨siz w, 0, none⟩)) v)) k (w.alloc (.cells #[z] tt)) = k undef (w.alloc (.cells #[v] tt)) := act_store_new1 (fun w => Try.sizeOf107 w) hv
theorem ap0_35 {w : World} {base ty : Nat} {k : Value → World → Prop} {v : Value} {n : Nat} {xs : List Value} (hown : Own w base 38 3 v n xs) {a : Option Addr} {c : Nat} : act Try.prog (Builtin.append_ #[35, 35] ty #[v, .slice a 0 c]) k w = k v w := act_append0 (fun w => Try.runUnderlying35 w) (fun w => Try.sizeOf38 w) hown
theorem ap0_43 {w : World} {base ty : Nat} {k : Value → World → Prop} {v : Value} {n : Nat} {xs : List Value} (hown : Own w base 46 3 v n xs) {a : Option Addr} {c : Nat} : act Try.prog (Builtin.append_ #[43, 43] ty #[v, .slice a 0 c]) k w = k v w := act_append0 (fun w => Try.runUnderlying43 w) (fun w => Try.sizeOf46 w) hown
theorem ap0_49 {w : World} {base ty : Nat} {k : Value → World → Prop} {v : Value} {n : Nat} {xs : List Value} (hown : Own w base 27 2 v n xs) {a : Option Addr} {c : Nat} : act Try.prog (Builtin.append_ #[49, 49] ty #[v, .slice a 0 c]) k w = k v w := act_append0 (fun w => Try.runUnderlying49 w) (fun w => Try.sizeOf27 w) hown
end Go.Proofs.Ytkmbegcjkiphjaa
