/- The cache: Fill and Change. Conditions: as each says. -/
import Derived.Test.YtjfookddoaemfaaCacT
set_option linter.unusedSimpArgs false
set_option linter.unusedVariables false
namespace Go.Proofs.Ytjfookddoaemfaa
open Go.Sh Go.Sh.Lrv Go.Proofs.Ytjfookddoaemfaa.Lv
set_option maxRecDepth 100000
abbrev imgC (b v : Int) (s : ByteArray) : Obj := .cells #[.int .i64 b, .int .u64 v, .string s] 30
section
variable {w w' : World} {Q : Value → World → Prop} {c lc room : Nat} {es : List En} {ps : List (En × Nat)} {F : Nat → Prop}
theorem hldB {S : World → Prop} {t : Nat} {b v : Int} {s : ByteArray} {k : Value → Prop} (h : ∀ w', S w' → blk w' t = some (imgC b v s)) (hk : k (.int .i64 b)) : hld Try.prog S (Instr.loadAt 3 (.pointer (some ⟨t, 0, none⟩))) k :=
  hld_of _ (fun w' hw => rl_3 (cel_b (h w' hw) 0)) hk
theorem hldI {S : World → Prop} {t : Nat} {b v : Int} {s : ByteArray} {k : Value → Prop} (h : ∀ w', S w' → blk w' t = some (imgC b v s)) (hk : k (vI b v s)) : hld Try.prog S (Instr.loadAt 30 (.pointer (some ⟨t, 0, none⟩))) k :=
  hld_of _ (fun w' hw => run_loadN (n := 3) (fun w => Try.isAgg30 w) (fun w => Try.sizeOf30 w) (fun j => (#[.int .i64 b, .int .u64 v, .string s] : Array Value)[j]?.getD undef) fun
    | 0, _ => cel_b (h w' hw) 0
    | 1, _ => cel_b (h w' hw) 1
    | 2, _ => cel_b (h w' hw) 2
    | j + 3, hj => absurd hj (by omega)) hk
theorem st_tmp {t : Nat} {e : En} {K : World → Prop} (b4 : blk w t = some (.cells (encE e0).toArray 49)) (hk : ∀ w', Keep (fun b => b = t) w w' → EnAt w' t 0 e → K w') :
    act Try.prog (thenU (Instr.storeAt 49 (.pointer (some ⟨t, 0, none⟩)) (vE e))) (fun _ w5 => K w5) w := by
  rw [st_en ((enAt_new b4).is) (fre_b b4)]
  exact hk _ (Keep.stoL _ _ (Keep.refl _ _) (.inl rfl)) (enAt_sto (enAt_new b4).is)
abbrev z5 : Obj := .cells (encE e0).toArray 49
theorem z5_new : blk (w.alloc z5) (siz w) = some z5 := blk_alloc_new
/-- Peek in either order, into a variable. -/
theorem peek_tree {b v : Int} {s : ByteArray} {t : Nat} (hc : cel w c 0 = some (.pointer (some ⟨lc, 0, none⟩))) (hb1 : blk w t = some (imgC b v s)) {pe : En} {is : Bool}
    (hpk : ∀ (w' : World) (Q : Value → World → Prop), K0 w w' → (∀ w'', K0 w' w'' → Q (.tuple #[vE pe, .bool is]) w'') → callS Try.prog 22 #[.pointer (some ⟨lc, 0, none⟩), .int .i64 b] Q w')
    (J : Value → Value → World → Prop) (hJ : ∀ w' g, K0 w w' → siz w ≤ g → EnAt w' g 0 pe → J (.pointer (some ⟨g, 0, none⟩)) (.bool is) w') :
  ∃ S : World → Prop, S (World.drew w) ∧ 
 pur Try.prog (Instr.fieldAt 30 (.pointer (some ⟨t, 0, none⟩)) 0) fun t16 => 
  hld Try.prog S (Instr.loadAt 3 t16) fun t17 => 
  (callS Try.prog 20 #[.pointer (some ⟨c, 0, none⟩)] (fun t15 w_2 => S w_2 ∧ 
  (callS Try.prog 22 #[t15, t17] (fun t18 w_3 => S w_3 ∧ 
  pur Try.prog (Instr.extract t18 0) fun t19 => 
  pur Try.prog (Instr.extract t18 1) fun t20 => 
  act Try.prog (Instr.alloc 49 true (.tuple #[])) (fun t7 w_4 => S w_4 ∧ 
  act Try.prog (thenU (Instr.storeAt 49 t7 t19)) (fun _ w_5 => S w_5 ∧ 
  J t7 t20 w_5) w_4) w_3) w_2
  ) ∧ (act Try.prog (Instr.alloc 49 true (.tuple #[])) (fun t7_1 w_6 => S w_6 ∧ 
  callS Try.prog 22 #[t15, t17] (fun t18_1 w_7 => S w_7 ∧ 
  pur Try.prog (Instr.extract t18_1 0) fun t19_1 => 
  pur Try.prog (Instr.extract t18_1 1) fun t20_1 => 
  act Try.prog (thenU (Instr.storeAt 49 t7_1 t19_1)) (fun _ w_8 => S w_8 ∧ 
  J t7_1 t20_1 w_8) w_7) w_6) w_2)) (World.drew w)
  ) ∧ (act Try.prog (Instr.alloc 49 true (.tuple #[])) (fun t7_2 w_9 => S w_9 ∧ 
  callS Try.prog 20 #[.pointer (some ⟨c, 0, none⟩)] (fun t15_1 w_10 => S w_10 ∧ 
  callS Try.prog 22 #[t15_1, t17] (fun t18_2 w_11 => S w_11 ∧ 
  pur Try.prog (Instr.extract t18_2 0) fun t19_2 => 
  pur Try.prog (Instr.extract t18_2 1) fun t20_2 => 
  act Try.prog (thenU (Instr.storeAt 49 t7_2 t19_2)) (fun _ w_12 => S w_12 ∧ 
  J t7_2 t20_2 w_12) w_11) w_10) w_9) (World.drew w)) := by
  have kd : K0 w w.drew := (K0.refl w).drew
  have sd : siz w.drew = siz w := rfl
  refine ⟨fun w' => K0 w.drew w', K0.refl _, ?_⟩
  simp only [stp, Nat.reduceAdd, Int.reduceLT, Int.reduceLE, Int.reduceEq, Int.reduceNe, ne_eq, bne_self_eq_false, beq_self_eq_true]
  refine hldB (fun w' k => k.blk (kd.blk hb1 fun e => e) fun e => e) ?_
  -- the variable is laid at v, the store is at v2
  have fin : ∀ v v2, K0 w.drew v → K0 (v.alloc z5) v2 → act Try.prog (thenU (Instr.storeAt 49 (.pointer (some ⟨siz v, 0, none⟩)) (vE pe))) (fun _ w_5 => K0 w.drew w_5 ∧ J (.pointer (some ⟨siz v, 0, none⟩)) (.bool is) w_5) v2 := fun v v2 k k2 => by
    have ka : K0 v (v.alloc z5) := (K0.refl v).alloc _
    refine st_tmp (k2.blk z5_new fun e => e) fun w' k3 e3 => ?_
    have k4 : K0 w.drew w' := ((k.trans ka).trans k2).trans' k3 fun b hb e => by have := k.size; omega
    exact ⟨k4, hJ w' _ (kd.trans k4) (by have := k.size; omega) e3⟩
  refine ⟨all_c (kd.cel hc fun e => e) ⟨K0.refl _, hpk _ _ kd fun w3 k3 => ⟨k3, ?_⟩, ?_⟩, ?_⟩
  · simp only [stp, Nat.reduceAdd, Int.reduceLT, Int.reduceLE, Int.reduceEq, Int.reduceNe, ne_eq, bne_self_eq_false, beq_self_eq_true]
    exact ⟨k3.alloc _, fin w3 _ k3 (K0.refl _)⟩
  · refine ⟨(K0.refl _).alloc _, ?_⟩
    refine hpk _ _ (kd.alloc _) fun w3 k3 => ⟨((K0.refl _).alloc _).trans k3, ?_⟩
    simp only [stp, Nat.reduceAdd, Int.reduceLT, Int.reduceLE, Int.reduceEq, Int.reduceNe, ne_eq, bne_self_eq_false, beq_self_eq_true]
    exact fin w.drew w3 (K0.refl _) k3
  · refine ⟨(K0.refl _).alloc _, ?_⟩
    refine all_c ((kd.alloc _).cel hc fun e => e) ⟨(K0.refl _).alloc _, ?_⟩
    refine hpk _ _ (kd.alloc _) fun w3 k3 => ⟨((K0.refl _).alloc _).trans k3, ?_⟩
    simp only [stp, Nat.reduceAdd, Int.reduceLT, Int.reduceLE, Int.reduceEq, Int.reduceNe, ne_eq, bne_self_eq_false, beq_self_eq_true]
    exact fin w.drew w3 (K0.refl _) k3
/-- A copy of the image is put, in any order with the variable that takes what was let go. -/
theorem put_tree {mk : Value → Array (Nat × Value)} {e' : En} {t : Nat} (hc : cel w c 0 = some (.pointer (some ⟨lc, 0, none⟩))) (hFc : ¬ F c) (h : GS w lc room ps F) (hrm : 0 < room) (hlt : ∀ b, F b → b < siz w) (hb1 : blk w t = some (imgC e'.1 e'.2.1 e'.2.2.1)) (hFt : ¬ F t) (hs : e'.2.2.1.size ≤ 1000000)
    (hbd : ∀ k, pur Try.prog (Instr.build 49 (mk (vI e'.1 e'.2.1 e'.2.2.1))) k = k (vE e')) (J : Value → World → Prop) (hJ : ∀ w' F' ps' done, GS w' lc room ps' F' → St F F' w w' → Rel room ps e' ps' done → J (.bool done) w') :
  ∃ S_1 : World → Prop, S_1 (World.drew w) ∧ 
 pur Try.prog (Instr.fieldAt 30 (.pointer (some ⟨t, 0, none⟩)) 0) fun t23 => 
  hld Try.prog S_1 (Instr.loadAt 3 t23) fun t24 => 
  hld Try.prog S_1 (Instr.loadAt 30 (.pointer (some ⟨t, 0, none⟩))) fun t25 => 
  (callS Try.prog 20 #[.pointer (some ⟨c, 0, none⟩)] (fun t22 w_14 => S_1 w_14 ∧ 
  (callS Try.prog 24 #[t25] (fun t26 w_15 => S_1 w_15 ∧ 
  pur Try.prog (Instr.build 49 (mk t26)) fun t27 => 
  (callS Try.prog 23 #[t22, t24, t27] (fun t28 w_16 => S_1 w_16 ∧ 
  pur Try.prog (Instr.extract t28 0) fun _ => 
  pur Try.prog (Instr.extract t28 1) fun t30 => 
  pur Try.prog (Instr.extract t28 2) fun _ => 
  pur Try.prog (Instr.extract t28 3) fun t32 => 
  act Try.prog (Instr.alloc 49 true (.tuple #[])) (fun t8 w_17 => S_1 w_17 ∧ 
  act Try.prog (thenU (Instr.storeAt 49 t8 t30)) (fun _ w_18 => S_1 w_18 ∧ 
  J t32 w_18) w_17) w_16) w_15
  ) ∧ (act Try.prog (Instr.alloc 49 true (.tuple #[])) (fun t8_1 w_19 => S_1 w_19 ∧ 
  callS Try.prog 23 #[t22, t24, t27] (fun t28_1 w_20 => S_1 w_20 ∧ 
  pur Try.prog (Instr.extract t28_1 0) fun _ => 
  pur Try.prog (Instr.extract t28_1 1) fun t30_1 => 
  pur Try.prog (Instr.extract t28_1 2) fun _ => 
  pur Try.prog (Instr.extract t28_1 3) fun t32_1 => 
  act Try.prog (thenU (Instr.storeAt 49 t8_1 t30_1)) (fun _ w_21 => S_1 w_21 ∧ 
  J t32_1 w_21) w_20) w_19) w_15)) w_14
  ) ∧ (act Try.prog (Instr.alloc 49 true (.tuple #[])) (fun t8_2 w_22 => S_1 w_22 ∧ 
  callS Try.prog 24 #[t25] (fun t26_1 w_23 => S_1 w_23 ∧ 
  pur Try.prog (Instr.build 49 (mk t26_1)) fun t27_1 => 
  callS Try.prog 23 #[t22, t24, t27_1] (fun t28_2 w_24 => S_1 w_24 ∧ 
  pur Try.prog (Instr.extract t28_2 0) fun _ => 
  pur Try.prog (Instr.extract t28_2 1) fun t30_2 => 
  pur Try.prog (Instr.extract t28_2 2) fun _ => 
  pur Try.prog (Instr.extract t28_2 3) fun t32_2 => 
  act Try.prog (thenU (Instr.storeAt 49 t8_2 t30_2)) (fun _ w_25 => S_1 w_25 ∧ 
  J t32_2 w_25) w_24) w_23) w_22) w_14)) (World.drew w)
  ) ∧ (act Try.prog (Instr.alloc 49 true (.tuple #[])) (fun t8_3 w_26 => S_1 w_26 ∧ 
  callS Try.prog 20 #[.pointer (some ⟨c, 0, none⟩)] (fun t22_1 w_27 => S_1 w_27 ∧ 
  callS Try.prog 24 #[t25] (fun t26_2 w_28 => S_1 w_28 ∧ 
  pur Try.prog (Instr.build 49 (mk t26_2)) fun t27_2 => 
  callS Try.prog 23 #[t22_1, t24, t27_2] (fun t28_3 w_29 => S_1 w_29 ∧ 
  pur Try.prog (Instr.extract t28_3 0) fun _ => 
  pur Try.prog (Instr.extract t28_3 1) fun t30_3 => 
  pur Try.prog (Instr.extract t28_3 2) fun _ => 
  pur Try.prog (Instr.extract t28_3 3) fun t32_3 => 
  act Try.prog (thenU (Instr.storeAt 49 t8_3 t30_3)) (fun _ w_30 => S_1 w_30 ∧ 
  J t32_3 w_30) w_29) w_28) w_27) w_26) (World.drew w)) := by
  have kd : K0 w w.drew := (K0.refl w).drew
  have sd : siz w.drew = siz w := rfl
  refine ⟨fun w' => Keep F w.drew w', Keep.refl _ _, ?_⟩
  simp only [stp, Nat.reduceAdd, Int.reduceLT, Int.reduceLE, Int.reduceEq, Int.reduceNe, ne_eq, bne_self_eq_false, beq_self_eq_true]
  refine hldB (fun w' k => k.blk (kd.blk hb1 fun e => e) hFt) ?_
  refine hldI (fun w' k => k.blk (kd.blk hb1 fun e => e) hFt) ?_
  -- Put at v, the variable laid behind it
  have finA : ∀ v (K : Value → World → Prop), K0 w v → (∀ w3 F' ps' done zk zv zb, GS w3 lc room ps' F' → St F F' w w3 → Rel room ps e' ps' done → Keep F v w3 → K (.tuple #[.int .i64 zk, vE zv, .bool zb, .bool done]) w3) →
      callS Try.prog 23 #[.pointer (some ⟨lc, 0, none⟩), .int .i64 e'.1, vE e'] K v := fun v K k hK =>
    gPut (h.keep0 k) hrm fun w3 F' ps' done zk zv zb h3 s3 r3 => hK w3 F' ps' done zk zv zb h3 ((St.of0 k).trans s3) r3 s3.keep
  have finB : ∀ (w3 w4 : World) (t8 : Nat) F' ps' done (zv : En), GS w3 lc room ps' F' → St F F' w w3 → Rel room ps e' ps' done → siz w ≤ t8 → ¬ F' t8 → K0 w3 w4 → blk w4 t8 = some z5 → 
      act Try.prog (thenU (Instr.storeAt 49 (.pointer (some ⟨t8, 0, none⟩)) (vE zv))) (fun _ w_18 => Keep F w.drew w_18 ∧ J (.bool done) w_18) w4 := fun w3 w4 t8 F' ps' done zv h3 s3 r3 ht hF' k4 b4 => by
    refine st_tmp b4 fun w' k3 e3 => ?_
    have kw : Keep F w w' := (s3.keep.trans k4.none).trans' k3 fun b hb e => by omega
    refine ⟨⟨kw.os, kw.tape, kw.output, kw.size, kw.block⟩, hJ w' F' ps' done ((h3.keep0 k4).keep k3 fun b hb e => hF' (by rw [← e]; exact hb)) ⟨kw, s3.sub⟩ r3⟩
  have ow : ∀ v (K : Value → World → Prop), K0 w v → (∀ v', K0 v v' → K (vI e'.1 e'.2.1 e'.2.2.1) v') → callS Try.prog 24 #[vI e'.1 e'.2.1 e'.2.2.1] K v := fun v K k hK => own_c hs hK
  have wd : ∀ {v}, K0 w v → Keep F w.drew v := fun k => ⟨k.os, k.tape, k.output, k.size, fun b hb _ => k.block b hb fun e => e⟩
  have wk : ∀ {v}, Keep F w v → Keep F w.drew v := fun k => ⟨k.os, k.tape, k.output, k.size, k.block⟩
  have gone : ∀ {v w3 : World} {F' : Nat → Prop}, K0 w v → St F F' (v.alloc z5) w3 → ¬ F' (siz v) := fun {v w3 F'} k s e => by
    have := k.size
    rcases s.sub _ e with h1 | h1
    · have := hlt _ h1; omega
    · rw [siz_alloc] at h1; omega
  -- the variable is laid at v, Put comes at v2
  have finC : ∀ v v2, K0 w v → K0 (v.alloc z5) v2 → callS Try.prog 23 #[.pointer (some ⟨lc, 0, none⟩), .int .i64 e'.1, vE e'] (fun t28 w_20 => Keep F w.drew w_20 ∧ 
      pur Try.prog (Instr.extract t28 0) fun _ => 
      pur Try.prog (Instr.extract t28 1) fun t30 => 
      pur Try.prog (Instr.extract t28 2) fun _ => 
      pur Try.prog (Instr.extract t28 3) fun t32 => 
      act Try.prog (thenU (Instr.storeAt 49 (.pointer (some ⟨siz v, 0, none⟩)) t30)) (fun _ w_21 => Keep F w.drew w_21 ∧ J t32 w_21) w_20) v2 := fun v v2 k k2 => by
    have ka : K0 v (v.alloc z5) := (K0.refl v).alloc _
    have hv := k.size
    have hnF : ¬ F (siz v) := fun e => by have := hlt _ e; omega
    refine gPut (h.keep0 ((k.trans ka).trans k2)) hrm fun w3 F' ps' done zk zv zb h3 s3 r3 => ?_
    have s3' := (St.of0 (F := F) ((k.trans ka).trans k2)).trans s3
    refine ⟨wk s3'.keep, ?_⟩
    simp only [stp, Nat.reduceAdd, Int.reduceLT, Int.reduceLE, Int.reduceEq, Int.reduceNe, ne_eq, bne_self_eq_false, beq_self_eq_true]
    exact finB w3 w3 (siz v) F' ps' done zv h3 s3' r3 (by omega) (gone k ((St.of0 (F := F) k2).trans s3)) (K0.refl _) (s3.keep.blk (k2.blk z5_new fun e => e) hnF)
  refine ⟨all_c (kd.cel hc fun e => e) ⟨Keep.refl _ _, ow _ _ kd fun v1 k1 => ⟨k1.none, ?_⟩, ?_⟩, ?_⟩
  · rw [hbd]
    have kv1 := kd.trans k1
    refine ⟨finA v1 _ kv1 fun w3 F' ps' done zk zv zb h3 s3 r3 _ => ⟨wk s3.keep, ?_⟩, ?_⟩
    · simp only [stp, Nat.reduceAdd, Int.reduceLT, Int.reduceLE, Int.reduceEq, Int.reduceNe, ne_eq, bne_self_eq_false, beq_self_eq_true]
      have k34 : K0 w3 (w3.alloc z5) := (K0.refl w3).alloc _
      exact ⟨wk (s3.keep.trans k34.none), finB w3 (w3.alloc z5) (siz w3) _ ps' done zv h3.ltF ⟨s3.keep, fun b hb => s3.sub b hb.1⟩ r3 s3.keep.size (fun e => by have := e.2; omega) k34 z5_new⟩
    · refine ⟨wd (kv1.alloc _), ?_⟩
      exact finC v1 _ kv1 (K0.refl _)
  · refine ⟨wd (kd.alloc _), ?_⟩
    refine ow _ _ (kd.alloc _) fun v1 k1 => ⟨wd ((kd.alloc _).trans k1), ?_⟩
    rw [hbd]
    exact finC w.drew v1 kd k1
  · refine ⟨wd (kd.alloc _), ?_⟩
    refine all_c ((kd.alloc _).cel hc fun e => e) ⟨wd (kd.alloc _), ?_⟩
    refine ow _ _ (kd.alloc _) fun v1 k1 => ⟨wd ((kd.alloc _).trans k1), ?_⟩
    rw [hbd]
    exact finC w.drew v1 kd k1
/-- What Fill does to the entries. -/
def FillR (room : Nat) (es : List En) (e : En) (es' : List En) (ok : Bool) : Prop :=
  (ok = false ∧ es' = es ∧ ((∃ x ∈ es, x.1 = e.1) ∨ ((∀ x ∈ es, x.1 ≠ e.1) ∧ room ≤ es.length ∧ ∀ x ∈ es, x.2.2.2.1 = true)))
  ∨ (ok = true ∧ (∀ x ∈ es, x.1 ≠ e.1) ∧ ((es.length < room ∧ es' = e :: es) ∨ (room ≤ es.length ∧ ∃ x r, es.Perm (x :: r) ∧ x.2.2.2.1 = false ∧ es' = e :: r)))
theorem pins_mem {x : En × Nat} (h : x ∈ pins es) : x.1 ∈ es ∧ x.2 = pin x.1 := by
  obtain ⟨e, he, rfl⟩ := List.mem_map.1 h
  exact ⟨he, rfl⟩
theorem pins_of {e : En} (h : e ∈ es) : (e, pin e) ∈ pins es := List.mem_map_of_mem (f := fun e => (e, pin e)) h
theorem pin0 {e : En} (h : pin e = 0) : e.2.2.2.1 = false := by
  unfold pin at h; cases hd : e.2.2.2.1
  · rfl
  · rw [hd] at h; simp at h
theorem pin1 {e : En} (h : pin e ≠ 0) : e.2.2.2.1 = true := by
  unfold pin at h; cases hd : e.2.2.2.1
  · rw [hd] at h; simp at h
  · rfl
/-- The entries behind a list of pairs. -/
theorem pins_inv {ps : List (En × Nat)} (h : (pins es).Perm ps) : ∃ es', es.Perm es' ∧ ps = pins es' := by
  refine ⟨ps.map (·.1), ?_, ?_⟩
  · have := h.map (·.1)
    rw [pins, List.map_map] at this
    rw [show ((fun x : En × Nat => x.1) ∘ fun e => (e, pin e)) = id from rfl, List.map_id] at this
    exact this
  · have : ∀ x ∈ ps, (x.1, pin x.1) = x := fun x hx => by
      have := (pins_mem (h.mem_iff.2 hx)).2
      rw [← this]
    rw [pins, List.map_map]
    conv => lhs; rw [← List.map_id ps]
    exact List.map_congr_left fun x hx => (this x hx).symm
theorem peek_any (hl : GS w lc room (pins es) F) (b : Int) : ∃ (pe : En) (is : Bool), (is = true ∧ pe ∈ es ∧ pe.1 = b ∨ is = false ∧ pe = e0 ∧ ∀ x ∈ es, x.1 ≠ b) ∧ ∀ (w' : World) (Q : Value → World → Prop), K0 w w' → (∀ w'', K0 w' w'' → Q (.tuple #[vE pe, .bool is]) w'') → callS Try.prog 22 #[.pointer (some ⟨lc, 0, none⟩), .int .i64 b] Q w' := by
  by_cases hx : ∃ x ∈ es, x.1 = b
  · obtain ⟨x, hx, rfl⟩ := hx
    exact ⟨x, true, .inl ⟨rfl, hx, rfl⟩, fun w' Q k hq => gPeek_hit (hl.keep0 k) (pins_of hx) hq⟩
  · have hm : ∀ x ∈ es, x.1 ≠ b := fun x hx' e => hx ⟨x, hx', e⟩
    exact ⟨e0, false, .inr ⟨rfl, rfl, hm⟩, fun w' Q k hq => gPeek_miss (hl.keep0 k) (fun x hx => hm _ (pins_mem hx).1) hq⟩
theorem St.cs {F1 F' : Nat → Prop} (hc : cel w c 0 = some (.pointer (some ⟨lc, 0, none⟩))) (hFc : ¬ F c) (hF1 : ∀ b, F1 b → F b) (s : St F1 F' w w') (h : LS w' lc room es F') : CS w' c room es F' ∧ St F F' w w' := by
  have hcs := cel_lt' hc
  refine ⟨⟨lc, s.keep.cel hc fun e => hFc (hF1 _ e), fun e => ?_, h⟩, ⟨s.keep.mono fun b _ hb => hF1 b hb, fun b hb => (s.sub b hb).imp (hF1 b) id⟩⟩
  rcases s.sub _ e with h1 | h1
  · exact hFc (hF1 _ h1)
  · omega
theorem fill_c (h : CS w c room es F) (hrm : 0 < room) {b v : Int} {s : ByteArray} (hs : s.size ≤ 1000000) (hq : ∀ w' F' es' ok, CS w' c room es' F' → St F F' w w' → FillR room es (b, v, s, false, 0) es' ok → Q (.bool ok) w') :
    callS Try.prog 11 #[.pointer (some ⟨c, 0, none⟩), vI b v s] Q w := by
  refine ref11 ?_
  unfold S11
  obtain ⟨lc, hc, hFc, hl⟩ := h
  have hl0 := hl.gs
  have hg := hl.gs.ltF
  have hcs := cel_lt' hc
  rw [act_box, agg_cells]
  generalize hw1 : w.alloc _ = w1
  have b1 : blk w1 (siz w) = some (imgC b v s) := by rw [← hw1]; exact blk_alloc_new
  have k1 : K0 w w1 := by rw [← hw1]; exact (K0.refl w).alloc _
  obtain ⟨pe, is, hpe, hpk⟩ := peek_any (hg.keep0 k1) b
  refine jn1 (fun x w' => x = .bool is ∧ K0 w1 w') (fun J hJ => ?_) ?_
  · exact peek_tree (k1.cel hc fun e => e) b1 hpk (fun _ x w' => J x w') fun w' g k _ _ => hJ _ _ ⟨rfl, k⟩
  · rintro x w2 ⟨rfl, k2⟩ _j
    have k12 := k1.trans k2
    rcases hpe with ⟨rfl, hx, hb⟩ | ⟨rfl, rfl, hm⟩
    · simp only [stp, Nat.reduceAdd, Int.reduceLT, Int.reduceLE, Int.reduceEq, Int.reduceNe, ne_eq, bne_self_eq_false, beq_self_eq_true]
      have := St.cs (F' := F) hc hFc (fun b hb => hb) (St.of0 (F := F) k12) (hl.keep (G := fun _ => False) k12 fun _ _ e => e)
      exact hq _ F es false this.1 this.2 (.inl ⟨rfl, rfl, .inl ⟨pe, hx, hb⟩⟩)
    · rw [condS_false]
      have c2 := k12.cel hc (fun e => e)
      have g2 := hg.keep0 k12
      have b2 := k2.blk b1 (fun e => e)
      have hs2 := k12.size
      refine jn1 (fun x w' => ∃ done F' ps', x = .bool done ∧ GS w' lc room ps' F' ∧ St (fun b => F b ∧ b < siz w) F' w2 w' ∧ Rel room (pins es) (b, v, s, false, 0) ps' done) (fun J hJ => ?_) ?_
      · exact put_tree (mk := fun t => #[(0, t)]) (e' := (b, v, s, false, 0)) c2 (fun e => hFc e.1) g2 hrm (fun b hb => by have := hb.2; omega) b2 (fun e => by have := e.2; omega) hs (fun k => by simp only [stp, Nat.reduceAdd, Int.reduceLT, Int.reduceLE, Int.reduceEq, Int.reduceNe, ne_eq, bne_self_eq_false, beq_self_eq_true]) J fun w' F' ps' done h1 h2 h3 => hJ _ _ ⟨done, F', ps', rfl, h1, h2, h3⟩
      · rintro x w3 ⟨done, F', ps', rfl, h3, s3, r3⟩ _j
        have s03 := (St.of0 (F := fun b => F b ∧ b < siz w) k12).trans s3
        have fin : ∀ es', ps'.Perm (pins es') → FillR room es (b, v, s, false, 0) es' done → Q (.bool done) w3 := fun es' hp hr => by
          have := St.cs hc hFc (fun b hb => hb.1) s03 (h3.perm hp).ls
          exact hq _ F' es' done this.1 this.2 hr
        rcases r3 with ⟨rfl, rfl, _, hfull, hall⟩ | ⟨rfl, e, p, r, hp, he, rfl⟩ | ⟨rfl, _, hlt, rfl⟩ | ⟨rfl, _, hfull, e, r, hp, rfl⟩
        · rw [pins, List.length_map] at hfull
          exact fin es (List.Perm.refl _) (.inl ⟨rfl, rfl, .inr ⟨hm, hfull, fun x hx => pin1 (hall _ (pins_of hx))⟩⟩)
        · exact absurd he (hm e (pins_mem (hp.mem_iff.2 (List.mem_cons_self ..))).1)
        · rw [pins, List.length_map] at hlt
          exact fin ((b, v, s, false, 0) :: es) (List.Perm.refl _) (.inr ⟨rfl, hm, .inl ⟨hlt, rfl⟩⟩)
        · rw [pins, List.length_map] at hfull
          obtain ⟨es', hpe, hes⟩ := pins_inv hp
          cases es' with
          | nil => simp [pins] at hes
          | cons x es' =>
            simp only [pins, List.map_cons, List.cons.injEq, Prod.mk.injEq] at hes
            obtain ⟨⟨rfl, hpx⟩, rfl⟩ := hes
            exact fin ((b, v, s, false, 0) :: es') (List.Perm.refl _) (.inr ⟨rfl, hm, .inr ⟨hfull, e, es', hpe, pin0 hpx.symm, rfl⟩⟩)
end
end Go.Proofs.Ytjfookddoaemfaa
