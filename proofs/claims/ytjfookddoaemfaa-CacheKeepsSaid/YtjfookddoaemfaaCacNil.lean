/- The cache at nil, and one without an inner map. Conditions: as each says. -/
import Derived.Test.YtjfookddoaemfaaCacRoom
set_option linter.unusedSimpArgs false
set_option linter.unusedVariables false
namespace Go.Proofs.Ytjfookddoaemfaa
open Go.Sh Go.Sh.Lrv Go.Proofs.Ytjfookddoaemfaa.Lv
set_option maxRecDepth 100000
/-- No inner map. -/
def NC (w : World) (v : Value) : Prop := v = .pointer none ∨ ∃ z, v = .pointer (some ⟨z, 0, none⟩) ∧ cel w z 0 = some (.pointer none)
section
variable {w w' : World} {Q : Value → World → Prop} {vc : Value}
theorem NC.keep0 (h : NC w vc) (k : K0 w w') : NC w' vc := h.imp id fun ⟨z, h1, h2⟩ => ⟨z, h1, k.cel h2 fun e => e⟩
theorem nall_c (h : NC w vc) (hq : Q (.pointer none) w) : callS Try.prog 20 #[vc] Q w := by
  rcases h with rfl | ⟨z, rfl, hz⟩
  · exact alln_c hq
  · exact allz_c hz hq
theorem npeek_c {k : Value} (hq : ∀ w', K0 w w' → Q (.tuple #[vE e0, .bool false]) w') : callS Try.prog 22 #[.pointer none, k] Q w := by
  refine ref22 ?_
  unfold S22
  rw [al_49]
  generalize hw1 : w.alloc (.cells #[.int .i64 0, .int .u64 0, .string ⟨#[]⟩, .bool false, .int .u64 0] 49) = w1
  have b1 : blk w1 (siz w) = some (.cells (encE e0).toArray 49) := by rw [← hw1]; exact blk_alloc_new
  have k1 : K0 w w1 := by rw [← hw1]; exact (K0.refl w).alloc _
  have s1 := k1.size
  refine nfind_c ?_
  simp only [stp, Nat.reduceAdd, Int.reduceLT, Int.reduceLE, Int.reduceEq, Int.reduceNe, ne_eq, bne_self_eq_false, beq_self_eq_true]
  have b2 : blk (w1.alloc (.cells #[.int .i64 0, .int .u64 0, .string ⟨#[]⟩, .bool false, .int .u64 0] 49)) (siz w1) = some (.cells (encE e0).toArray 49) := blk_alloc_new
  have k2 : K0 w1 (w1.alloc (.cells #[.int .i64 0, .int .u64 0, .string ⟨#[]⟩, .bool false, .int .u64 0] 49)) := (K0.refl w1).alloc _
  generalize w1.alloc (.cells #[.int .i64 0, .int .u64 0, .string ⟨#[]⟩, .bool false, .int .u64 0] 49) = w2 at b2 k2
  have b1' := k2.blk b1 (by exact fun h => h)
  rw [ld_en (enAt_new b2)]
  refine fin_en (w0 := w) ((enAt_new b1').is) (fre_b b1') (Nat.le_refl _) (k1.trans k2) fun w3 k3 k23 e3 => ?_
  rw [ldr_en e3]
  exact hq _ k3
theorem nlget_c {k : Value} (hq : ∀ w', K0 w w' → Q (.tuple #[vE e0, .bool false]) w') :
    callS Try.prog 28 #[.pointer none, k] Q w := by
  refine ref28 ?_
  unfold S28
  rw [al_49]
  generalize hw1 : w.alloc (.cells #[.int .i64 0, .int .u64 0, .string ⟨#[]⟩, .bool false, .int .u64 0] 49) = w1
  have b1 : blk w1 (siz w) = some (.cells (encE e0).toArray 49) := by rw [← hw1]; exact blk_alloc_new
  have k1 : K0 w w1 := by rw [← hw1]; exact (K0.refl w).alloc _
  refine jn0 (fun w' => w' = w1) (fun J hJ => ?_) ?_
  · refine nfind_c ?_
    simp only [stp, Nat.reduceAdd, Int.reduceLT, Int.reduceLE, Int.reduceEq, Int.reduceNe, ne_eq, bne_self_eq_false, beq_self_eq_true]
    exact hJ _ rfl
  · rintro w' rfl _
    refine npeek_c fun w3 k3 => ?_
    simp only [stp, Nat.reduceAdd, Int.reduceLT, Int.reduceLE, Int.reduceEq, Int.reduceNe, ne_eq, bne_self_eq_false, beq_self_eq_true]
    have b3 := k3.blk b1 (by exact fun h => h)
    refine fin_en (w0 := w) ((enAt_new b3).is) (fre_b b3) (Nat.le_refl _) (k1.trans k3) fun w4 k4 k34 e4 => ?_
    rw [ldr_en e4]
    exact hq _ k4
theorem nput_c {k : Value} {e : En} (hq : ∀ w', K0 w w' → Q (.tuple #[.int .i64 0, vE e0, .bool false, .bool false]) w') :
    callS Try.prog 23 #[.pointer none, k, vE e] Q w := by
  refine ref23 ?_
  unfold S23
  refine put_in fun w1 v1 k1 s1 => ?_
  refine nfind_c ?_
  simp only [stp, Nat.reduceAdd, Int.reduceLT, Int.reduceLE, Int.reduceEq, Int.reduceNe, ne_eq, bne_self_eq_false, beq_self_eq_true]
  refine nroom_c ?_
  have v1d : PV w w1.drew e e0 0 := v1.keep ((K0.refl w1).drew) (by exact fun h => h) (by exact fun h => h) (by exact fun h => h)
  have z : cel w1 (siz w + 2) 0 = some (.int .i64 0) := v1.k10
  simp only [stp, Nat.reduceAdd, Int.reduceLT, Int.reduceLE, Int.reduceEq, Int.reduceNe, ne_eq, bne_self_eq_false, beq_self_eq_true, stm, z]
  rw [ld_en v1d.v10]
  refine fin_put (F := fun _ => False) v1d k1.drew fun w4 k4 k34 e4 => ?_
  rw [ld_en e4]
  exact hq _ k4
theorem npeek_tree {b v : Int} {s : ByteArray} {t : Nat} (h : NC w vc) (hb1 : blk w t = some (imgC b v s)) (J : Value → Value → World → Prop) (hJ : ∀ w' g, K0 w w' → siz w ≤ g → EnAt w' g 0 e0 → J (.pointer (some ⟨g, 0, none⟩)) (.bool false) w') :
  ∃ S : World → Prop, S (World.drew w) ∧ 
 pur Try.prog (Instr.fieldAt 30 (.pointer (some ⟨t, 0, none⟩)) 0) fun t16 => 
  hld Try.prog S (Instr.loadAt 3 t16) fun t17 => 
  (callS Try.prog 20 #[vc] (fun t15 w_2 => S w_2 ∧ 
  (callS Try.prog 22 #[t15, t17] (fun t18 w_3 => S w_3 ∧ 
  pur Try.prog (Instr.extract t18 0) fun t19 => 
  pur Try.prog (Instr.extract t18 1) fun t20 => 
  act Try.prog (Instr.alloc 49 true (.tuple #[])) (fun t7 w_4 => S w_4 ∧ 
  act Try.prog (thenU (Instr.storeAt 49 t7 t19)) (fun _ w_5 => S w_5 ∧ 
  J t7 t20 w_5) w_4) w_3) w_2
  ) ∧ (act Try.prog (Instr.alloc 49 true (.tuple #[])) (fun t7_1 w_6 => S w_6 ∧ 
  callS Try.prog 22 #[t15, t17] (fun t18_1 w_7 => S w_7 ∧ 
  pur Try.prog (Instr.extract t18_1 0) fun t19_1 => 
  pur Try.prog (Instr.extract t18_1 1) fun t20_1 => 
  act Try.prog (thenU (Instr.storeAt 49 t7_1 t19_1)) (fun _ w_8 => S w_8 ∧ 
  J t7_1 t20_1 w_8) w_7) w_6) w_2)) (World.drew w)
  ) ∧ (act Try.prog (Instr.alloc 49 true (.tuple #[])) (fun t7_2 w_9 => S w_9 ∧ 
  callS Try.prog 20 #[vc] (fun t15_1 w_10 => S w_10 ∧ 
  callS Try.prog 22 #[t15_1, t17] (fun t18_2 w_11 => S w_11 ∧ 
  pur Try.prog (Instr.extract t18_2 0) fun t19_2 => 
  pur Try.prog (Instr.extract t18_2 1) fun t20_2 => 
  act Try.prog (thenU (Instr.storeAt 49 t7_2 t19_2)) (fun _ w_12 => S w_12 ∧ 
  J t7_2 t20_2 w_12) w_11) w_10) w_9) (World.drew w)) := by
  have kd : K0 w w.drew := (K0.refl w).drew
  have sd : siz w.drew = siz w := rfl
  refine ⟨fun w' => K0 w.drew w', K0.refl _, ?_⟩
  simp only [stp, Nat.reduceAdd, Int.reduceLT, Int.reduceLE, Int.reduceEq, Int.reduceNe, ne_eq, bne_self_eq_false, beq_self_eq_true]
  refine hldB (fun w' k => k.blk (kd.blk hb1 fun e => e) fun e => e) ?_
  have fin : ∀ v v2, K0 w.drew v → K0 (v.alloc z5) v2 → act Try.prog (thenU (Instr.storeAt 49 (.pointer (some ⟨siz v, 0, none⟩)) (vE e0))) (fun _ w_5 => K0 w.drew w_5 ∧ J (.pointer (some ⟨siz v, 0, none⟩)) (.bool false) w_5) v2 := fun v v2 k k2 => by
    have ka : K0 v (v.alloc z5) := (K0.refl v).alloc _
    refine st_tmp (k2.blk z5_new fun e => e) fun w' k3 e3 => ?_
    have k4 : K0 w.drew w' := ((k.trans ka).trans k2).trans' k3 fun b hb e => by have := k.size; omega
    exact ⟨k4, hJ w' _ (kd.trans k4) (by have := k.size; omega) e3⟩
  refine ⟨nall_c (h.keep0 kd) ⟨K0.refl _, npeek_c fun w3 k3 => ⟨k3, ?_⟩, ?_⟩, ?_⟩
  · simp only [stp, Nat.reduceAdd, Int.reduceLT, Int.reduceLE, Int.reduceEq, Int.reduceNe, ne_eq, bne_self_eq_false, beq_self_eq_true]
    exact ⟨k3.alloc _, fin w3 _ k3 (K0.refl _)⟩
  · refine ⟨(K0.refl _).alloc _, ?_⟩
    refine npeek_c fun w3 k3 => ⟨((K0.refl _).alloc _).trans k3, ?_⟩
    simp only [stp, Nat.reduceAdd, Int.reduceLT, Int.reduceLE, Int.reduceEq, Int.reduceNe, ne_eq, bne_self_eq_false, beq_self_eq_true]
    exact fin w.drew w3 (K0.refl _) k3
  · refine ⟨(K0.refl _).alloc _, ?_⟩
    refine nall_c (h.keep0 (kd.alloc _)) ⟨(K0.refl _).alloc _, ?_⟩
    refine npeek_c fun w3 k3 => ⟨((K0.refl _).alloc _).trans k3, ?_⟩
    simp only [stp, Nat.reduceAdd, Int.reduceLT, Int.reduceLE, Int.reduceEq, Int.reduceNe, ne_eq, bne_self_eq_false, beq_self_eq_true]
    exact fin w.drew w3 (K0.refl _) k3
theorem nput_tree {mk : Value → Array (Nat × Value)} {e' : En} {t : Nat} (h : NC w vc) (hb1 : blk w t = some (imgC e'.1 e'.2.1 e'.2.2.1)) (hs : e'.2.2.1.size ≤ 1000000)
    (hbd : ∀ k, pur Try.prog (Instr.build 49 (mk (vI e'.1 e'.2.1 e'.2.2.1))) k = k (vE e')) (J : Value → World → Prop) (hJ : ∀ w', K0 w w' → J (.bool false) w') :
  ∃ S_1 : World → Prop, S_1 (World.drew w) ∧ 
 pur Try.prog (Instr.fieldAt 30 (.pointer (some ⟨t, 0, none⟩)) 0) fun t23 => 
  hld Try.prog S_1 (Instr.loadAt 3 t23) fun t24 => 
  hld Try.prog S_1 (Instr.loadAt 30 (.pointer (some ⟨t, 0, none⟩))) fun t25 => 
  (callS Try.prog 20 #[vc] (fun t22 w_14 => S_1 w_14 ∧ 
  (callS Try.prog 24 #[t25] (fun t26 w_15 => S_1 w_15 ∧ 
  pur Try.prog (Instr.build 49 (mk t26)) fun t27 => 
  (callS Try.prog 23 #[t22, t24, t27] (fun t28 w_16 => S_1 w_16 ∧ 
  pur Try.prog (Instr.extract t28 0) fun _ => 
  pur Try.prog (Instr.extract t28 1) fun t30 => 
  pur Try.prog (Instr.extract t28 2) fun _ => 
  pur Try.prog (Instr.extract t28 3) fun t32 => 
  act Try.prog (Instr.alloc 49 true (.tuple #[])) (fun t8 w_17 => S_1 w_17 ∧ 
  act Try.prog (thenU (Instr.storeAt 49 t8 t30)) (fun _ w_18 => S_1 w_18 ∧ 
  J t32 w_18) w_17) w_16) w_15
  ) ∧ (act Try.prog (Instr.alloc 49 true (.tuple #[])) (fun t8_1 w_19 => S_1 w_19 ∧ 
  callS Try.prog 23 #[t22, t24, t27] (fun t28_1 w_20 => S_1 w_20 ∧ 
  pur Try.prog (Instr.extract t28_1 0) fun _ => 
  pur Try.prog (Instr.extract t28_1 1) fun t30_1 => 
  pur Try.prog (Instr.extract t28_1 2) fun _ => 
  pur Try.prog (Instr.extract t28_1 3) fun t32_1 => 
  act Try.prog (thenU (Instr.storeAt 49 t8_1 t30_1)) (fun _ w_21 => S_1 w_21 ∧ 
  J t32_1 w_21) w_20) w_19) w_15)) w_14
  ) ∧ (act Try.prog (Instr.alloc 49 true (.tuple #[])) (fun t8_2 w_22 => S_1 w_22 ∧ 
  callS Try.prog 24 #[t25] (fun t26_1 w_23 => S_1 w_23 ∧ 
  pur Try.prog (Instr.build 49 (mk t26_1)) fun t27_1 => 
  callS Try.prog 23 #[t22, t24, t27_1] (fun t28_2 w_24 => S_1 w_24 ∧ 
  pur Try.prog (Instr.extract t28_2 0) fun _ => 
  pur Try.prog (Instr.extract t28_2 1) fun t30_2 => 
  pur Try.prog (Instr.extract t28_2 2) fun _ => 
  pur Try.prog (Instr.extract t28_2 3) fun t32_2 => 
  act Try.prog (thenU (Instr.storeAt 49 t8_2 t30_2)) (fun _ w_25 => S_1 w_25 ∧ 
  J t32_2 w_25) w_24) w_23) w_22) w_14)) (World.drew w)
  ) ∧ (act Try.prog (Instr.alloc 49 true (.tuple #[])) (fun t8_3 w_26 => S_1 w_26 ∧ 
  callS Try.prog 20 #[vc] (fun t22_1 w_27 => S_1 w_27 ∧ 
  callS Try.prog 24 #[t25] (fun t26_2 w_28 => S_1 w_28 ∧ 
  pur Try.prog (Instr.build 49 (mk t26_2)) fun t27_2 => 
  callS Try.prog 23 #[t22_1, t24, t27_2] (fun t28_3 w_29 => S_1 w_29 ∧ 
  pur Try.prog (Instr.extract t28_3 0) fun _ => 
  pur Try.prog (Instr.extract t28_3 1) fun t30_3 => 
  pur Try.prog (Instr.extract t28_3 2) fun _ => 
  pur Try.prog (Instr.extract t28_3 3) fun t32_3 => 
  act Try.prog (thenU (Instr.storeAt 49 t8_3 t30_3)) (fun _ w_30 => S_1 w_30 ∧ 
  J t32_3 w_30) w_29) w_28) w_27) w_26) (World.drew w)) := by
  have kd : K0 w w.drew := (K0.refl w).drew
  have sd : siz w.drew = siz w := rfl
  refine ⟨fun w' => K0 w.drew w', K0.refl _, ?_⟩
  simp only [stp, Nat.reduceAdd, Int.reduceLT, Int.reduceLE, Int.reduceEq, Int.reduceNe, ne_eq, bne_self_eq_false, beq_self_eq_true]
  refine hldB (fun w' k => k.blk (kd.blk hb1 fun e => e) fun e => e) ?_
  refine hldI (fun w' k => k.blk (kd.blk hb1 fun e => e) fun e => e) ?_
  have ow : ∀ v (K : Value → World → Prop), K0 w.drew v → (∀ v', K0 w.drew v' → K0 v v' → K (vI e'.1 e'.2.1 e'.2.2.1) v') → callS Try.prog 24 #[vI e'.1 e'.2.1 e'.2.2.1] K v := fun v K k hK => own_c hs fun v' k' => hK v' (k.trans k') k'
  have fin : ∀ v v2, K0 w.drew v → K0 (v.alloc z5) v2 → act Try.prog (thenU (Instr.storeAt 49 (.pointer (some ⟨siz v, 0, none⟩)) (vE e0))) (fun _ w_5 => K0 w.drew w_5 ∧ J (.bool false) w_5) v2 := fun v v2 k k2 => by
    have ka : K0 v (v.alloc z5) := (K0.refl v).alloc _
    refine st_tmp (k2.blk z5_new fun e => e) fun w' k3 e3 => ?_
    have k4 : K0 w.drew w' := ((k.trans ka).trans k2).trans' k3 fun b hb e => by have := k.size; omega
    exact ⟨k4, hJ w' (kd.trans k4)⟩
  have hN : ∀ v, K0 w.drew v → NC v vc := fun v k => h.keep0 (kd.trans k)
  refine ⟨nall_c (hN _ (K0.refl _)) ⟨K0.refl _, ow _ _ (K0.refl _) fun v1 k1 _ => ⟨k1, ?_⟩, ?_⟩, ?_⟩
  · rw [hbd]
    refine ⟨nput_c fun w3 k3 => ⟨k1.trans k3, ?_⟩, ?_⟩
    · simp only [stp, Nat.reduceAdd, Int.reduceLT, Int.reduceLE, Int.reduceEq, Int.reduceNe, ne_eq, bne_self_eq_false, beq_self_eq_true]
      exact ⟨(k1.trans k3).alloc _, fin w3 _ (k1.trans k3) (K0.refl _)⟩
    · refine ⟨k1.alloc _, ?_⟩
      refine nput_c fun w3 k3 => ⟨(k1.alloc _).trans k3, ?_⟩
      simp only [stp, Nat.reduceAdd, Int.reduceLT, Int.reduceLE, Int.reduceEq, Int.reduceNe, ne_eq, bne_self_eq_false, beq_self_eq_true]
      exact fin v1 w3 k1 k3
  · refine ⟨(K0.refl _).alloc _, ?_⟩
    refine ow _ _ ((K0.refl _).alloc _) fun v1 k1 k1' => ⟨k1, ?_⟩
    rw [hbd]
    refine nput_c fun w3 k3 => ⟨k1.trans k3, ?_⟩
    simp only [stp, Nat.reduceAdd, Int.reduceLT, Int.reduceLE, Int.reduceEq, Int.reduceNe, ne_eq, bne_self_eq_false, beq_self_eq_true]
    exact fin w.drew w3 (K0.refl _) (k1'.trans k3)
  · refine ⟨(K0.refl _).alloc _, ?_⟩
    refine nall_c (hN _ ((K0.refl _).alloc _)) ⟨(K0.refl _).alloc _, ?_⟩
    refine ow _ _ ((K0.refl _).alloc _) fun v1 k1 k1' => ⟨k1, ?_⟩
    rw [hbd]
    refine nput_c fun w3 k3 => ⟨k1.trans k3, ?_⟩
    simp only [stp, Nat.reduceAdd, Int.reduceLT, Int.reduceLE, Int.reduceEq, Int.reduceNe, ne_eq, bne_self_eq_false, beq_self_eq_true]
    exact fin w.drew w3 (K0.refl _) (k1'.trans k3)
theorem nfill_c (h : NC w vc) {b v : Int} {s : ByteArray} (hs : s.size ≤ 1000000) (hq : ∀ w', K0 w w' → Q (.bool false) w') :
    callS Try.prog 11 #[vc, vI b v s] Q w := by
  refine ref11 ?_
  unfold S11
  rw [act_box, agg_cells]
  generalize hw1 : w.alloc _ = w1
  have b1 : blk w1 (siz w) = some (imgC b v s) := by rw [← hw1]; exact blk_alloc_new
  have k1 : K0 w w1 := by rw [← hw1]; exact (K0.refl w).alloc _
  refine jn1 (fun x w' => x = .bool false ∧ K0 w1 w') (fun J hJ => ?_) ?_
  · exact npeek_tree (h.keep0 k1) b1 (fun _ x w' => J x w') fun w' g k _ _ => hJ _ _ ⟨rfl, k⟩
  · rintro x w2 ⟨rfl, k2⟩ _j
    rw [condS_false]
    refine jn1 (fun x w' => x = .bool false ∧ K0 w2 w') (fun J hJ => ?_) ?_
    · exact nput_tree (mk := fun t => #[(0, t)]) (e' := (b, v, s, false, 0)) (h.keep0 (k1.trans k2)) (k2.blk b1 fun e => e) hs (fun k => by simp only [stp, Nat.reduceAdd, Int.reduceLT, Int.reduceLE, Int.reduceEq, Int.reduceNe, ne_eq, bne_self_eq_false, beq_self_eq_true]) J fun w' k => hJ _ _ ⟨rfl, k⟩
    · rintro x w3 ⟨rfl, k3⟩ _j
      exact hq _ ((k1.trans k2).trans k3)
theorem nchange_c (h : NC w vc) {b v lsn : Int} {s : ByteArray} (hq : ∀ w', K0 w w' → Q (.int .i64 1) w') :
    callS Try.prog 10 #[vc, vI b v s, .int .u64 lsn] Q w := by
  refine ref10 ?_
  rw [cut10]
  unfold P10_0
  rw [act_box, agg_cells]
  generalize hw1 : w.alloc _ = w1
  have b1 : blk w1 (siz w) = some (imgC b v s) := by rw [← hw1]; exact blk_alloc_new
  have k1 : K0 w w1 := by rw [← hw1]; exact (K0.refl w).alloc _
  refine jn2 (fun x y w' => y = .bool false ∧ K0 w1 w') (fun J hJ => ?_) ?_
  · exact npeek_tree (h.keep0 k1) b1 J fun w' g k hg he => hJ _ _ _ ⟨rfl, k⟩
  · rintro x y w2 ⟨rfl, k2⟩ _j
    unfold P10_1
    refine nall_c (h.keep0 (k1.trans k2)) ?_
    refine nroom_c ?_
    simp only [stp, Nat.reduceAdd, Int.reduceLT, Int.reduceLE, Int.reduceEq, Int.reduceNe, ne_eq, bne_self_eq_false, beq_self_eq_true, stm]
    exact hq _ (k1.trans k2)
theorem nget_c (h : NC w vc) {k : Int} (hq : ∀ w', K0 w w' → Q (.tuple #[vI 0 0 ⟨#[]⟩, .bool false]) w') :
    callS Try.prog 13 #[vc, .int .i64 k] Q w := by
  refine ref13 ?_
  unfold S13
  refine img0 fun w1 k1 b1 => ?_
  refine nall_c (h.keep0 k1) ?_
  refine nlget_c fun w2 k2 => ?_
  simp only [stp, Nat.reduceAdd, Int.reduceLT, Int.reduceLE, Int.reduceEq, Int.reduceNe, ne_eq, bne_self_eq_false, beq_self_eq_true]
  generalize hw4 : w2.alloc _ = w4
  have b4 : blk w4 (siz w2) = some (.cells (encE e0).toArray 49) := by rw [← hw4]; exact blk_alloc_new
  have k4 : K0 w2 w4 := by rw [← hw4]; exact (K0.refl w2).alloc _
  have b2 := k2.blk b1 (fun e => e)
  have hs2 := blk_lt b2
  refine get_fin (k4.blk b2 fun e => e) b4 (by omega) fun w3 k3 => ?_
  have hsz := k1.size
  exact hq w3 (((k1.trans k2).trans k4).trans' k3 fun b hb e => by omega)
theorem naLL_c (h : NC w vc) (hq : ∀ w', K0 w w' → Q (.slice none 0 0) w') :
    callS Try.prog 18 #[vc] Q w := by
  refine ref18 ?_
  unfold S18
  refine nall_c h ?_
  refine nkeys_c ?_
  simp only [stp, Nat.reduceAdd, Int.reduceLT, Int.reduceLE, Int.reduceEq, Int.reduceNe, ne_eq, bne_self_eq_false, beq_self_eq_true]
  refine lp2 (fun m x y w' => x = .slice none 0 0 ∧ y = .int .i64 0 ∧ w' = w) 0 ⟨rfl, rfl, rfl⟩ ?_
  rintro m x y w2 ⟨rfl, rfl, rfl⟩ J hJ _j
  simp only [stp, Nat.reduceAdd, Int.reduceLT, Int.reduceLE, Int.reduceEq, Int.reduceNe, ne_eq, bne_self_eq_false, beq_self_eq_true, stm]
  exact sortE_c (base := 0) (l := []) (Sh.Own.nil _ _ _ _) (by simp) fun l' w3 hp' o3 k3 => hq w3 (k3.mono fun b _ e => by cases e)
theorem ndirty_c (h : NC w vc) (hq : ∀ w', K0 w w' → Q (.slice none 0 0) w') :
    callS Try.prog 15 #[vc, .slice none 0 0] Q w := by
  refine ref15 ?_
  unfold S15
  rw [act_box]
  have k1 : K0 w (w.alloc (.cells (Value.slice none 0 0).cells 65)) := (K0.refl w).alloc _
  refine naLL_c (h.keep0 k1) fun w2 k2 => ?_
  simp only [stp, Nat.reduceAdd, Int.reduceLT, Int.reduceLE, Int.reduceEq, Int.reduceNe, ne_eq, bne_self_eq_false, beq_self_eq_true]
  refine ee_delete (base := 0) (l := []) (P := fun e => ¬ (e.2.2.2.1 = true)) (Sh.Own.nil _ _ _ _) (by simp) (fun w3 s Q k hs hq => by cases hs) fun w3 v3 l3 hl3 o3 k3 hv3 => ?_
  have hl : l3 = [] := by rw [hl3]; rfl
  subst hl
  have hv : v3 = .slice none 0 0 := by
    rcases o3.2 with ⟨rfl, _⟩ | ⟨g, cp, cur, rfl, _⟩
    · rfl
    · have := hv3 g rfl; cases this
  subst hv
  refine sstable_c (n := 0) (B := 0) (d := []) (by omega) (Sh.Own.nil w3 0 _ _ : Sh.Own w3 0 49 5 (.slice none 0 0) 0 (flat encE [])) fun w4 d o4 hp4 hs4 k4 => ?_
  exact hq w4 (((k1.trans k2).trans (k3.mono fun b _ e => by cases e)).trans (k4.mono fun b _ e => by cases e))
theorem nclen_c (h : NC w vc) (hq : Q (.int .i64 0) w) : callS Try.prog 14 #[vc] Q w := by
  refine ref14 ?_
  unfold S14
  refine nall_c h ?_
  exact nlen_c hq
theorem ncroom_c (h : NC w vc) (hq : ∀ w', K0 w w' → Q (.int .i64 0) w') : callS Try.prog 9 #[vc] Q w := by
  refine ref9 ?_
  unfold S9
  refine nall_c h ?_
  refine nroom_c ?_
  refine ndirty_c h fun w1 k1 => ?_
  have hw : IntKind.i64.wrap (0 - ((0 : Nat) : Int)) = 0 := by decide
  simp only [stp, Nat.reduceAdd, Int.reduceLT, Int.reduceLE, Int.reduceEq, Int.reduceNe, ne_eq, bne_self_eq_false, beq_self_eq_true, stm, hw]
  exact hq _ k1
theorem noldest_c (h : NC w vc) (hq : ∀ w', K0 w w' → Q (.int .u64 0) w') : callS Try.prog 17 #[vc] Q w := by
  refine ref17 ?_
  unfold S17
  refine ndirty_c h fun w1 k1 => ?_
  simp only [stp, Nat.reduceAdd, Int.reduceLT, Int.reduceLE, Int.reduceEq, Int.reduceNe, ne_eq, bne_self_eq_false, beq_self_eq_true, stm, Int.ofNat_zero]
  exact hq _ k1
theorem nclean_c (h : NC w vc) {k v : Int} (hq : ∀ w', K0 w w' → Q (.bool false) w') :
    callS Try.prog 12 #[vc, .int .i64 k, .int .u64 v] Q w := by
  refine ref12 ?_
  unfold S12
  refine nall_c h ?_
  refine npeek_c fun w1 k1 => ?_
  simp only [stp, Nat.reduceAdd, Int.reduceLT, Int.reduceLE, Int.reduceEq, Int.reduceNe, ne_eq, bne_self_eq_false, beq_self_eq_true]
  generalize hw4 : w1.alloc _ = w4
  have b4 : blk w4 (siz w1) = some z5 := by rw [← hw4]; exact blk_alloc_new
  have k4 : K0 w1 w4 := by rw [← hw4]; exact (K0.refl w1).alloc _
  refine st_tmp b4 fun w5 k5 en => ?_
  have sz := k1.size
  have k15 : K0 w w5 := (k1.trans k4).trans' k5 fun b hb e => by omega
  try simp only [stp, Nat.reduceAdd, Int.reduceLT, Int.reduceLE, Int.reduceEq, Int.reduceNe, ne_eq, bne_self_eq_false, beq_self_eq_true]
  exact hq _ k15
theorem ndrop_c (h : NC w vc) {a b : Int} (hq : ∀ w', K0 w w' → Q (.int .i64 0) w') :
    callS Try.prog 16 #[vc, .agg #[.int .i64 a, .int .i64 b]] Q w := by
  refine ref16 ?_
  unfold S16
  rw [act_box, agg_cells]
  have k1 : K0 w (w.alloc (.cells #[.int .i64 a, .int .i64 b] 41)) := (K0.refl w).alloc _
  refine naLL_c (h.keep0 k1) fun w2 k2 => ?_
  simp only [stp, Nat.reduceAdd, Int.reduceLT, Int.reduceLE, Int.reduceEq, Int.reduceNe, ne_eq, bne_self_eq_false, beq_self_eq_true]
  refine lp2 (fun m x y w' => x = .int .i64 0 ∧ y = .int .i64 0 ∧ w' = w2) 0 ⟨rfl, rfl, rfl⟩ ?_
  rintro m x y w3 ⟨rfl, rfl, rfl⟩ J hJ _j
  simp only [stp, Nat.reduceAdd, Int.reduceLT, Int.reduceLE, Int.reduceEq, Int.reduceNe, ne_eq, bne_self_eq_false, beq_self_eq_true, stm]
  exact hq _ (k1.trans k2)
end
end Go.Proofs.Ytjfookddoaemfaa
