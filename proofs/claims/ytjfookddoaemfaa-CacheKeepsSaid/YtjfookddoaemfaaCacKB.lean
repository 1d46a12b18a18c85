/- CacheKeeps: its checks. Conditions: as each says. -/
import Derived.Test.YtjfookddoaemfaaCacKA
set_option linter.unusedSimpArgs false
set_option linter.unusedVariables false
namespace Go.Proofs.Ytjfookddoaemfaa
open Go.Sh Go.Sh.Lrv Go.Proofs.Ytjfookddoaemfaa.Lv
set_option maxRecDepth 100000
def P4_2 (J : Cur 2) (t27 : Value) (v_held_1 : Value) (v_i : Value) (v_room : Value) (w_25 : World) (Q : Value → World → Prop) : Prop :=
 callS Try.prog 14 #[t27] (fun t94 w_26 => 
   pur Try.prog (binS .gtr 3 false false t94 v_room) fun t96 => 
   gd t96 false (fun k_5 w_27 => k_5 t27 w_27) (fun t98_1 w_28 => 
   gd t96 false (fun k_6 w_29 => callS Try.prog 15 #[t98_1, (.slice none 0 0)] (fun t99 w_30 => k_6 t99 w_30) w_29) (fun t99_1 w_31 => 
   gd t96 false (fun k_7 w_32 => pur Try.prog (Builtin.len_ #[35] 3 #[t99_1]) fun t100 => k_7 t100 w_32) (fun t100_1 w_33 => 
   gd t96 false (fun k_8 w_34 => k_8 v_held_1 w_34) (fun t101_1 w_35 => 
   gd t96 false (fun k_9 w_36 => pur Try.prog (Builtin.len_ #[39] 3 #[t101_1]) fun t102 => k_9 t102 w_36) (fun t102_1 w_37 => 
   gd t96 false (fun k_10 w_38 => pur Try.prog (binS .neq 3 false false t100_1 t102_1) fun t103 => k_10 t103 w_38) (fun t103_1 w_39 => 
   pur Try.prog (pickS t96 (.bool true) t103_1) fun t104 => 
   condS t104
    (Q (.bool false) w_39)
    (lp 1 (fun J_4 => fun v_k_1 w_40 => ∀ _j : Fr, 
    pur Try.prog (Builtin.len_ #[39] 3 #[v_held_1]) fun t107 => 
    pur Try.prog (binS .lss 3 false false v_k_1 t107) fun t108 => 
    condS t108
     (pur Try.prog (Instr.indexAt 39 v_held_1 v_k_1) fun t115 => 
    pur Try.prog (Instr.fieldAt 30 t115 0) fun t116 => 
    rd Try.prog (Instr.loadAt 3 t116) (fun t117 => 
    callS Try.prog 13 #[t27, t117] (fun t118 w_41 => 
    pur Try.prog (Instr.extract t118 0) fun t119 => 
    pur Try.prog (Instr.extract t118 1) fun t120 => 
    act Try.prog (Instr.alloc 30 true (.tuple #[])) (fun t12 w_42 => 
    act Try.prog (thenU (Instr.storeAt 30 t12 t119)) (fun _ w_43 => 
    pur Try.prog (Op.unary .not t120) fun t122 => 
    gd t122 false (fun k_11 w_44 => rd Try.prog (Instr.loadAt 30 t12) (fun t124 => k_11 t124 w_44) w_44) (fun t124_1 w_45 => 
    gd t122 false (fun k_12 w_46 => k_12 v_held_1 w_46) (fun t125_1 w_47 => 
    gd t122 false (fun k_13 w_48 => k_13 v_k_1 w_48) (fun t126_1 w_49 => 
    gd t122 false (fun k_14 w_50 => pur Try.prog (Instr.indexAt 39 t125_1 t126_1) fun t127 => k_14 t127 w_50) (fun t127_1 w_51 => 
    gd t122 false (fun k_15 w_52 => rd Try.prog (Instr.loadAt 30 t127_1) (fun t128 => k_15 t128 w_52) w_52) (fun t128_1 w_53 => 
    gd t122 false (fun k_16 w_54 => rd Try.prog (binS .neq 30 false false t124_1 t128_1) (fun t129 => k_16 t129 w_54) w_54) (fun t129_1 w_55 => 
    pur Try.prog (pickS t122 (.bool true) t129_1) fun t130 => 
    condS t130
     (Q (.bool false) w_55)
     (pur Try.prog (binS .add 3 false true v_k_1 (.int .i64 1)) fun t110 => 
    J_4 t110 w_55)) w_53) w_51) w_49) w_47) w_45) (World.drew w_43)) w_42) w_41) w_40) w_40)
     (pur Try.prog (binS .add 3 false true v_i (.int .i64 1)) fun t35 => 
  J v_held_1 t35 w_40)) [(.int .i64 0)] w_39)) w_37) w_35) w_33) w_31) w_28) w_26) w_25
def P4_1 (J : Cur 2) (t27 : Value) (t8 : Value) (v_held : Value) (v_i : Value) (v_room : Value) (w_15 : World) (Q : Value → World → Prop) : Prop :=
 jn 1 (fun J_1 => 
   pur Try.prog (Instr.fieldAt 43 t8 0) fun t45 => 
   rd Try.prog (Instr.loadAt 3 t45) (fun t46 => 
   pur Try.prog (binS .eql 3 false true t46 (.int .i64 3)) fun t47 => 
   condS t47
    (pur Try.prog (Instr.fieldAt 43 t8 3) fun t49 => 
    rd Try.prog (Instr.loadAt 30 t49) (fun t50 => 
    pur Try.prog (Instr.fieldAt 43 t8 2) fun t51 => 
    rd Try.prog (Instr.loadAt 28 t51) (fun t52 => 
    callS Try.prog 10 #[t27, t50, t52] (fun t53 w_16 => 
    pur Try.prog (binS .eql 26 false true t53 (.int .i64 0)) fun t54 => 
    condS t54
     (lp 2 (fun J_2 => fun v_h v_k w_17 => ∀ _j : Fr, 
      pur Try.prog (Builtin.len_ #[39] 3 #[v_held]) fun t57 => 
      pur Try.prog (binS .lss 3 false false v_k t57) fun t58 => 
      condS t58
       (jn 1 (fun J_3 => 
       pur Try.prog (Instr.indexAt 39 v_held v_k) fun t63 => 
       pur Try.prog (Instr.fieldAt 30 t63 0) fun t64 => 
       rd Try.prog (Instr.loadAt 3 t64) (fun t65 => 
       pur Try.prog (Instr.fieldAt 43 t8 3) fun t66 => 
       pur Try.prog (Instr.fieldAt 30 t66 0) fun t67 => 
       rd Try.prog (Instr.loadAt 3 t67) (fun t68 => 
       pur Try.prog (binS .neq 3 false false t65 t68) fun t69 => 
       condS t69
        (pur Try.prog (Instr.indexAt 39 v_held v_k) fun t73 => 
        rd Try.prog (Instr.loadAt 30 t73) (fun t74 => 
        act Try.prog (Instr.buildSlice 39 1 #[(0, t74)]) (fun t75 w_18 => 
        act Try.prog (Builtin.append_ #[39, 39] 39 #[v_h, t75]) (fun t76 w_19 => 
        J_3 t76 w_19) w_18) (World.drew w_17)) (World.drew w_17))
        (J_3 v_h (World.drew w_17))) (World.drew w_17)) (World.drew w_17))
      (fun v_h_1 w_20 => ∀ _j : Fr, 
       pur Try.prog (binS .add 3 false true v_k (.int .i64 1)) fun t60 => 
       J_2 v_h_1 t60 w_20))
       (pur Try.prog (Instr.fieldAt 43 t8 3) fun t78 => 
     rd Try.prog (Instr.loadAt 30 t78) (fun t79 => 
     act Try.prog (Instr.buildSlice 39 1 #[(0, t79)]) (fun t80 w_21 => 
     act Try.prog (Builtin.append_ #[39, 39] 39 #[v_h, t80]) (fun t81 w_22 => 
     J_1 t81 w_22) w_21) w_17) w_17)) [(.slice none 0 0), (.int .i64 0)] w_16)
     (J_1 v_held w_16)) w_15) w_15) w_15)
    (pur Try.prog (Instr.fieldAt 43 t8 0) fun t82 => 
    rd Try.prog (Instr.loadAt 3 t82) (fun t83 => 
    pur Try.prog (binS .eql 3 false true t83 (.int .i64 2)) fun t84 => 
    condS t84
     (pur Try.prog (Instr.fieldAt 43 t8 3) fun t86 => 
     rd Try.prog (Instr.loadAt 30 t86) (fun t87 => 
     callS Try.prog 11 #[t27, t87] (fun _ w_23 => 
     J_1 v_held w_23) w_15) w_15)
     (pur Try.prog (Instr.fieldAt 43 t8 4) fun t90 => 
     rd Try.prog (Instr.loadAt 41 t90) (fun t91 => 
     callS Try.prog 16 #[t27, t91] (fun _ w_24 => 
     J_1 v_held w_24) w_15) w_15)) w_15)) w_15)
  (fun v_held_1 w_25 => ∀ _j : Fr, 
   P4_2 J t27 v_held_1 v_i v_room w_25 Q)
def P4_0 (v_room v_l : Value) (Q : Value → World → Prop) (w : World) : Prop :=
 pur Try.prog (binS .lss 3 false true v_room (.int .i64 1)) fun t15 => 
 gd t15 false (fun k w_1 => k v_room w_1) (fun t17_1 w_2 => 
 gd t15 false (fun k_1 w_3 => pur Try.prog (binS .gtr 3 false true t17_1 (.int .i64 60)) fun t18 => k_1 t18 w_3) (fun t18_1 w_4 => 
 pur Try.prog (pickS t15 (.bool true) t18_1) fun t19 => 
 gd t19 false (fun k_2 w_5 => k_2 v_l w_5) (fun t21_1 w_6 => 
 gd t19 false (fun k_3 w_7 => pur Try.prog (Builtin.len_ #[38] 3 #[t21_1]) fun t22 => k_3 t22 w_7) (fun t22_1 w_8 => 
 gd t19 false (fun k_4 w_9 => pur Try.prog (binS .gtr 3 false true t22_1 (.int .i64 100)) fun t23 => k_4 t23 w_9) (fun t23_1 w_10 => 
 pur Try.prog (pickS t19 (.bool true) t23_1) fun t24 => 
 condS t24
  (callS Try.prog 7 #[] (fun t25 w_11 => 
  Q t25 w_11) w_10)
  (callS Try.prog 8 #[v_room] (fun t27 w_12 => 
 rd Try.prog (binS .eql 23 false true t27 (.pointer none)) (fun t29 => 
 condS t29
  (Q (.bool false) w_12)
  (lp 2 (fun J => fun v_held v_i w_13 => ∀ _j : Fr, 
  pur Try.prog (Builtin.len_ #[38] 3 #[v_l]) fun t32 => 
  pur Try.prog (binS .lss 3 false false v_i t32) fun t33 => 
  condS t33
   (pur Try.prog (Instr.indexAt 38 v_l v_i) fun t38 => 
  rd Try.prog (Instr.loadAt 43 t38) (fun t39 => 
  act Try.prog (Instr.alloc 43 true (.tuple #[])) (fun t8 w_14 => 
  act Try.prog (thenU (Instr.storeAt 43 t8 t39)) (fun _ w_15 => 
  pur Try.prog (Instr.fieldAt 43 t8 3) fun t40 => 
  pur Try.prog (Instr.fieldAt 30 t40 2) fun t41 => 
  rd Try.prog (Instr.loadAt 9 t41) (fun t42 => 
  pur Try.prog (Builtin.len_ #[9] 3 #[t42]) fun t43 => 
  pur Try.prog (binS .gtr 3 false true t43 (.int .i64 300)) fun t44 => 
  condS t44
   (Q (.bool true) w_15)
   (P4_1 J t27 t8 v_held v_i v_room w_15 Q)) w_15) w_14) w_13) w_13)
   (callS Try.prog 7 #[] (fun t131 w_56 => 
 Q t131 w_56) w_13)) [(.slice none 0 0), (.int .i64 0)] w_12)) w_12) w_10)) w_8) w_6) w_4) w_2) w
theorem cut4 (v_room v_l : Value) (Q : Value → World → Prop) (w : World) : S4 v_room v_l Q w = P4_0 v_room v_l Q w := rfl
-- P4_1 J t27 t8 v_held v_i v_room w_15 Q
-- P4_2 J t27 v_held_1 v_i v_room w_25 Q
section
variable {w w' : World} {Q : Value → World → Prop} {c room : Nat} {es : List En} {F : Nat → Prop}
set_option maxHeartbeats 2000000 in
theorem keeps2 {A i : Nat} {vh : Value} {held : List Im} {J : Cur 2} (h : CS w c room es F) (hr : room ≤ 60) (hh : Hd es held) (ho : RowI w A vh held) (hv : ∀ g, vh.ownBlock = some g → ¬ F g) (hi : i ≤ 1000)
    (hJ : ∀ w' F', CS w' c room es F' → St F F' w w' → J vh (.int .i64 ((i + 1 : Nat) : Int)) w') :
    P4_2 J (.pointer (some ⟨c, 0, none⟩)) vh (.int .i64 (i : Int)) (.int .i64 (room : Int)) w Q := by
  unfold P4_2
  have hlen := h.len
  have hwi := wrap_succ (i := i) (by omega)
  have hle : ¬ ((room : Int) < (es.length : Int)) := by omega
  refine clen_c h ?_
  simp only [stp, Nat.reduceAdd, Int.reduceLT, Int.reduceLE, Int.reduceEq, Int.reduceNe, ne_eq, bne_self_eq_false, beq_self_eq_true, stm, hle]
  refine dirty_c h fun w1 v d B hB hpd hs o1 k1 => ?_
  obtain ⟨pd, cd, rfl⟩ := o1.form
  have hdl : d.length = held.length := by
    have h1 := hpd.length_eq
    have h2 := hh.length_eq
    rw [List.length_map] at h2
    omega
  have hd60 : held.length ≤ 60 := by
    have h2 := hh.length_eq
    have h3 := List.length_filter_le (fun e : En => e.2.2.2.1) es
    rw [List.length_map] at h2
    unfold dirtyL at h2
    omega
  have hee : ((d.length : Int) = (held.length : Int)) := by omega
  have h1 := h.keep0 k1
  have o2 := Sh.Own.keep ho k1 fun _ _ e => e
  obtain ⟨ph, ch, rfl⟩ := ho.form
  simp only [stp, Nat.reduceAdd, Int.reduceLT, Int.reduceLE, Int.reduceEq, Int.reduceNe, ne_eq, bne_self_eq_false, beq_self_eq_true, stm, hee]
  have hdr : d.length = held.length := hdl
  refine lp1 (fun m x w' => ∃ k : Nat, x = .int .i64 (k : Int) ∧ k ≤ held.length ∧ m = held.length - k ∧ CS w' c room es F ∧ Keep F w1 w') held.length ⟨0, rfl, Nat.zero_le _, rfl, h1, Keep.refl _ _⟩ ?_
  rintro m x w2 ⟨k, rfl, hk, hm, h2, k2⟩ J4 hJ4 _j
  subst m
  by_cases hlt : k < held.length
  case neg =>
    have hlt' : ¬ ((k : Int) < (held.length : Int)) := by omega
    simp only [stp, Nat.reduceAdd, Int.reduceLT, Int.reduceLE, Int.reduceEq, Int.reduceNe, ne_eq, bne_self_eq_false, beq_self_eq_true, hlt', hwi]
    exact hJ w2 F h2 ⟨k1.none.trans k2, fun b hb => .inl hb⟩
  have hlt' : ((k : Int) < (held.length : Int)) := by omega
  have hwk := wrap_succ (i := k) (by omega)
  have o3 : RowI w2 A (.slice ph held.length ch) held := Sh.Own.keep o2 k2 hv
  obtain ⟨g, c', e, hg1, hg2, _, _, _, _⟩ := Sh.Own.at o3 (by omega)
  injection e with e1 _ e2
  subst e1 e2
  have hgF := hv g rfl
  obtain ⟨x0, x1, x2⟩ := o3.at hlt
  have hix : ∀ K, pur Try.prog (Instr.indexAt 39 (.slice (some ⟨g, 0, none⟩) held.length ch) (.int .i64 (k : Int))) K = K (.pointer (some ⟨g, k * 3, none⟩)) := fun K => by
    rw [ix_39 hlt, Nat.zero_add]
  obtain ⟨e, he, hee'⟩ := List.mem_map.1 (hh.mem_iff.2 (List.getElem_mem hlt))
  have hem : e ∈ es := (List.mem_filter.1 he).1
  have hb : held[k].1 = e.1 := by rw [← hee']; rfl
  simp only [stp, Nat.reduceAdd, Int.reduceLT, Int.reduceLE, Int.reduceEq, Int.reduceNe, ne_eq, bne_self_eq_false, beq_self_eq_true, hlt', hix, x0, Option.isSome_some, Option.getD_some]
  rw [hb]
  refine cget_hit h2 hem fun w3 h3 k3 => ?_
  simp only [stp, Nat.reduceAdd, Int.reduceLT, Int.reduceLE, Int.reduceEq, Int.reduceNe, ne_eq, bne_self_eq_false, beq_self_eq_true]
  generalize hw4 : w3.alloc _ = w4
  have b4 : blk w4 (siz w3) = some (imgC 0 0 ⟨#[]⟩) := by rw [← hw4]; exact blk_alloc_new
  have k4 : K0 w3 w4 := by rw [← hw4]; exact (K0.refl w3).alloc _
  refine st_img b4 fun w5 k5 b5 => ?_
  have k35 : K0 w3 w5 := k4.trans' k5 fun b hb e => by omega
  have o5 : RowI w5 A (.slice (some ⟨g, 0, none⟩) held.length ch) held := Sh.Own.keep (Sh.Own.keep o3 k3 hv) k35 fun _ _ e => e
  have b5d : blk w5.drew (siz w3) = some (imgC e.1 e.2.1 e.2.2.1) := ((K0.refl w5).drew).blk b5 fun e => e
  have o5d : RowI w5.drew A (.slice (some ⟨g, 0, none⟩) held.length ch) held := Sh.Own.keep o5 (K0.refl w5).drew fun _ _ e => e
  rw [ld_img b5d]
  rw [hix]
  rw [ld_im (o5d.at hlt), ← hee']
  show rd _ (binS .neq _ _ _ (vI e.1 e.2.1 e.2.2.1) (vI e.1 e.2.1 e.2.2.1)) _ _
  rw [sn_30]
  have hbb : (!(decide (e.1 = e.1) && decide (e.2.1 = e.2.1) && decide (e.2.2.1 = e.2.2.1))) = false := by simp
  rw [hbb, condS_false, hwk]
  have k35d : K0 w3 w5.drew := k35.drew
  refine hJ4 (held.length - (k + 1)) _ _ (by omega) ⟨k + 1, rfl, by omega, rfl, h3.keep0 k35d, (k2.trans k3).trans k35d.none⟩
/-- An image behind the others. -/
theorem flat_snoc {l : List Im} {x : Im} : flat encI (l ++ [x]) = flat encI l ++ [.int .i64 x.1, .int .u64 x.2.1, .string x.2.2] := by
  rw [flat_append]; rfl
theorem others_le {b : Int} {l : List Im} : (others b l).length ≤ l.length := List.length_filter_le ..
theorem one_im {x : Im} : ∀ u ∈ [Value.int .i64 x.1, .int .u64 x.2.1, .string x.2.2], Sh.one u = true := by
  intro u hu
  simp only [List.mem_cons, List.not_mem_nil, or_false] at hu
  rcases hu with rfl | rfl | rfl
  · exact one_int
  · exact one_int
  · exact one_str
theorem ownBase {B B' n z : Nat} {e : TypeId} {v : Value} {xs : List Value} (h : Sh.Own w B e z v n xs) (hB : B' ≤ B) : Sh.Own w B' e z v n xs := by
  refine ⟨h.1, ?_⟩
  rcases h.2 with h2 | ⟨g, cap, cur, h2, h3, h4⟩
  · exact .inl h2
  · exact .inr ⟨g, cap, cur, h2, by omega, h4⟩
set_option maxHeartbeats 2000000 in
theorem keeps1 {A i t : Nat} {p : OpV} {vh : Value} {held : List Im} {J : Cur 2} (h : CS w c room es F) (hr1 : 0 < room) (hr : room ≤ 60) (hh : Hd es held) (ho : RowI w A vh held) (hA : A ≤ siz w) (hv : ∀ g, vh.ownBlock = some g → ¬ F g) (hi : i ≤ 1000)
    (hp : blk w t = some (.cells p.cells.toArray 43)) (htF : ¬ F t) (hs : p.s.size ≤ 300)
    (hJ : ∀ w' F' es' vh' held', CS w' c room es' F' → (∀ b, F' b → F b ∨ siz w ≤ b) → Hd es' held' → RowI w' A vh' held' → (∀ g, vh'.ownBlock = some g → ¬ F' g) → Keep (fun b => F b ∨ vh.ownBlock = some b) w w' → J vh' (.int .i64 ((i + 1 : Nat) : Int)) w') :
    P4_1 J (.pointer (some ⟨c, 0, none⟩)) (.pointer (some ⟨t, 0, none⟩)) vh (.int .i64 (i : Int)) (.int .i64 (room : Int)) w Q := by
  unfold P4_1
  have htl := blk_lt hp
  have hlen := h.len
  have hd60 : held.length ≤ 60 := by
    have h2 := hh.length_eq
    have h3 := List.length_filter_le (fun e : En => e.2.2.2.1) es
    rw [List.length_map] at h2
    unfold dirtyL at h2
    omega
  have dS : ∀ {w' : World}, blk w' t = some (.cells p.cells.toArray 43) → cel w' t 0 = some (.int .i64 p.k) ∧ cel w' t 2 = some (.int .u64 p.lsn) ∧ cel w' t 3 = some (.int .i64 p.b) ∧ cel w' t 4 = some (.int .u64 p.v) ∧ cel w' t 5 = some (.string p.s) ∧ cel w' t 6 = some (.int .i64 p.f) ∧ cel w' t 7 = some (.int .i64 p.t) := fun hb => ⟨cel_b hb 0, cel_b hb 2, cel_b hb 3, cel_b hb 4, cel_b hb 5, cel_b hb 6, cel_b hb 7⟩
  obtain ⟨d0, d2, d3, d4, d5, d6, d7⟩ := dS hp
  refine jn1 (fun vh' w' => ∃ F' es' held', CS w' c room es' F' ∧ (∀ b, F' b → F b ∨ siz w ≤ b) ∧ Hd es' held' ∧ RowI w' A vh' held' ∧ (∀ g, vh'.ownBlock = some g → ¬ F' g) ∧ Keep (fun b => F b ∨ vh.ownBlock = some b) w w') (fun J1 hJ1 => ?_) ?_
  case refine_2 =>
    rintro vh' w1 ⟨F1, es1, held1, h1, sub1, hh1, ho1, hv1, k1⟩ _j
    refine keeps2 h1 hr hh1 ho1 hv1 hi fun w2 F2 h2 s2 => ?_
    have kz := k1.size
    refine hJ w2 F2 es1 vh' held1 h2 (fun b hb => (s2.sub b hb).elim (sub1 b) (fun h => .inr (by omega))) hh1 (Sh.Own.keep ho1 s2.keep hv1) (fun g hg e => (s2.sub g e).elim (hv1 g hg) (fun h => by have := (Sh.Own.lt ho1 hg).2; omega)) (k1.trans' s2.keep fun b hb e => (sub1 b e).elim .inl (fun h => by omega))
  -- what a step of the cache leaves
  have fin : ∀ w1 F1 es1, CS w1 c room es1 F1 → St F F1 w w1 → Hd es1 held → J1 vh w1 := fun w1 F1 es1 h1 s1 hh1 =>
    hJ1 _ _ ⟨F1, es1, held, h1, s1.sub, hh1, Sh.Own.keep ho s1.keep hv, fun g hg e => (s1.sub g e).elim (hv g hg) (fun h => by have := (Sh.Own.lt ho hg).2; omega), s1.keep.mono fun b _ hb => .inl hb⟩
  by_cases hk3 : p.k = 3
  case neg =>
    by_cases hk2 : p.k = 2
    · simp only [stp, Nat.reduceAdd, Int.reduceLT, Int.reduceLE, Int.reduceEq, Int.reduceNe, ne_eq, bne_self_eq_false, beq_self_eq_true, d0, hk3, hk2, d3, d4, d5, Option.isSome_some, Option.getD_some]
      exact fill_c h hr1 (by omega) fun w1 F1 es1 ok h1 s1 r1 => fin w1 F1 es1 h1 s1 (hd_fill rfl r1 hh)
    · simp only [stp, Nat.reduceAdd, Int.reduceLT, Int.reduceLE, Int.reduceEq, Int.reduceNe, ne_eq, bne_self_eq_false, beq_self_eq_true, d0, hk3, hk2, d6, d7, Option.isSome_some, Option.getD_some]
      exact drop_c h fun w1 F1 es1 h1 s1 hp1 => fin w1 F1 es1 h1 s1 (hd_drop hp1 hh)
  simp only [stp, Nat.reduceAdd, Int.reduceLT, Int.reduceLE, Int.reduceEq, Int.reduceNe, ne_eq, bne_self_eq_false, beq_self_eq_true, d0, hk3, d2, d3, d4, d5, Option.isSome_some, Option.getD_some]
  refine change_c h hr1 (by omega) fun w1 F1 es1 code h1 s1 r1 => ?_
  by_cases hc : code = 0
  case neg =>
    have he := hd_not r1 hc
    subst he
    simp only [stp, Nat.reduceAdd, Int.reduceLT, Int.reduceLE, Int.reduceEq, Int.reduceNe, ne_eq, bne_self_eq_false, beq_self_eq_true, hc]
    exact fin w1 F1 es1 h1 s1 hh
  subst hc
  have hh1 := hd_change r1 hh h.nodup
  simp only [stp, Nat.reduceAdd, Int.reduceLT, Int.reduceLE, Int.reduceEq, Int.reduceNe, ne_eq, bne_self_eq_false, beq_self_eq_true]
  have s1z := s1.keep.size
  have ho1 : RowI w1 A vh held := Sh.Own.keep ho s1.keep hv
  have hp1 := s1.keep.blk hp htF
  obtain ⟨ph, ch, rfl⟩ := ho.form
  refine lp2 (fun m x y w' => ∃ k : Nat, y = .int .i64 (k : Int) ∧ k ≤ held.length ∧ m = held.length - k ∧ RowI w' (siz w1) x (others p.b (held.take k)) ∧ K0 w1 w') held.length ⟨0, rfl, Nat.zero_le _, rfl, Sh.Own.nil _ _ _ _, K0.refl _⟩ ?_
  rintro m x y w2 ⟨k, rfl, hk, hm, o2, k2⟩ J2 hJ2 _j
  subst m
  have kz2 := k2.size
  have hol := others_le (b := p.b) (l := held.take k)
  have htk := List.length_take_le k held
  have hp2 := k2.blk hp1 fun e => e
  have hp2d : blk w2.drew t = some (.cells p.cells.toArray 43) := hp2
  obtain ⟨_, _, a3, a4, a5, _, _⟩ := dS hp2
  by_cases hlt : k < held.length
  case neg =>
    have hlt' : ¬ ((k : Int) < (held.length : Int)) := by omega
    have hke : k = held.length := by omega
    subst hke
    rw [List.take_length] at o2 hol
    simp only [stp, Nat.reduceAdd, Int.reduceLT, Int.reduceLE, Int.reduceEq, Int.reduceNe, ne_eq, bne_self_eq_false, beq_self_eq_true, hlt']
    rw [ld_im (x := (p.b, p.v, p.s)) ⟨a3, a4, a5⟩]
    simp only [stp, Nat.reduceAdd, Int.reduceLT, Int.reduceLE, Int.reduceEq, Int.reduceNe, ne_eq, bne_self_eq_false, beq_self_eq_true]
    refine pu_39 o2 (one_im (x := (p.b, p.v, p.s))) (by omega) kz2 fun v' w3 o3 k3 hr3 => ?_
    have k13 : K0 w1 w3 := k2.trans' k3 fun b hb e => by have := (Sh.Own.lt o2 e).1; omega
    have nb : ∀ g, v'.ownBlock = some g → siz w1 ≤ g := fun g hg => (Sh.Own.lt o3 hg).1
    have o3' : RowI w3 (siz w1) v' (others p.b held ++ [(p.b, p.v, p.s)]) := by
      show Sh.Own w3 _ _ 3 v' (others p.b held ++ [(p.b, p.v, p.s)]).length (flat encI (others p.b held ++ [(p.b, p.v, p.s)]))
      rw [List.length_append, flat_snoc]
      exact o3
    obtain ⟨lc1, hc1, hFc1, hl1⟩ := h1
    refine hJ1 _ _ ⟨fun b => F1 b ∧ b < siz w1, es1, _, ⟨lc1, k13.cel hc1 fun e => e, fun e => hFc1 e.1, hl1.ltF.keep k13 fun _ _ e => e⟩, fun b hb => s1.sub b hb.1, hh1, ownBase o3' (by omega), fun g hg e => by have := nb g hg; have := e.2; omega, (s1.keep.trans k13.none).mono fun b _ hb => .inl hb⟩
  have hlt' : ((k : Int) < (held.length : Int)) := by omega
  have hwk := wrap_succ (i := k) (by omega)
  have oh2 : RowI w2 A (.slice ph held.length ch) held := Sh.Own.keep ho1 k2 fun _ _ e => e
  obtain ⟨g, c', e, hg1, hg2, _, _, _, _⟩ := Sh.Own.at oh2 (by omega)
  injection e with e1 _ e2
  subst e1 e2
  obtain ⟨x0, x1, x2⟩ := oh2.at hlt
  have hix : ∀ K, pur Try.prog (Instr.indexAt 39 (.slice (some ⟨g, 0, none⟩) held.length ch) (.int .i64 (k : Int))) K = K (.pointer (some ⟨g, k * 3, none⟩)) := fun K => by
    rw [ix_39 hlt, Nat.zero_add]
  have htk1 : others p.b (held.take (k + 1)) = others p.b (held.take k) ++ (if held[k].1 = p.b then [] else [held[k]]) := by
    rw [List.take_add_one, List.getElem?_eq_getElem hlt]
    unfold others
    rw [List.filter_append]
    congr 1
    simp only [Option.toList_some, List.filter_cons, List.filter_nil]
    by_cases hb : held[k].1 = p.b <;> simp [hb]
  simp only [stp, Nat.reduceAdd, Int.reduceLT, Int.reduceLE, Int.reduceEq, Int.reduceNe, ne_eq, bne_self_eq_false, beq_self_eq_true, hlt']
  refine jn1 (fun x' w' => RowI w' (siz w1) x' (others p.b (held.take (k + 1))) ∧ K0 w1 w') (fun J3 hJ3 => ?_) ?_
  case refine_2 =>
    rintro x' w3 ⟨o3, k3⟩ _j
    try simp only [stp, Nat.reduceAdd, Int.reduceLT, Int.reduceLE, Int.reduceEq, Int.reduceNe, ne_eq, bne_self_eq_false, beq_self_eq_true, hwk]
    exact hJ2 (held.length - (k + 1)) _ _ _ (by omega) ⟨k + 1, rfl, by omega, rfl, o3, k3⟩
  rw [htk1] at hJ3
  have k2d : K0 w1 w2.drew := k2.drew
  have o2d : RowI w2.drew (siz w1) x (others p.b (held.take k)) := Sh.Own.keep o2 (K0.refl w2).drew fun _ _ e => e
  by_cases hb : held[k].1 = p.b
  · rw [if_pos hb, List.append_nil] at hJ3
    simp only [stp, Nat.reduceAdd, Int.reduceLT, Int.reduceLE, Int.reduceEq, Int.reduceNe, ne_eq, bne_self_eq_false, beq_self_eq_true, cel_drew, hix, x0, a3, hb, Option.isSome_some, Option.getD_some]
    exact hJ3 _ _ ⟨o2d, k2d⟩
  · rw [if_neg hb] at hJ3
    simp only [stp, Nat.reduceAdd, Int.reduceLT, Int.reduceLE, Int.reduceEq, Int.reduceNe, ne_eq, bne_self_eq_false, beq_self_eq_true, cel_drew, hix, x0, x1, x2, a3, hb, Option.isSome_some, Option.getD_some]
    try rw [ld_im (w := w2.drew) (x := held[k]) ⟨x0, x1, x2⟩]
    try simp only [stp, Nat.reduceAdd, Int.reduceLT, Int.reduceLE, Int.reduceEq, Int.reduceNe, ne_eq, bne_self_eq_false, beq_self_eq_true]
    refine pu_39 (w := w2.drew) o2d one_im (by omega) (show siz w1 ≤ siz w2 from kz2) fun v' w3 o3 k3 hr3 => ?_
    refine hJ3 _ _ ⟨?_, k2d.trans' k3 fun b hb e => by have := (Sh.Own.lt o2 e).1; omega⟩
    show Sh.Own w3 _ _ 3 v' (others p.b (held.take k) ++ [held[k]]).length (flat encI (others p.b (held.take k) ++ [held[k]]))
    rw [List.length_append, flat_snoc]
    exact o3
end
end Go.Proofs.Ytjfookddoaemfaa
