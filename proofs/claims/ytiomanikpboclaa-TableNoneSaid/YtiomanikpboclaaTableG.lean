/- The table of locks: the first block that hinders a request, by what the others hold. Conditions: as each says. -/
import Derived.Test.YtiomanikpboclaaTableF
set_option linter.unusedSimpArgs false
set_option linter.unusedVariables false
namespace Go.Proofs.Ytiomanikpboclaa
open Go.Sh Go.Proofs.Ytiomanikpboclaa.Mi
set_option maxRecDepth 100000
def P41_1 (t6 : Value) (v_ahead : Value) (v_first : Value) (v_node : Value) (w_2 : World) (Q : Value → World → Prop) : Prop :=
 pur Try.prog (Builtin.len_ #[32] 3 #[v_ahead]) fun t59 => 
 lp 2 (fun J_4 => fun v_first_4 t60 w_10 => ∀ _j : Fr, 
  pur Try.prog (binS .lss 3 false false t60 t59) fun t61 => 
  condS t61
   (jn 1 (fun J_5 => 
   pur Try.prog (Instr.indexAt 32 v_ahead t60) fun t62 => 
   rd Try.prog (Instr.loadAt 36 t62) (fun t63 => 
   act Try.prog (Instr.alloc 36 true (.tuple #[])) (fun t15 w_11 => 
   act Try.prog (thenU (Instr.storeAt 36 t15 t63)) (fun _ w_12 => 
   pur Try.prog (Instr.fieldAt 36 t15 2) fun t65 => 
   pur Try.prog (Instr.fieldAt 31 t65 0) fun t66 => 
   rd Try.prog (Instr.loadAt 23 t66) (fun t67 => 
   pur Try.prog (Instr.fieldAt 31 t6 0) fun t68 => 
   rd Try.prog (Instr.loadAt 23 t68) (fun t69 => 
   callS Try.prog 44 #[t67, t69] (fun t70 w_13 => 
   pur Try.prog (Instr.extract t70 0) fun t71 => 
   pur Try.prog (Instr.extract t70 1) fun t72 => 
   act Try.prog (Instr.alloc 23 true (.tuple #[])) (fun t16 w_14 => 
   act Try.prog (thenU (Instr.storeAt 23 t16 t71)) (fun _ w_15 => 
   gd t72 true (fun k w_16 => pur Try.prog (Instr.fieldAt 36 t15 1) fun t75 => k t75 w_16) (fun t75_1 w_17 => 
   gd t72 true (fun k_1 w_18 => rd Try.prog (Instr.loadAt 3 t75_1) (fun t76 => k_1 t76 w_18) w_18) (fun t76_1 w_19 => 
   gd t72 true (fun k_2 w_20 => k_2 v_node w_20) (fun t77_1 w_21 => 
   gd t72 true (fun k_3 w_22 => pur Try.prog (binS .neq 3 false false t76_1 t77_1) fun t78 => k_3 t78 w_22) (fun t78_1 w_23 => 
   pur Try.prog (pickS t72 t78_1 (.bool false)) fun t79 => 
   gd t79 true (fun k_4 w_24 => pur Try.prog (Instr.fieldAt 36 t15 2) fun t81 => k_4 t81 w_24) (fun t81_1 w_25 => 
   gd t79 true (fun k_5 w_26 => pur Try.prog (Instr.fieldAt 31 t81_1 1) fun t82 => k_5 t82 w_26) (fun t82_1 w_27 => 
   gd t79 true (fun k_6 w_28 => rd Try.prog (Instr.loadAt 3 t82_1) (fun t83 => k_6 t83 w_28) w_28) (fun t83_1 w_29 => 
   gd t79 true (fun k_7 w_30 => pur Try.prog (Instr.fieldAt 31 t6 1) fun t84 => k_7 t84 w_30) (fun t84_1 w_31 => 
   gd t79 true (fun k_8 w_32 => rd Try.prog (Instr.loadAt 3 t84_1) (fun t85 => k_8 t85 w_32) w_32) (fun t85_1 w_33 => 
   gd t79 true (fun k_9 w_34 => callS Try.prog 53 #[t83_1, t85_1] (fun t86 w_35 => k_9 t86 w_35) w_34) (fun t86_1 w_36 => 
   gd t79 true (fun k_10 w_37 => pur Try.prog (Op.unary .not t86_1) fun t87 => k_10 t87 w_37) (fun t87_1 w_38 => 
   pur Try.prog (pickS t79 t87_1 (.bool false)) fun t88 => 
   condS t88
    (pur Try.prog (Instr.fieldAt 23 t16 0) fun t90 => 
    rd Try.prog (Instr.loadAt 3 t90) (fun t91 => 
    pur Try.prog (Builtin.min_ #[3, 3] 3 #[v_first_4, t91]) fun t92 => 
    J_5 t92 w_38) w_38)
    (J_5 v_first_4 w_38)) w_36) w_33) w_31) w_29) w_27) w_25) w_23) w_21) w_19) w_17) w_15) w_14) w_13) w_12) w_12) w_12) w_11) w_10) w_10)
  (fun v_first_5 w_39 => ∀ _j : Fr, 
   pur Try.prog (binS .add 3 false true t60 (.int .i64 1)) fun t93 => 
   J_4 v_first_5 t93 w_39))
   (pur Try.prog (Instr.fieldAt 31 t6 0) fun t96 => 
 pur Try.prog (Instr.fieldAt 23 t96 1) fun t97 => 
 rd Try.prog (Instr.loadAt 3 t97) (fun t98 => 
 pur Try.prog (binS .lss 3 false false v_first_4 t98) fun t99 => 
 Q (.tuple #[v_first_4, t99]) (World.drew w_10)) (World.drew w_10))) [v_first, (.int .i64 0)] w_2
def P41_0 (v_t v_node v_l v_ahead : Value) (Q : Value → World → Prop) (w : World) : Prop :=
 act Try.prog (Instr.box 31 v_l) (fun t6 w_1 => 
 pur Try.prog (Instr.fieldAt 31 t6 0) fun t18 => 
 pur Try.prog (Instr.fieldAt 23 t18 1) fun t19 => 
 rd Try.prog (Instr.loadAt 3 t19) (fun t20 => 
 lp 2 (fun J => fun v_first v_other w_2 => ∀ _j : Fr, 
  pur Try.prog (nilV v_t) fun t23 => 
  pur Try.prog (Instr.fieldAt 49 t23 0) fun t24 => 
  rd Try.prog (Instr.loadAt 3 t24) (fun t25 => 
  pur Try.prog (binS .leq 3 false false v_other t25) fun t26 => 
  condS t26
   (jn 1 (fun J_1 => 
   pur Try.prog (binS .eql 3 false false v_other v_node) fun t31 => 
   condS t31
    (J_1 v_first w_2)
    (pur Try.prog (nilV v_t) fun t34 => 
   pur Try.prog (Instr.fieldAt 49 t34 1) fun t35 => 
   pur Try.prog (Instr.indexAt 47 t35 v_other) fun t36 => 
   rd Try.prog (Instr.loadAt 46 t36) (fun t37 => 
   pur Try.prog (Instr.fieldAt 31 t6 0) fun t38 => 
   rd Try.prog (Instr.loadAt 23 t38) (fun t39 => 
   callS Try.prog 28 #[t37, t39] (fun t40 w_3 => 
   pur Try.prog (Builtin.len_ #[65] 3 #[t40]) fun t41 => 
   lp 2 (fun J_2 => fun v_first_1 t42 w_4 => ∀ _j : Fr, 
    pur Try.prog (binS .lss 3 false false t42 t41) fun t43 => 
    condS t43
     (jn 1 (fun J_3 => 
     pur Try.prog (Instr.indexAt 65 t40 t42) fun t44 => 
     rd Try.prog (Instr.loadAt 68 t44) (fun t45 => 
     act Try.prog (Instr.alloc 68 true (.tuple #[])) (fun t13 w_5 => 
     act Try.prog (thenU (Instr.storeAt 68 t13 t45)) (fun _ w_6 => 
     pur Try.prog (Instr.fieldAt 68 t13 1) fun t46 => 
     rd Try.prog (Instr.loadAt 3 t46) (fun t47 => 
     pur Try.prog (Instr.fieldAt 31 t6 1) fun t48 => 
     rd Try.prog (Instr.loadAt 3 t48) (fun t49 => 
     callS Try.prog 53 #[t47, t49] (fun t50 w_7 => 
     pur Try.prog (Op.unary .not t50) fun t51 => 
     condS t51
      (pur Try.prog (Instr.fieldAt 68 t13 0) fun t53 => 
      pur Try.prog (Instr.fieldAt 23 t53 0) fun t54 => 
      rd Try.prog (Instr.loadAt 3 t54) (fun t55 => 
      pur Try.prog (Builtin.min_ #[3, 3] 3 #[v_first_1, t55]) fun t56 => 
      J_3 t56 w_7) w_7)
      (J_3 v_first_1 w_7)) w_6) w_6) w_6) w_5) w_4) w_4)
    (fun v_first_2 w_8 => ∀ _j : Fr, 
     pur Try.prog (binS .add 3 false true t42 (.int .i64 1)) fun t57 => 
     J_2 v_first_2 t57 w_8))
     (J_1 v_first_1 w_4)) [v_first, (.int .i64 0)] w_3) (World.drew w_2)) (World.drew w_2)) (World.drew w_2)))
  (fun v_first_3 w_9 => ∀ _j : Fr, 
   pur Try.prog (binS .add 3 false true v_other (.int .i64 1)) fun t28 => 
   J v_first_3 t28 w_9))
   (P41_1 t6 v_ahead v_first v_node w_2 Q)) w_2) [t20, (.int .i64 1)] w_1) w_1) w
theorem cut41 (v_t v_node v_l v_ahead : Value) (Q : Value → World → Prop) (w : World) : S41 v_t v_node v_l v_ahead Q w = P41_0 v_t v_node v_l v_ahead Q w := rfl
-- P41_1 t6 v_ahead v_first v_node w_2 Q
section
variable {w w' : World} {Q : Value → World → Prop} {B t : Nat} {s : TS}
def hp1 (md : Int) (f : Int) (p : Pt Int) : Int := if fitP p.2 md then f else min f p.1.1
def hNode (s : TS) (node a b md : Int) (f : Int) (o : Nat) : Int := if (o : Int) = node then f else (partsL (a, b) (s.hs[o]?.getD [])).foldl (hp1 md) f
/-- The least block that the nodes 1..n hinder. -/
def hAll (s : TS) (node a b md : Int) : Nat → Int
  | 0 => b
  | n + 1 => hNode s node a b md (hAll s node a b md n) (n + 1)
theorem hinders1 {node a b md : Int} {va : Value} (h : TL w B t s)
    (hq : ∀ w' g (n : Nat), (n : Int) = s.nodes → blk w' g = some (.cells #[.int .i64 a, .int .i64 b, .int .i64 md] 31) → siz w ≤ g → K0 w w' → P41_1 (.pointer (some ⟨g, 0, none⟩)) va (.int .i64 (hAll s node a b md n)) (.int .i64 node) w' Q) :
    callS Try.prog 41 #[.pointer (some ⟨t, 0, none⟩), .int .i64 node, .agg #[.int .i64 a, .int .i64 b, .int .i64 md], va] Q w := by
  refine ref41 ?_
  rw [cut41]
  unfold P41_0
  obtain ⟨ms, wv, h⟩ := h
  simp only [stp, Nat.reduceAdd, Int.reduceLT, Int.reduceLE, Int.reduceEq, Int.reduceNe, ne_eq, bne_self_eq_false, beq_self_eq_true, stm, act_box, agg_cells]
  have b1 : blk (w.alloc (.cells #[.int .i64 a, .int .i64 b, .int .i64 md] 31)) (siz w) = some (.cells #[.int .i64 a, .int .i64 b, .int .i64 md] 31) := blk_alloc_new
  have k1 : K0 w (w.alloc (.cells #[.int .i64 a, .int .i64 b, .int .i64 md] 31)) := (K0.refl w).alloc _
  generalize w.alloc (.cells #[.int .i64 a, .int .i64 b, .int .i64 md] 31) = w1 at b1 k1
  have hnn := h.nn
  refine lp2 (fun m x y w' => ∃ o : Nat, (o : Int) ≤ s.nodes ∧ x = .int .i64 (hAll s node a b md o) ∧ y = .int .i64 ((o + 1 : Nat) : Int) ∧ m = 17 - o ∧ K0 w1 w') 17 ⟨0, by omega, rfl, rfl, rfl, K0.refl _⟩ ?_
  rintro m x y w2 ⟨o, ho, rfl, rfl, rfl, k2⟩ J hJ _j
  have h2 := (h.keep0 k1).keep0 k2
  have b2 := k2.blk b1 id
  have c0 := h2.c0
  by_cases hle : ((o + 1 : Nat) : Int) ≤ s.nodes
  case neg =>
    simp only [stp, Nat.reduceAdd, Int.reduceLT, Int.reduceLE, Int.reduceEq, Int.reduceNe, ne_eq, bne_self_eq_false, beq_self_eq_true, stm, c0, hle]
    exact hq _ _ o (by omega) b2 (Nat.le_refl _) (k1.trans k2)
  have hlt : o + 1 < 17 := by omega
  have hwr : IntKind.i64.wrap (((o + 1 : Nat) : Int) + 1) = ((o + 1 + 1 : Nat) : Int) := wrap_succ (by omega)
  obtain ⟨mm, l, e1, e2, e3, hm, hd⟩ := h2.node hlt
  have hl := canon_len (n := 4096) hm.canon hd
  simp only [stp, Nat.reduceAdd, Int.reduceLT, Int.reduceLE, Int.reduceEq, Int.reduceNe, ne_eq, bne_self_eq_false, beq_self_eq_true, stm, c0, hle]
  refine jn1 (fun x' w' => x' = .int .i64 (hAll s node a b md (o + 1)) ∧ K0 w1 w') (fun J1 hJ1 => ?_) ?_
  · by_cases hon : ((o + 1 : Nat) : Int) = node
    · simp only [stp, Nat.reduceAdd, Int.reduceLT, Int.reduceLE, Int.reduceEq, Int.reduceNe, ne_eq, bne_self_eq_false, beq_self_eq_true, hon]
      exact hJ1 _ _ ⟨by
        show Value.int .i64 _ = Value.int .i64 (hNode s node a b md (hAll s node a b md o) (o + 1))
        unfold hNode
        rw [if_pos hon], k2⟩
    simp only [stp, Nat.reduceAdd, Int.reduceLT, Int.reduceLE, Int.reduceEq, Int.reduceNe, ne_eq, bne_self_eq_false, beq_self_eq_true, hon]
    rw [ixa hlt]
    have c1 : cel w2 (siz w) 0 = some (.int .i64 a) := by rw [cel_b b2]; rfl
    have c2 : cel w2 (siz w) 1 = some (.int .i64 b) := by rw [cel_b b2]; rfl
    simp only [stp, Nat.reduceAdd, Int.reduceLT, Int.reduceLE, Int.reduceEq, Int.reduceNe, ne_eq, bne_self_eq_false, beq_self_eq_true, stm, e3, c1, c2]
    refine parts_c (a := a) (b := b) hm (by omega) fun w3 v3 o3 k3 => ?_
    have k3 : K0 w2 w3 := ((K0.refl w2).drew).trans k3
    have hAo : hAll s node a b md (o + 1) = (partsL (a, b) l).foldl (hp1 md) (hAll s node a b md o) := by
      show hNode s node a b md (hAll s node a b md o) (o + 1) = _
      unfold hNode
      rw [if_neg hon, e2]
      rfl
    rw [hAo] at hJ1
    have hPl := partsL_len (a, b) l
    generalize partsL (a, b) l = P at *
    generalize hAll s node a b md o = f0 at *
    obtain ⟨p3, c3, rfl⟩ := o3.form
    have b3 := k3.blk b2 id
    simp only [stp, Nat.reduceAdd, Int.reduceLT, Int.reduceLE, Int.reduceEq, Int.reduceNe, ne_eq, bne_self_eq_false, beq_self_eq_true]
    refine lpc2 P.length (by omega) (fun i x' w' => x' = .int .i64 ((P.take i).foldl (hp1 md) f0) ∧ K0 w3 w') ⟨rfl, K0.refl _⟩ ?_ ?_
    · rintro i x' w4 hi ⟨rfl, k4⟩ J2 hJ2 _j
      have hi' : (i : Int) < (P.length : Int) := by omega
      obtain ⟨g, rfl, q0, q1, q2⟩ := part_at (o3.keep k4 fun _ _ e => e) hi
      have c2' : cel w4 (siz w) 2 = some (.int .i64 md) := by rw [cel_b (k4.blk b3 id)]; rfl
      have hst : (P.take (i + 1)).foldl (hp1 md) f0 = hp1 md ((P.take i).foldl (hp1 md) f0) P[i] := by
        rw [List.take_add_one, List.getElem?_eq_getElem hi, Option.toList_some, List.foldl_append]
        rfl
      simp only [stp, Nat.reduceAdd, Int.reduceLT, Int.reduceLE, Int.reduceEq, Int.reduceNe, ne_eq, bne_self_eq_false, beq_self_eq_true, hi']
      refine jn1 (fun x' w' => x' = .int .i64 ((P.take (i + 1)).foldl (hp1 md) f0) ∧ K0 w3 w') (fun J3 hJ3 => ?_) ?_
      · rw [ix_65 hi, Nat.zero_add]
        simp only [stp, Nat.reduceAdd, Int.reduceLT, Int.reduceLE, Int.reduceEq, Int.reduceNe, ne_eq, bne_self_eq_false, beq_self_eq_true, stm, q0, q1, q2]
        have b5 : blk (w4.alloc (.cells #[.int .i64 P[i].1.1, .int .i64 P[i].1.2, .int .i64 P[i].2] 68)) (siz w4) = some (.cells #[.int .i64 P[i].1.1, .int .i64 P[i].1.2, .int .i64 P[i].2] 68) := blk_alloc_new
        have k5 : K0 w4 (w4.alloc (.cells #[.int .i64 P[i].1.1, .int .i64 P[i].1.2, .int .i64 P[i].2] 68)) := (K0.refl w4).alloc _
        generalize w4.alloc (.cells #[.int .i64 P[i].1.1, .int .i64 P[i].1.2, .int .i64 P[i].2] 68) = w5 at b5 k5
        have c2'' := k5.cel c2' (by exact fun h => h)
        have d0 : cel w5 (siz w4) 0 = some (.int .i64 P[i].1.1) := by rw [cel_b b5]; rfl
        simp only [stp, Nat.reduceAdd, Int.reduceLT, Int.reduceLE, Int.reduceEq, Int.reduceNe, ne_eq, bne_self_eq_false, beq_self_eq_true, stm, c2'']
        refine mfit_c ?_
        by_cases hf : fitP P[i].2 md
        · rw [decide_eq_true (show isMd P[i].2 ∧ isMd md ∧ (P[i].2 = 0 ∨ md = 0 ∨ (P[i].2 = 1 ∧ md = 1)) from hf)]
          simp only [stp, Nat.reduceAdd, Int.reduceLT, Int.reduceLE, Int.reduceEq, Int.reduceNe, ne_eq, bne_self_eq_false, beq_self_eq_true]
          exact hJ3 _ _ ⟨by rw [hst]; unfold hp1; rw [if_pos hf], k4.trans k5⟩
        · rw [decide_eq_false (show ¬ (isMd P[i].2 ∧ isMd md ∧ (P[i].2 = 0 ∨ md = 0 ∨ (P[i].2 = 1 ∧ md = 1))) from hf)]
          simp only [stp, Nat.reduceAdd, Int.reduceLT, Int.reduceLE, Int.reduceEq, Int.reduceNe, ne_eq, bne_self_eq_false, beq_self_eq_true, stm, d0]
          exact hJ3 _ _ ⟨by rw [hst]; show _ = Value.int .i64 (if fitP P[i].2 md then _ else _); rw [if_neg hf], k4.trans k5⟩
      · rintro x' w5 ⟨rfl, k5⟩ _j
        exact hJ2 _ _ ⟨rfl, k5⟩
    · rintro x' w4 ⟨rfl, k4⟩ J2 _j
      have hn : ¬ ((P.length : Int) < (P.length : Int)) := by omega
      rw [List.take_length]
      simp only [stp, Nat.reduceAdd, Int.reduceLT, Int.reduceLE, Int.reduceEq, Int.reduceNe, ne_eq, bne_self_eq_false, beq_self_eq_true, hn]
      exact hJ1 _ _ ⟨rfl, (k2.trans k3).trans k4⟩
  · rintro x' w3 ⟨rfl, k3⟩ _j
    show J (.int .i64 (hAll s node a b md (o + 1))) (.int .i64 (IntKind.i64.wrap (((o + 1 : Nat) : Int) + 1))) w3
    exact hJ (17 - (o + 1)) _ _ _ (by omega) ⟨o + 1, hle, rfl, by rw [hwr], rfl, k3⟩
end
end Go.Proofs.Ytiomanikpboclaa
