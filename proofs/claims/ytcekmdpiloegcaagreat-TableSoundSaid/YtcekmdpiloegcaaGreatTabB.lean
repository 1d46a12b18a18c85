/- The table of locks: the first block that hinders a request, by what the others hold. Conditions: as each says. -/
import Derived.Test.YtcekmdpiloegcaaGreatTabA
set_option linter.unusedSimpArgs false
set_option linter.unusedVariables false
namespace Go.Proofs.YtcekmdpiloegcaaGreat
open Go.Sh Go.Proofs.YtcekmdpiloegcaaGreat.Mi
set_option maxRecDepth 100000
def P37_1 (t6 : Value) (v_ahead : Value) (v_first : Value) (v_node : Value) (w_2 : World) (Q : Value → World → Prop) : Prop :=
 pur Tryz.prog (Builtin.len_ #[35] 3 #[v_ahead]) fun t59 => 
 lp 2 (fun J_4 => fun v_first_4 t60 w_10 => ∀ _j : Fr, 
  pur Tryz.prog (binS .lss 3 false false t60 t59) fun t61 => 
  condS t61
   (jn 1 (fun J_5 => 
   pur Tryz.prog (Instr.indexAt 35 v_ahead t60) fun t62 => 
   rd Tryz.prog (Instr.loadAt 50 t62) (fun t63 => 
   act Tryz.prog (Instr.alloc 50 true (.tuple #[])) (fun t15 w_11 => 
   act Tryz.prog (thenU (Instr.storeAt 50 t15 t63)) (fun _ w_12 => 
   pur Tryz.prog (Instr.fieldAt 50 t15 2) fun t65 => 
   pur Tryz.prog (Instr.fieldAt 29 t65 0) fun t66 => 
   rd Tryz.prog (Instr.loadAt 27 t66) (fun t67 => 
   pur Tryz.prog (Instr.fieldAt 29 t6 0) fun t68 => 
   rd Tryz.prog (Instr.loadAt 27 t68) (fun t69 => 
   callS Tryz.prog 40 #[t67, t69] (fun t70 w_13 => 
   pur Tryz.prog (Instr.extract t70 0) fun t71 => 
   pur Tryz.prog (Instr.extract t70 1) fun t72 => 
   act Tryz.prog (Instr.alloc 27 true (.tuple #[])) (fun t16 w_14 => 
   act Tryz.prog (thenU (Instr.storeAt 27 t16 t71)) (fun _ w_15 => 
   gd t72 true (fun k w_16 => pur Tryz.prog (Instr.fieldAt 50 t15 1) fun t75 => k t75 w_16) (fun t75_1 w_17 => 
   gd t72 true (fun k_1 w_18 => rd Tryz.prog (Instr.loadAt 3 t75_1) (fun t76 => k_1 t76 w_18) w_18) (fun t76_1 w_19 => 
   gd t72 true (fun k_2 w_20 => k_2 v_node w_20) (fun t77_1 w_21 => 
   gd t72 true (fun k_3 w_22 => pur Tryz.prog (binS .neq 3 false false t76_1 t77_1) fun t78 => k_3 t78 w_22) (fun t78_1 w_23 => 
   pur Tryz.prog (pickS t72 t78_1 (.bool false)) fun t79 => 
   gd t79 true (fun k_4 w_24 => pur Tryz.prog (Instr.fieldAt 50 t15 2) fun t81 => k_4 t81 w_24) (fun t81_1 w_25 => 
   gd t79 true (fun k_5 w_26 => pur Tryz.prog (Instr.fieldAt 29 t81_1 1) fun t82 => k_5 t82 w_26) (fun t82_1 w_27 => 
   gd t79 true (fun k_6 w_28 => rd Tryz.prog (Instr.loadAt 3 t82_1) (fun t83 => k_6 t83 w_28) w_28) (fun t83_1 w_29 => 
   gd t79 true (fun k_7 w_30 => pur Tryz.prog (Instr.fieldAt 29 t6 1) fun t84 => k_7 t84 w_30) (fun t84_1 w_31 => 
   gd t79 true (fun k_8 w_32 => rd Tryz.prog (Instr.loadAt 3 t84_1) (fun t85 => k_8 t85 w_32) w_32) (fun t85_1 w_33 => 
   gd t79 true (fun k_9 w_34 => callS Tryz.prog 47 #[t83_1, t85_1] (fun t86 w_35 => k_9 t86 w_35) w_34) (fun t86_1 w_36 => 
   gd t79 true (fun k_10 w_37 => pur Tryz.prog (Op.unary .not t86_1) fun t87 => k_10 t87 w_37) (fun t87_1 w_38 => 
   pur Tryz.prog (pickS t79 t87_1 (.bool false)) fun t88 => 
   condS t88
    (pur Tryz.prog (Instr.fieldAt 27 t16 0) fun t90 => 
    rd Tryz.prog (Instr.loadAt 3 t90) (fun t91 => 
    pur Tryz.prog (Builtin.min_ #[3, 3] 3 #[v_first_4, t91]) fun t92 => 
    J_5 t92 w_38) w_38)
    (J_5 v_first_4 w_38)) w_36) w_33) w_31) w_29) w_27) w_25) w_23) w_21) w_19) w_17) w_15) w_14) w_13) w_12) w_12) w_12) w_11) w_10) w_10)
  (fun v_first_5 w_39 => ∀ _j : Fr, 
   pur Tryz.prog (binS .add 3 false true t60 (.int .i64 1)) fun t93 => 
   J_4 v_first_5 t93 w_39))
   (pur Tryz.prog (Instr.fieldAt 29 t6 0) fun t96 => 
 pur Tryz.prog (Instr.fieldAt 27 t96 1) fun t97 => 
 rd Tryz.prog (Instr.loadAt 3 t97) (fun t98 => 
 pur Tryz.prog (binS .lss 3 false false v_first_4 t98) fun t99 => 
 Q (.tuple #[v_first_4, t99]) (World.drew w_10)) (World.drew w_10))) [v_first, (.int .i64 0)] w_2
def P37_0 (v_t v_node v_l v_ahead : Value) (Q : Value → World → Prop) (w : World) : Prop :=
 act Tryz.prog (Instr.box 29 v_l) (fun t6 w_1 => 
 pur Tryz.prog (Instr.fieldAt 29 t6 0) fun t18 => 
 pur Tryz.prog (Instr.fieldAt 27 t18 1) fun t19 => 
 rd Tryz.prog (Instr.loadAt 3 t19) (fun t20 => 
 lp 2 (fun J => fun v_first v_other w_2 => ∀ _j : Fr, 
  pur Tryz.prog (nilV v_t) fun t23 => 
  pur Tryz.prog (Instr.fieldAt 54 t23 0) fun t24 => 
  rd Tryz.prog (Instr.loadAt 3 t24) (fun t25 => 
  pur Tryz.prog (binS .leq 3 false false v_other t25) fun t26 => 
  condS t26
   (jn 1 (fun J_1 => 
   pur Tryz.prog (binS .eql 3 false false v_other v_node) fun t31 => 
   condS t31
    (J_1 v_first w_2)
    (pur Tryz.prog (nilV v_t) fun t34 => 
   pur Tryz.prog (Instr.fieldAt 54 t34 1) fun t35 => 
   pur Tryz.prog (Instr.indexAt 52 t35 v_other) fun t36 => 
   rd Tryz.prog (Instr.loadAt 51 t36) (fun t37 => 
   pur Tryz.prog (Instr.fieldAt 29 t6 0) fun t38 => 
   rd Tryz.prog (Instr.loadAt 27 t38) (fun t39 => 
   callS Tryz.prog 23 #[t37, t39] (fun t40 w_3 => 
   pur Tryz.prog (Builtin.len_ #[62] 3 #[t40]) fun t41 => 
   lp 2 (fun J_2 => fun v_first_1 t42 w_4 => ∀ _j : Fr, 
    pur Tryz.prog (binS .lss 3 false false t42 t41) fun t43 => 
    condS t43
     (jn 1 (fun J_3 => 
     pur Tryz.prog (Instr.indexAt 62 t40 t42) fun t44 => 
     rd Tryz.prog (Instr.loadAt 65 t44) (fun t45 => 
     act Tryz.prog (Instr.alloc 65 true (.tuple #[])) (fun t13 w_5 => 
     act Tryz.prog (thenU (Instr.storeAt 65 t13 t45)) (fun _ w_6 => 
     pur Tryz.prog (Instr.fieldAt 65 t13 1) fun t46 => 
     rd Tryz.prog (Instr.loadAt 3 t46) (fun t47 => 
     pur Tryz.prog (Instr.fieldAt 29 t6 1) fun t48 => 
     rd Tryz.prog (Instr.loadAt 3 t48) (fun t49 => 
     callS Tryz.prog 47 #[t47, t49] (fun t50 w_7 => 
     pur Tryz.prog (Op.unary .not t50) fun t51 => 
     condS t51
      (pur Tryz.prog (Instr.fieldAt 65 t13 0) fun t53 => 
      pur Tryz.prog (Instr.fieldAt 27 t53 0) fun t54 => 
      rd Tryz.prog (Instr.loadAt 3 t54) (fun t55 => 
      pur Tryz.prog (Builtin.min_ #[3, 3] 3 #[v_first_1, t55]) fun t56 => 
      J_3 t56 w_7) w_7)
      (J_3 v_first_1 w_7)) w_6) w_6) w_6) w_5) w_4) w_4)
    (fun v_first_2 w_8 => ∀ _j : Fr, 
     pur Tryz.prog (binS .add 3 false true t42 (.int .i64 1)) fun t57 => 
     J_2 v_first_2 t57 w_8))
     (J_1 v_first_1 w_4)) [v_first, (.int .i64 0)] w_3) (World.drew w_2)) (World.drew w_2)) (World.drew w_2)))
  (fun v_first_3 w_9 => ∀ _j : Fr, 
   pur Tryz.prog (binS .add 3 false true v_other (.int .i64 1)) fun t28 => 
   J v_first_3 t28 w_9))
   (P37_1 t6 v_ahead v_first v_node w_2 Q)) w_2) [t20, (.int .i64 1)] w_1) w_1) w
theorem cut37 (v_t v_node v_l v_ahead : Value) (Q : Value → World → Prop) (w : World) : S37 v_t v_node v_l v_ahead Q w = P37_0 v_t v_node v_l v_ahead Q w := rfl
-- P37_1 t6 v_ahead v_first v_node w_2 Q
section
variable {w w' : World} {Q : Value → World → Prop} {B t : Nat} {s : TS}
def hp1 (md : Int) (f : Int) (p : Pt Int) : Int := if fitP p.2 md then f else min f p.1.1
def hNode (s : TS) (node a b md : Int) (f : Int) (o : Nat) : Int := if (o : Int) = node then f else (partsL (a, b) (s.hs[o]?.getD [])).foldl (hp1 md) f
/-- The least block that the nodes 1..n hinder. -/
def hAll (s : TS) (node a b md : Int) : Nat → Int
  | 0 => b
  | n + 1 => hNode s node a b md (hAll s node a b md n) (n + 1)
theorem hinders1 {node a b md : Int} {va : Value} (h : TL w B t s)
    (hq : ∀ w' g (n : Nat), (n : Int) = s.nodes → blk w' g = some (.cells #[.int .i64 a, .int .i64 b, .int .i64 md] 29) → siz w ≤ g → K0 w w' → P37_1 (.pointer (some ⟨g, 0, none⟩)) va (.int .i64 (hAll s node a b md n)) (.int .i64 node) w' Q) :
    callS Tryz.prog 37 #[.pointer (some ⟨t, 0, none⟩), .int .i64 node, .agg #[.int .i64 a, .int .i64 b, .int .i64 md], va] Q w := by
  refine ref37 ?_
  rw [cut37]
  unfold P37_0
  obtain ⟨ms, wv, h⟩ := h
  simp only [stp, Nat.reduceAdd, Int.reduceLT, Int.reduceLE, Int.reduceEq, Int.reduceNe, ne_eq, bne_self_eq_false, beq_self_eq_true, stm, act_box, agg_cells]
  have b1 : blk (w.alloc (.cells #[.int .i64 a, .int .i64 b, .int .i64 md] 29)) (siz w) = some (.cells #[.int .i64 a, .int .i64 b, .int .i64 md] 29) := blk_alloc_new
  have k1 : K0 w (w.alloc (.cells #[.int .i64 a, .int .i64 b, .int .i64 md] 29)) := (K0.refl w).alloc _
  generalize w.alloc (.cells #[.int .i64 a, .int .i64 b, .int .i64 md] 29) = w1 at b1 k1
  have hnn := h.nn
  refine lp2 (fun m x y w' => ∃ o : Nat, (o : Int) ≤ s.nodes ∧ x = .int .i64 (hAll s node a b md o) ∧ y = .int .i64 ((o + 1 : Nat) : Int) ∧ m = 17 - o ∧ K0 w1 w') 17 ⟨0, by omega, rfl, rfl, rfl, K0.refl _⟩ ?_
  rintro m x y w2 ⟨o, ho, rfl, rfl, rfl, k2⟩ J hJ _j
  have h2 := (h.keep0 k1).keep0 k2
  have b2 := k2.blk b1 id
  have c0 := h2.c0
  by_cases hle : ((o + 1 : Nat) : Int) ≤ s.nodes
  case neg =>
    simp only [stp, Nat.reduceAdd, Int.reduceLT, Int.reduceLE, Int.reduceEq, Int.reduceNe, ne_eq, bne_self_eq_false, beq_self_eq_true, stm, c0, hle]
    exact hq _ _ o (by omega) b2 (Nat.le_refl _) (k1.trans k2)
  have hlt : o + 1 < 17 := by omega
  have hwr : IntKind.i64.wrap (((o + 1 : Nat) : Int) + 1) = ((o + 1 + 1 : Nat) : Int) := wrap_succ (by omega)
  obtain ⟨mm, l, e1, e2, e3, hm, hd⟩ := h2.node hlt
  have hl := canon_len (n := 4096) hm.canon hd
  simp only [stp, Nat.reduceAdd, Int.reduceLT, Int.reduceLE, Int.reduceEq, Int.reduceNe, ne_eq, bne_self_eq_false, beq_self_eq_true, stm, c0, hle]
  refine jn1 (fun x' w' => x' = .int .i64 (hAll s node a b md (o + 1)) ∧ K0 w1 w') (fun J1 hJ1 => ?_) ?_
  · by_cases hon : ((o + 1 : Nat) : Int) = node
    · simp only [stp, Nat.reduceAdd, Int.reduceLT, Int.reduceLE, Int.reduceEq, Int.reduceNe, ne_eq, bne_self_eq_false, beq_self_eq_true, hon]
      exact hJ1 _ _ ⟨by
        show Value.int .i64 _ = Value.int .i64 (hNode s node a b md (hAll s node a b md o) (o + 1))
        unfold hNode
        rw [if_pos hon], k2⟩
    simp only [stp, Nat.reduceAdd, Int.reduceLT, Int.reduceLE, Int.reduceEq, Int.reduceNe, ne_eq, bne_self_eq_false, beq_self_eq_true, hon]
    rw [ixa hlt]
    have c1 : cel w2 (siz w) 0 = some (.int .i64 a) := by rw [cel_b b2]; rfl
    have c2 : cel w2 (siz w) 1 = some (.int .i64 b) := by rw [cel_b b2]; rfl
    simp only [stp, Nat.reduceAdd, Int.reduceLT, Int.reduceLE, Int.reduceEq, Int.reduceNe, ne_eq, bne_self_eq_false, beq_self_eq_true, stm, e3, c1, c2]
    refine parts_c (a := a) (b := b) hm (by omega) fun w3 v3 o3 k3 => ?_
    have k3 : K0 w2 w3 := ((K0.refl w2).drew).trans k3
    have hAo : hAll s node a b md (o + 1) = (partsL (a, b) l).foldl (hp1 md) (hAll s node a b md o) := by
      show hNode s node a b md (hAll s node a b md o) (o + 1) = _
      unfold hNode
      rw [if_neg hon, e2]
      rfl
    rw [hAo] at hJ1
    have hPl := partsL_len (a, b) l
    generalize partsL (a, b) l = P at *
    generalize hAll s node a b md o = f0 at *
    obtain ⟨p3, c3, rfl⟩ := o3.form
    have b3 := k3.blk b2 id
    simp only [stp, Nat.reduceAdd, Int.reduceLT, Int.reduceLE, Int.reduceEq, Int.reduceNe, ne_eq, bne_self_eq_false, beq_self_eq_true]
    refine lpc2 P.length (by omega) (fun i x' w' => x' = .int .i64 ((P.take i).foldl (hp1 md) f0) ∧ K0 w3 w') ⟨rfl, K0.refl _⟩ ?_ ?_
    · rintro i x' w4 hi ⟨rfl, k4⟩ J2 hJ2 _j
      have hi' : (i : Int) < (P.length : Int) := by omega
      obtain ⟨g, rfl, q0, q1, q2⟩ := part_at (o3.keep k4 fun _ _ e => e) hi
      have c2' : cel w4 (siz w) 2 = some (.int .i64 md) := by rw [cel_b (k4.blk b3 id)]; rfl
      have hst : (P.take (i + 1)).foldl (hp1 md) f0 = hp1 md ((P.take i).foldl (hp1 md) f0) P[i] := by
        rw [List.take_add_one, List.getElem?_eq_getElem hi, Option.toList_some, List.foldl_append]
        rfl
      simp only [stp, Nat.reduceAdd, Int.reduceLT, Int.reduceLE, Int.reduceEq, Int.reduceNe, ne_eq, bne_self_eq_false, beq_self_eq_true, hi']
      refine jn1 (fun x' w' => x' = .int .i64 ((P.take (i + 1)).foldl (hp1 md) f0) ∧ K0 w3 w') (fun J3 hJ3 => ?_) ?_
      · rw [ix_62 hi, Nat.zero_add]
        simp only [stp, Nat.reduceAdd, Int.reduceLT, Int.reduceLE, Int.reduceEq, Int.reduceNe, ne_eq, bne_self_eq_false, beq_self_eq_true, stm, q0, q1, q2]
        have b5 : blk (w4.alloc (.cells #[.int .i64 P[i].1.1, .int .i64 P[i].1.2, .int .i64 P[i].2] 65)) (siz w4) = some (.cells #[.int .i64 P[i].1.1, .int .i64 P[i].1.2, .int .i64 P[i].2] 65) := blk_alloc_new
        have k5 : K0 w4 (w4.alloc (.cells #[.int .i64 P[i].1.1, .int .i64 P[i].1.2, .int .i64 P[i].2] 65)) := (K0.refl w4).alloc _
        generalize w4.alloc (.cells #[.int .i64 P[i].1.1, .int .i64 P[i].1.2, .int .i64 P[i].2] 65) = w5 at b5 k5
        have c2'' := k5.cel c2' (by exact fun h => h)
        have d0 : cel w5 (siz w4) 0 = some (.int .i64 P[i].1.1) := by rw [cel_b b5]; rfl
        simp only [stp, Nat.reduceAdd, Int.reduceLT, Int.reduceLE, Int.reduceEq, Int.reduceNe, ne_eq, bne_self_eq_false, beq_self_eq_true, stm, c2'']
        refine mfit_c ?_
        by_cases hf : fitP P[i].2 md
        · rw [decide_eq_true (show isMd P[i].2 ∧ isMd md ∧ (P[i].2 = 0 ∨ md = 0 ∨ (P[i].2 = 1 ∧ md = 1)) from hf)]
          simp only [stp, Nat.reduceAdd, Int.reduceLT, Int.reduceLE, Int.reduceEq, Int.reduceNe, ne_eq, bne_self_eq_false, beq_self_eq_true]
          exact hJ3 _ _ ⟨by rw [hst]; unfold hp1; rw [if_pos hf], k4.trans k5⟩
        · rw [decide_eq_false (show ¬ (isMd P[i].2 ∧ isMd md ∧ (P[i].2 = 0 ∨ md = 0 ∨ (P[i].2 = 1 ∧ md = 1))) from hf)]
          simp only [stp, Nat.reduceAdd, Int.reduceLT, Int.reduceLE, Int.reduceEq, Int.reduceNe, ne_eq, bne_self_eq_false, beq_self_eq_true, stm, d0]
          exact hJ3 _ _ ⟨by rw [hst]; show _ = Value.int .i64 (if fitP P[i].2 md then _ else _); rw [if_neg hf], k4.trans k5⟩
      · rintro x' w5 ⟨rfl, k5⟩ _j
        exact hJ2 _ _ ⟨rfl, k5⟩
    · rintro x' w4 ⟨rfl, k4⟩ J2 _j
      have hn : ¬ ((P.length : Int) < (P.length : Int)) := by omega
      rw [List.take_length]
      simp only [stp, Nat.reduceAdd, Int.reduceLT, Int.reduceLE, Int.reduceEq, Int.reduceNe, ne_eq, bne_self_eq_false, beq_self_eq_true, hn]
      exact hJ1 _ _ ⟨rfl, (k2.trans k3).trans k4⟩
  · rintro x' w3 ⟨rfl, k3⟩ _j
    show J (.int .i64 (hAll s node a b md (o + 1))) (.int .i64 (IntKind.i64.wrap (((o + 1 : Nat) : Int) + 1))) w3
    exact hJ (17 - (o + 1)) _ _ _ (by omega) ⟨o + 1, hle, rfl, by rw [hwr], rfl, k3⟩
end
end Go.Proofs.YtcekmdpiloegcaaGreat
/- The table of locks: the first block that hinders a request. Conditions: as each says. -/
namespace Go.Proofs.YtcekmdpiloegcaaGreat
open Go.Sh Go.Proofs.YtcekmdpiloegcaaGreat.Mi
set_option maxRecDepth 100000
section
variable {w w' : World} {Q : Value → World → Prop} {B t : Nat} {s : TS}
theorem ws_at {pa : Option Addr} {ca : Nat} {l : List I5} (h : Rd 5 w (.slice pa l.length ca) l.length (flat enc5 l)) {i : Nat} (hi : i < l.length) :
    ∃ b o, pa = some ⟨b, o, none⟩ ∧ cel w b (o + i * 5) = some (.int .i64 l[i].1) ∧ cel w b (o + i * 5 + 1) = some (.int .i64 l[i].2.1) ∧ cel w b (o + i * 5 + 2) = some (.int .i64 l[i].2.2.1) ∧ cel w b (o + i * 5 + 3) = some (.int .i64 l[i].2.2.2.1) ∧ cel w b (o + i * 5 + 4) = some (.int .i64 l[i].2.2.2.2) := by
  obtain ⟨b, o, c', e, _, hcel⟩ := h.at (by omega)
  injection e with e1 _ e2
  subst e1 e2
  have hb : (i + 1) * 5 ≤ l.length * 5 := Nat.mul_le_mul_right _ hi
  have g : ∀ j, j < 5 → cel w b (o + i * 5 + j) = (enc5 l[i])[j]? := fun j hj => by
    rw [Nat.add_assoc, hcel _ (by omega)]
    exact flat_get (enc := enc5) enc5_len (List.getElem?_eq_getElem hi) (by omega)
  exact ⟨b, o, rfl, g 0 (by omega), g 1 (by omega), g 2 (by omega), g 3 (by omega), g 4 (by omega)⟩
/-- One claim ahead. -/
def wp1 (node a b md : Int) (f : Int) (k : I5) : Int := if meetsB (k.2.2.1, k.2.2.2.1) (a, b) ∧ k.2.1 ≠ node ∧ ¬ fitP k.2.2.2.2 md then min f (max k.2.2.1 a) else f
theorem hinders2 {g : Nat} {node a b md f0 : Int} {pa : Option Addr} {ca : Nat} {A : List I5} (hb : blk w g = some (.cells #[.int .i64 a, .int .i64 b, .int .i64 md] 29)) (hA : Rd 5 w (.slice pa A.length ca) A.length (flat enc5 A)) (hl : A.length ≤ 100000)
    (hq : ∀ w', K0 w w' → Q (.tuple #[.int .i64 (A.foldl (wp1 node a b md) f0), .bool (decide (A.foldl (wp1 node a b md) f0 < b))]) w') :
    P37_1 (.pointer (some ⟨g, 0, none⟩)) (.slice pa A.length ca) (.int .i64 f0) (.int .i64 node) w Q := by
  unfold P37_1
  simp only [stp, Nat.reduceAdd, Int.reduceLT, Int.reduceLE, Int.reduceEq, Int.reduceNe, ne_eq, bne_self_eq_false, beq_self_eq_true]
  refine lpc2 A.length (by omega) (fun i x w' => x = .int .i64 ((A.take i).foldl (wp1 node a b md) f0) ∧ K0 w w') ⟨rfl, K0.refl _⟩ ?_ ?_
  · rintro i x w2 hi ⟨rfl, k2⟩ J hJ _j
    have hi' : (i : Int) < (A.length : Int) := by omega
    obtain ⟨b0, o, rfl, q0, q1, q2, q3, q4⟩ := ws_at (hA.keep0 k2) hi
    have b2 := k2.blk hb (by exact fun h => h)
    obtain ⟨y0, y1, y2⟩ : cel w2 g 0 = some (.int .i64 a) ∧ cel w2 g 1 = some (.int .i64 b) ∧ cel w2 g 2 = some (.int .i64 md) := by
      refine ⟨?_, ?_, ?_⟩ <;> (rw [cel_b b2]; rfl)
    have hst : (A.take (i + 1)).foldl (wp1 node a b md) f0 = wp1 node a b md ((A.take i).foldl (wp1 node a b md) f0) A[i] := by
      rw [List.take_add_one, List.getElem?_eq_getElem hi, Option.toList_some, List.foldl_append]
      rfl
    simp only [stp, Nat.reduceAdd, Int.reduceLT, Int.reduceLE, Int.reduceEq, Int.reduceNe, ne_eq, bne_self_eq_false, beq_self_eq_true, hi']
    refine jn1 (fun x' w' => x' = .int .i64 ((A.take (i + 1)).foldl (wp1 node a b md) f0) ∧ K0 w w') (fun J3 hJ3 => ?_) ?_
    · rw [ix_35 hi]
      simp only [stp, Nat.reduceAdd, Int.reduceLT, Int.reduceLE, Int.reduceEq, Int.reduceNe, ne_eq, bne_self_eq_false, beq_self_eq_true, stm, q0, q1, q2, q3, q4, y0, y1]
      have k3 : K0 w2 (w2.alloc (.cells #[.int .i64 A[i].1, .int .i64 A[i].2.1, .int .i64 A[i].2.2.1, .int .i64 A[i].2.2.2.1, .int .i64 A[i].2.2.2.2] 50)) := (K0.refl w2).alloc _
      have b3 : blk (w2.alloc (.cells #[.int .i64 A[i].1, .int .i64 A[i].2.1, .int .i64 A[i].2.2.1, .int .i64 A[i].2.2.2.1, .int .i64 A[i].2.2.2.2] 50)) (siz w2) = some (.cells #[.int .i64 A[i].1, .int .i64 A[i].2.1, .int .i64 A[i].2.2.1, .int .i64 A[i].2.2.2.1, .int .i64 A[i].2.2.2.2] 50) := blk_alloc_new
      generalize w2.alloc (.cells #[.int .i64 A[i].1, .int .i64 A[i].2.1, .int .i64 A[i].2.2.1, .int .i64 A[i].2.2.2.1, .int .i64 A[i].2.2.2.2] 50) = w3 at k3 b3
      have y0 := k3.cel y0 (by exact fun h => h)
      have y1 := k3.cel y1 (by exact fun h => h)
      simp only [stp, Nat.reduceAdd, Int.reduceLT, Int.reduceLE, Int.reduceEq, Int.reduceNe, ne_eq, bne_self_eq_false, beq_self_eq_true, stm, y0, y1]
      refine meet_c fun w4 g4 => ?_
      have k4 : K0 w3 w4 := g4.1
      have b4 := k4.blk b3 (by exact fun h => h)
      have y2 := k4.cel (k3.cel y2 (by exact fun h => h)) (by exact fun h => h)
      by_cases hm : meetsB (A[i].2.2.1, A[i].2.2.2.1) (a, b)
      case neg =>
        rw [if_neg (show ¬ (ok (A[i].2.2.1, A[i].2.2.2.1) ∧ ok (a, b) ∧ ok (max A[i].2.2.1 a, min A[i].2.2.2.1 b)) from hm)]
        simp only [stp, Nat.reduceAdd, Int.reduceLT, Int.reduceLE, Int.reduceEq, Int.reduceNe, ne_eq, bne_self_eq_false, beq_self_eq_true, stm]
        exact hJ3 _ _ ⟨by rw [hst]; unfold wp1; rw [if_neg fun h => hm h.1], ((k2.trans k3).trans k4).alloc _⟩
      rw [if_pos (show ok (A[i].2.2.1, A[i].2.2.2.1) ∧ ok (a, b) ∧ ok (max A[i].2.2.1 a, min A[i].2.2.2.1 b) from hm)]
      simp only [stp, Nat.reduceAdd, Int.reduceLT, Int.reduceLE, Int.reduceEq, Int.reduceNe, ne_eq, bne_self_eq_false, beq_self_eq_true, stm]
      have k5 : K0 w4 (w4.alloc (.cells #[.int .i64 (max A[i].2.2.1 a), .int .i64 (min A[i].2.2.2.1 b)] 27)) := (K0.refl w4).alloc _
      have b5 : blk (w4.alloc (.cells #[.int .i64 (max A[i].2.2.1 a), .int .i64 (min A[i].2.2.2.1 b)] 27)) (siz w4) = some (.cells #[.int .i64 (max A[i].2.2.1 a), .int .i64 (min A[i].2.2.2.1 b)] 27) := blk_alloc_new
      generalize w4.alloc (.cells #[.int .i64 (max A[i].2.2.1 a), .int .i64 (min A[i].2.2.2.1 b)] 27) = w5 at k5 b5
      have b45 := k5.blk b4 (by exact fun h => h)
      have d1 : cel w5 (siz w2) 1 = some (.int .i64 A[i].2.1) := by rw [cel_b b45]; rfl
      have d4 : cel w5 (siz w2) 4 = some (.int .i64 A[i].2.2.2.2) := by rw [cel_b b45]; rfl
      have e0 : cel w5 (siz w4) 0 = some (.int .i64 (max A[i].2.2.1 a)) := by rw [cel_b b5]; rfl
      have y2 := k5.cel y2 (by exact fun h => h)
      have kk := ((k2.trans k3).trans k4).trans k5
      by_cases hne : A[i].2.1 = node
      · simp only [stp, Nat.reduceAdd, Int.reduceLT, Int.reduceLE, Int.reduceEq, Int.reduceNe, ne_eq, bne_self_eq_false, beq_self_eq_true, stm, d1, hne]
        exact hJ3 _ _ ⟨by rw [hst]; unfold wp1; rw [if_neg fun h => h.2.1 hne], kk⟩
      simp only [stp, Nat.reduceAdd, Int.reduceLT, Int.reduceLE, Int.reduceEq, Int.reduceNe, ne_eq, bne_self_eq_false, beq_self_eq_true, stm, d1, d4, y2, hne]
      refine mfit_c ?_
      by_cases hf : fitP A[i].2.2.2.2 md
      · rw [decide_eq_true (show isMd A[i].2.2.2.2 ∧ isMd md ∧ (A[i].2.2.2.2 = 0 ∨ md = 0 ∨ (A[i].2.2.2.2 = 1 ∧ md = 1)) from hf)]
        simp only [stp, Nat.reduceAdd, Int.reduceLT, Int.reduceLE, Int.reduceEq, Int.reduceNe, ne_eq, bne_self_eq_false, beq_self_eq_true]
        exact hJ3 _ _ ⟨by rw [hst]; unfold wp1; rw [if_neg fun h => h.2.2 hf], kk⟩
      · rw [decide_eq_false (show ¬ (isMd A[i].2.2.2.2 ∧ isMd md ∧ (A[i].2.2.2.2 = 0 ∨ md = 0 ∨ (A[i].2.2.2.2 = 1 ∧ md = 1))) from hf)]
        simp only [stp, Nat.reduceAdd, Int.reduceLT, Int.reduceLE, Int.reduceEq, Int.reduceNe, ne_eq, bne_self_eq_false, beq_self_eq_true, stm, e0]
        exact hJ3 _ _ ⟨by rw [hst]; unfold wp1; rw [if_pos ⟨hm, hne, hf⟩], kk⟩
    · rintro x' w5 ⟨rfl, k5⟩ _j
      exact hJ _ _ ⟨rfl, k5⟩
  · rintro x w2 ⟨rfl, k2⟩ J _j
    have b2 := k2.blk hb (by exact fun h => h)
    have y1 : cel w2 g 1 = some (.int .i64 b) := by rw [cel_b b2]; rfl
    have hn : ¬ ((A.length : Int) < (A.length : Int)) := by omega
    rw [List.take_length]
    simp only [stp, Nat.reduceAdd, Int.reduceLT, Int.reduceLE, Int.reduceEq, Int.reduceNe, ne_eq, bne_self_eq_false, beq_self_eq_true, stm, hn, y1]
    exact hq _ k2.drew
/-- The first block that hinders a request, with these claims ahead of it. -/
def hindF (s : TS) (A : List I5) (node a b md : Int) : Int := A.foldl (wp1 node a b md) (hAll s node a b md s.nodes.toNat)
theorem hinders_c {node a b md : Int} {pa : Option Addr} {ca : Nat} {A : List I5} (h : TL w B t s) (hA : Rd 5 w (.slice pa A.length ca) A.length (flat enc5 A)) (hl : A.length ≤ 100000)
    (hq : ∀ w', K0 w w' → Q (.tuple #[.int .i64 (hindF s A node a b md), .bool (decide (hindF s A node a b md < b))]) w') :
    callS Tryz.prog 37 #[.pointer (some ⟨t, 0, none⟩), .int .i64 node, .agg #[.int .i64 a, .int .i64 b, .int .i64 md], .slice pa A.length ca] Q w :=
  hinders1 h fun w1 g n hn hb _ k1 => hinders2 hb (hA.keep0 k1) hl fun w2 k2 => by
    have e : n = s.nodes.toNat := by omega
    have := hq w2 (k1.trans k2)
    unfold hindF at this
    rw [← e] at this
    exact this
end
end Go.Proofs.YtcekmdpiloegcaaGreat
/- The table of locks: what a request claims that is hindered. Conditions: as each says. -/
namespace Go.Proofs.YtcekmdpiloegcaaGreat
open Go.Sh Go.Proofs.YtcekmdpiloegcaaGreat.Mi
set_option maxRecDepth 100000
section
variable {w w' : World} {Q : Value → World → Prop} {B t : Nat} {s : TS}
theorem wait_cells {b : Nat} {x0 x1 x2 x3 x4 : Value} (h : blk w b = some (.cells #[x0, x1, x2, x3, x4] 50)) : cel w b 0 = some x0 ∧ cel w b 1 = some x1 ∧ cel w b 2 = some x2 ∧ cel w b 3 = some x3 ∧ cel w b 4 = some x4 := by
  refine ⟨?_, ?_, ?_, ?_, ?_⟩ <;> (rw [cel_b h]; rfl)
theorem claim_c {i n a b md at' : Int} (h1 : -1 ≤ at' ∧ at' ≤ 1000000) (hq : ∀ w', K0 w w' → Q (.agg #[.int .i64 i, .int .i64 n, .int .i64 a, .int .i64 (at' + 1), .int .i64 md]) w') :
    callS Tryz.prog 45 #[.agg #[.int .i64 i, .int .i64 n, .int .i64 a, .int .i64 b, .int .i64 md], .int .i64 at'] Q w := by
  refine ref45 ?_
  unfold S45
  have hw : IntKind.i64.wrap (at' + 1) = at' + 1 := wrap_id (by omega) (by omega)
  simp only [stp, Nat.reduceAdd, Int.reduceLT, Int.reduceLE, Int.reduceEq, Int.reduceNe, ne_eq, bne_self_eq_false, beq_self_eq_true, act_box, agg_cells, hw]
  have k1 : K0 w (w.alloc (.cells #[.int .i64 i, .int .i64 n, .int .i64 a, .int .i64 b, .int .i64 md] 50)) := (K0.refl w).alloc _
  have b1 : blk (w.alloc (.cells #[.int .i64 i, .int .i64 n, .int .i64 a, .int .i64 b, .int .i64 md] 50)) (siz w) = some (.cells #[.int .i64 i, .int .i64 n, .int .i64 a, .int .i64 b, .int .i64 md] 50) := blk_alloc_new
  have s1 : siz w < siz (w.alloc (.cells #[.int .i64 i, .int .i64 n, .int .i64 a, .int .i64 b, .int .i64 md] 50)) := blk_lt b1
  generalize w.alloc (.cells #[.int .i64 i, .int .i64 n, .int .i64 a, .int .i64 b, .int .i64 md] 50) = w1 at k1 b1 s1
  have k2 : K0 w1 (w1.alloc (.cells #[.int .i64 0, .int .i64 0, .int .i64 0, .int .i64 0, .int .i64 0] 50)) := (K0.refl w1).alloc _
  have b2 : blk (w1.alloc (.cells #[.int .i64 0, .int .i64 0, .int .i64 0, .int .i64 0, .int .i64 0] 50)) (siz w1) = some (.cells #[.int .i64 0, .int .i64 0, .int .i64 0, .int .i64 0, .int .i64 0] 50) := blk_alloc_new
  generalize w1.alloc (.cells #[.int .i64 0, .int .i64 0, .int .i64 0, .int .i64 0, .int .i64 0] 50) = w2 at k2 b2
  have b1 := k2.blk b1 (by exact fun h => h)
  have i3 : (cel w2 (siz w) 3).isSome = true := by rw [cel_b b1]; rfl
  rw [st_3 one_int i3 (fre_b b1)]
  have b3 := blk_sto (o := 3) (v := .int .i64 (at' + 1)) b1
  have k3 : Keep (fun b => b = siz w) w2 (sto w2 (siz w) 3 (.int .i64 (at' + 1))) := (Keep.refl (fun b => b = siz w) w2).sto (.inl rfl) _ _
  have b2 := k3.blk b2 (by show ¬ siz w1 = siz w; omega)
  generalize sto w2 (siz w) 3 (.int .i64 (at' + 1)) = w3 at k3 b2 b3
  have b3 : blk w3 (siz w) = some (.cells #[.int .i64 i, .int .i64 n, .int .i64 a, .int .i64 (at' + 1), .int .i64 md] 50) := b3
  obtain ⟨x0, x1, x2, x3, x4⟩ := wait_cells b3
  simp only [stp, Nat.reduceAdd, Int.reduceLT, Int.reduceLE, Int.reduceEq, Int.reduceNe, ne_eq, bne_self_eq_false, beq_self_eq_true, stm, x0, x1, x2, x3, x4]
  have y : ∀ o, o < 5 → (cel w3 (siz w1) o).isSome = true := fun o ho => by rw [cel_b b2, Array.getElem?_eq_getElem ho]; rfl
  rw [st_50 one_int one_int one_int one_int one_int (y 0 (by omega)) (by rw [Nat.zero_add]; exact y 1 (by omega)) (by rw [Nat.zero_add]; exact y 2 (by omega)) (by rw [Nat.zero_add]; exact y 3 (by omega)) (by rw [Nat.zero_add]; exact y 4 (by omega)) (fre_b b2)]
  have be := blk_stoL_all (xs := [.int .i64 i, .int .i64 n, .int .i64 a, .int .i64 (at' + 1), .int .i64 md]) (zs := [.int .i64 0, .int .i64 0, .int .i64 0, .int .i64 0, .int .i64 0]) rfl b2
  have ke : K0 w (stoL w3 (siz w1) 0 [.int .i64 i, .int .i64 n, .int .i64 a, .int .i64 (at' + 1), .int .i64 md]) := Keep.stoL _ 0 ((k1.trans k2).trans' k3 fun b hb e => by omega) (.inr (by omega))
  generalize stoL w3 (siz w1) 0 [.int .i64 i, .int .i64 n, .int .i64 a, .int .i64 (at' + 1), .int .i64 md] = w9 at be ke
  obtain ⟨z0, z1, z2, z3, z4⟩ := wait_cells be
  simp only [stp, Nat.reduceAdd, Int.reduceLT, Int.reduceLE, Int.reduceEq, Int.reduceNe, ne_eq, bne_self_eq_false, beq_self_eq_true, stm, z0, z1, z2, z3, z4]
  exact hq _ ke
/-! ### the first block that hinders is none below 0 -/
theorem hp_pos {md : Int} : ∀ (P : List (Pt Int)) {f : Int}, 0 ≤ f → (∀ p ∈ P, 0 ≤ p.1.1) → 0 ≤ P.foldl (hp1 md) f
  | [], _, h, _ => h
  | p :: P, f, h, hp => by
    refine hp_pos P (f := hp1 md f p) ?_ fun q hq => hp q (by simp [hq])
    have := hp p (by simp)
    unfold hp1
    split
    · exact h
    · omega
theorem hAll_pos {node a b md : Int} (ha : 0 ≤ a) (hb : 0 ≤ b) : ∀ n, 0 ≤ hAll s node a b md n
  | 0 => hb
  | n + 1 => by
    show 0 ≤ hNode s node a b md (hAll s node a b md n) (n + 1)
    unfold hNode
    split
    · exact hAll_pos ha hb n
    · refine hp_pos _ (hAll_pos ha hb n) fun p hp => ?_
      obtain ⟨q, _, _, rfl⟩ := partsL_mem hp
      show 0 ≤ max q.1.1 a
      omega
theorem wp_pos {node a b md : Int} (ha : 0 ≤ a) : ∀ (A : List I5) {f : Int}, 0 ≤ f → 0 ≤ A.foldl (wp1 node a b md) f
  | [], _, h => h
  | k :: A, f, h => by
    refine wp_pos ha A (f := wp1 node a b md f k) ?_
    unfold wp1
    split
    · omega
    · exact h
theorem hindF_pos {A : List I5} {node a b md : Int} (ha : 0 ≤ a) (hb : 0 ≤ b) : 0 ≤ hindF s A node a b md := wp_pos ha A (hAll_pos ha hb _)
end
end Go.Proofs.YtcekmdpiloegcaaGreat
/- The table of locks: what the requests that wait claim. Conditions: as each says. -/
namespace Go.Proofs.YtcekmdpiloegcaaGreat
open Go.Sh Go.Proofs.YtcekmdpiloegcaaGreat.Mi
set_option maxRecDepth 100000
section
variable {w w' : World} {Q : Value → World → Prop} {B t : Nat} {s : TS}
/-- One more request, and what it claims. -/
def cl1 (s : TS) (A : List I5) (k : I5) : List I5 := if hindF s A k.2.1 k.2.2.1 k.2.2.2.1 k.2.2.2.2 < k.2.2.2.1 then A ++ [(k.1, k.2.1, k.2.2.1, hindF s A k.2.1 k.2.2.1 k.2.2.2.1 k.2.2.2.2 + 1, k.2.2.2.2)] else A
def claimsF (s : TS) (W : List I5) : List I5 := W.foldl (cl1 s) []
theorem cl_len (s : TS) : ∀ (W : List I5) (A : List I5), (W.foldl (cl1 s) A).length ≤ A.length + W.length
  | [], A => Nat.le_refl _
  | k :: W, A => by
    have h := cl_len s W (cl1 s A k)
    have : (cl1 s A k).length ≤ A.length + 1 := by
      unfold cl1
      split
      · simp
      · omega
    simp only [List.foldl_cons, List.length_cons]
    omega
/-- Requests that wait are right. -/
def WsOk (W : List I5) : Prop := W.length ≤ 1000 ∧ ∀ k ∈ W, rightL (k.2.2.1, k.2.2.2.1, k.2.2.2.2)
theorem claims_c (h : TL w B t s) (hok : WsOk s.ws)
    (hq : ∀ w' v', Own w' (siz w) 50 5 v' (claimsF s s.ws).length (flat enc5 (claimsF s s.ws)) → K0 w w' → Q v' w') :
    callS Tryz.prog 38 #[.pointer (some ⟨t, 0, none⟩)] Q w := by
  refine ref38 ?_
  unfold S38
  obtain ⟨hW, hR⟩ := hok
  have hTL := h
  obtain ⟨ms, wv, h⟩ := h
  have hwr := h.wr.rd
  obtain ⟨pa, ca, rfl⟩ := hwr.form
  have c18 : cel w t 18 = some (.slice pa s.ws.length ca) := by
    rw [cel_b h.b]
    unfold tcells
    rw [List.getElem?_toArray, show (18 : Nat) = 17 + 1 from rfl, List.getElem?_cons_succ, List.getElem?_append_right (by simp [ptrs, h.n])]
    simp [ptrs, h.n]
  simp only [stp, Nat.reduceAdd, Int.reduceLT, Int.reduceLE, Int.reduceEq, Int.reduceNe, ne_eq, bne_self_eq_false, beq_self_eq_true, stm, c18]
  refine lpc2 s.ws.length (by omega) (fun i x w' => Own w' (siz w) 50 5 x (claimsF s (s.ws.take i)).length (flat enc5 (claimsF s (s.ws.take i))) ∧ K0 w w') ⟨Own.nil _ _ _ _, K0.refl _⟩ ?_ ?_
  · rintro i x w2 hi ⟨o2, k2⟩ J hJ _j
    have hi' : (i : Int) < (s.ws.length : Int) := by omega
    obtain ⟨b0, o, rfl, q0, q1, q2, q3, q4⟩ := ws_at (hwr.keep0 k2) hi
    have hst : claimsF s (s.ws.take (i + 1)) = cl1 s (claimsF s (s.ws.take i)) s.ws[i] := by
      unfold claimsF
      rw [List.take_add_one, List.getElem?_eq_getElem hi, Option.toList_some, List.foldl_append]
      rfl
    have hlen := cl_len s (s.ws.take i) []
    have hlen : (claimsF s (s.ws.take i)).length ≤ i := Nat.le_trans hlen (by rw [List.length_take, List.length_nil]; omega)
    obtain ⟨hr1, hr2, hr3⟩ := hR _ (List.getElem_mem hi)
    simp only [stp, Nat.reduceAdd, Int.reduceLT, Int.reduceLE, Int.reduceEq, Int.reduceNe, ne_eq, bne_self_eq_false, beq_self_eq_true, hi']
    refine jn1 (fun x' w' => Own w' (siz w) 50 5 x' (claimsF s (s.ws.take (i + 1))).length (flat enc5 (claimsF s (s.ws.take (i + 1)))) ∧ K0 w w') (fun J3 hJ3 => ?_) ?_
    · rw [ix_35 hi]
      simp only [stp, Nat.reduceAdd, Int.reduceLT, Int.reduceLE, Int.reduceEq, Int.reduceNe, ne_eq, bne_self_eq_false, beq_self_eq_true, stm, q0, q1, q2, q3, q4]
      rw [hst] at hJ3
      generalize claimsF s (s.ws.take i) = A at *
      have k3 : K0 w2 (w2.alloc (.cells #[.int .i64 s.ws[i].1, .int .i64 s.ws[i].2.1, .int .i64 s.ws[i].2.2.1, .int .i64 s.ws[i].2.2.2.1, .int .i64 s.ws[i].2.2.2.2] 50)) := (K0.refl w2).alloc _
      have b3 : blk (w2.alloc (.cells #[.int .i64 s.ws[i].1, .int .i64 s.ws[i].2.1, .int .i64 s.ws[i].2.2.1, .int .i64 s.ws[i].2.2.2.1, .int .i64 s.ws[i].2.2.2.2] 50)) (siz w2) = some (.cells #[.int .i64 s.ws[i].1, .int .i64 s.ws[i].2.1, .int .i64 s.ws[i].2.2.1, .int .i64 s.ws[i].2.2.2.1, .int .i64 s.ws[i].2.2.2.2] 50) := blk_alloc_new
      generalize w2.alloc (.cells #[.int .i64 s.ws[i].1, .int .i64 s.ws[i].2.1, .int .i64 s.ws[i].2.2.1, .int .i64 s.ws[i].2.2.2.1, .int .i64 s.ws[i].2.2.2.2] 50) = w3 at k3 b3
      have o3 : Own w3 (siz w) 50 5 x A.length (flat enc5 A) := o2.keep k3 fun _ _ e => e
      obtain ⟨px, cx, rfl⟩ := o3.form
      refine hinders_c (A := A) (hTL.keep0 (k2.trans k3)) o3.rd (by omega) fun w4 k4 => ?_
      have hpos := hindF_pos (s := s) (A := A) (node := s.ws[i].2.1) (a := s.ws[i].2.2.1) (b := s.ws[i].2.2.2.1) (md := s.ws[i].2.2.2.2) hr1.1 (by have := hr1.2; have := hr1.1; dsimp only at *; omega)
      have hr2 : s.ws[i].2.2.2.1 ≤ 4096 := hr2
      have b4 := k4.blk b3 (by exact fun h => h)
      have o4 := o3.keep k4 fun _ _ e => e
      obtain ⟨z0, z1, z2, z3, z4⟩ := wait_cells b4
      have kk4 := (k2.trans k3).trans k4
      by_cases hlt : hindF s A s.ws[i].2.1 s.ws[i].2.2.1 s.ws[i].2.2.2.1 s.ws[i].2.2.2.2 < s.ws[i].2.2.2.1
      · simp only [stp, Nat.reduceAdd, Int.reduceLT, Int.reduceLE, Int.reduceEq, Int.reduceNe, ne_eq, bne_self_eq_false, beq_self_eq_true, stm, hlt, z0, z1, z2, z3, z4]
        refine claim_c ⟨by omega, by omega⟩ fun w5 k5 => ?_
        simp only [stp, Nat.reduceAdd, Int.reduceLT, Int.reduceLE, Int.reduceEq, Int.reduceNe, ne_eq, bne_self_eq_false, beq_self_eq_true, stm]
        have o5 := o4.keep k5 fun _ _ e => e
        have kk5 := kk4.trans k5
        refine pu_35 o5 (by intro u hu; simp only [List.mem_cons, List.not_mem_nil, or_false] at hu; rcases hu with rfl | rfl | rfl | rfl | rfl <;> exact one_int) (by omega) (by have := kk5.size; omega) fun v' w' ho hk' hr => hJ3 _ _ ⟨?_, kk5.trans' hk' fun b hb e => by have := (o5.lt e).1; omega⟩
        unfold cl1
        rw [if_pos hlt, List.length_append, flat_append, flat_one]
        exact ho
      · simp only [stp, Nat.reduceAdd, Int.reduceLT, Int.reduceLE, Int.reduceEq, Int.reduceNe, ne_eq, bne_self_eq_false, beq_self_eq_true, hlt]
        refine hJ3 _ _ ⟨?_, kk4⟩
        unfold cl1
        rw [if_neg hlt]
        exact o4
    · rintro x' w5 ⟨o5, k5⟩ _j
      exact hJ _ _ ⟨o5, k5⟩
  · rintro x w2 ⟨o2, k2⟩ J _j
    have hn : ¬ ((s.ws.length : Int) < (s.ws.length : Int)) := by omega
    rw [List.take_length] at o2
    simp only [stp, Nat.reduceAdd, Int.reduceLT, Int.reduceLE, Int.reduceEq, Int.reduceNe, ne_eq, bne_self_eq_false, beq_self_eq_true, hn]
    exact hq _ _ o2 k2
end
end Go.Proofs.YtcekmdpiloegcaaGreat
/- The table of locks: whether a request is free. Conditions: as each says. -/
namespace Go.Proofs.YtcekmdpiloegcaaGreat
open Go.Sh Go.Proofs.YtcekmdpiloegcaaGreat.Mi
set_option maxRecDepth 100000
section
variable {w w' : World} {Q : Value → World → Prop} {B t : Nat} {s : TS}
theorem hld_lock {S : World → Prop} {k : Value → Prop} {g : Nat} {x y z : Value} (h : ∀ w', S w' → blk w' g = some (.cells #[x, y, z] 29)) (hk : k (.agg #[x, y, z])) : hld Tryz.prog S (Instr.loadAt 29 (.pointer (some ⟨g, 0, none⟩))) k :=
  hld_of _ (fun w' hS => run_of_rd fun _ => by
    have b := h w' hS
    rw [ld_29 (by rw [cel_b b]; rfl) (by rw [cel_b b]; rfl) (by rw [cel_b b]; rfl), cel_b b, cel_b b, cel_b b]; rfl) hk
theorem free_c {node a b md : Int} (h : TL w B t s) (hok : WsOk s.ws)
    (hq : ∀ w', K0 w w' → Q (.bool (!decide (hindF s (claimsF s s.ws) node a b md < b))) w') :
    callS Tryz.prog 19 #[.pointer (some ⟨t, 0, none⟩), .int .i64 node, .agg #[.int .i64 a, .int .i64 b, .int .i64 md]] Q w := by
  refine ref19 ?_
  unfold S19
  simp only [act_box, agg_cells]
  have b1 : blk (w.alloc (.cells #[.int .i64 a, .int .i64 b, .int .i64 md] 29)) (siz w) = some (.cells #[.int .i64 a, .int .i64 b, .int .i64 md] 29) := blk_alloc_new
  have k1 : K0 w (w.alloc (.cells #[.int .i64 a, .int .i64 b, .int .i64 md] 29)) := (K0.refl w).alloc _
  generalize w.alloc (.cells #[.int .i64 a, .int .i64 b, .int .i64 md] 29) = w1 at b1 k1
  have hl := cl_len s s.ws []
  have hl : (claimsF s s.ws).length ≤ 1000 := Nat.le_trans hl (by have := hok.1; rw [List.length_nil]; omega)
  have k1d : K0 w w1.drew := k1.drew
  have b1d : blk w1.drew (siz w) = some (.cells #[.int .i64 a, .int .i64 b, .int .i64 md] 29) := b1
  refine ⟨fun w' => blk w' (siz w) = some (.cells #[.int .i64 a, .int .i64 b, .int .i64 md] 29), b1d, ?_⟩
  refine hld_lock (fun w' hS => hS) ?_
  refine claims_c (h.keep0 k1d) hok fun w2 v2 o2 k2 => ⟨k2.blk b1d (by exact fun h => h), ?_⟩
  obtain ⟨p2, c2, rfl⟩ := o2.form
  refine hinders_c (A := claimsF s s.ws) ((h.keep0 k1d).keep0 k2) o2.rd (by omega) fun w3 k3 => ⟨k3.blk (k2.blk b1d (by exact fun h => h)) (by exact fun h => h), ?_⟩
  have := hq w3 ((k1d.trans k2).trans k3)
  by_cases hlt : hindF s (claimsF s s.ws) node a b md < b
  · rw [decide_eq_true hlt] at this
    simp only [stp, Nat.reduceAdd, Int.reduceLT, Int.reduceLE, Int.reduceEq, Int.reduceNe, ne_eq, bne_self_eq_false, beq_self_eq_true, stm, hlt]
    exact this
  · rw [decide_eq_false hlt] at this
    simp only [stp, Nat.reduceAdd, Int.reduceLT, Int.reduceLE, Int.reduceEq, Int.reduceNe, ne_eq, bne_self_eq_false, beq_self_eq_true, stm, hlt]
    exact this
end
end Go.Proofs.YtcekmdpiloegcaaGreat
