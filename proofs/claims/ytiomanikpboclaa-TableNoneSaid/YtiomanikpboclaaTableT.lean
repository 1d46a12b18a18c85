/- The table of locks: what is to be let go. Conditions: as each says. -/
import Derived.Test.YtiomanikpboclaaTableS
set_option linter.unusedSimpArgs false
set_option linter.unusedVariables false
namespace Go.Proofs.Ytiomanikpboclaa
open Go.Sh Go.Proofs.Ytiomanikpboclaa.Mi
set_option maxRecDepth 100000
section
variable {w w' : World} {Q : Value → World → Prop} {B t : Nat} {s : TS}
abbrev R4 := Int × Int × Int × Int
def encR (k : R4) : List Value := [.int .i64 k.1, .int .i64 k.2.1, .int .i64 k.2.2.1, .int .i64 k.2.2.2]
theorem encR_len (k : R4) : (encR k).length = 4 := rfl
/-- What was told of each node, and all that was told. -/
abbrev RS := List (List (Pt Int)) × List R4
def toldB (T : List (List (Pt Int))) (n : Nat) : Int → Option Int := valB (T[n]?.getD [])
def toldN (f told : Int → Option Int) (x : Int) : Option Int := match f x with | some v => some (v + 1) | none => told x
def revN (s : TS) (k : I5) (T : List (List (Pt Int))) (n : Nat) : Int → Option Int := revB (bl s n) (toldB T n) (k.2.2.1, k.2.2.2.1) k.2.2.2.2
def asR (n : Nat) (l : List (Pt Int)) : List R4 := l.map fun p => ((n : Int), p.1.1, p.1.2, p.2)
def rev1 (s : TS) (k : I5) (g : RS) (n : Nat) : RS :=
  if (n : Int) = k.2.1 then g else (g.1.set n (canonL (toldN (revN s k g.1 n) (toldB g.1 n))), g.2 ++ asR n (canonL (revN s k g.1 n)))
/-- The nodes 1..n. -/
def revK (s : TS) (k : I5) (g : RS) : Nat → RS
  | 0 => g
  | n + 1 => rev1 s k (revK s k g n) (n + 1)
def revG (s : TS) (W : List I5) : RS := W.foldl (fun g k => revK s k g s.nodes.toNat) (List.replicate 17 [], [])
def revF (s : TS) : List R4 := (revG s s.ws).2
theorem revG_snoc (s : TS) (W : List I5) (k : I5) : revG s (W ++ [k]) = revK s k (revG s W) s.nodes.toNat := by unfold revG; rw [List.foldl_append]; rfl
structure TA (w : World) (A ta : Nat) (tms : List Nat) (T : List (List (Pt Int))) : Prop where
  b : blk w ta = some (.cells (ptrs tms).toArray 47)
  n : tms.length = 17
  tn : T.length = 17
  h : ∀ (i : Nat) (m : Nat) (l : List (Pt Int)), tms[i]? = some m → T[i]? = some l → IM w m l ∧ Bd 4096 l
  nd : tms.Nodup
  ge : A ≤ ta
  gm : ∀ m ∈ tms, A ≤ m
theorem TA.keepF {A ta : Nat} {tms : List Nat} {T : List (List (Pt Int))} {F : Nat → Prop} (h : TA w A ta tms T) (k : Keep F w w') (hF : ∀ b, F b → ∃ x u, blk w b = some (.cells x u) ∧ u ≠ 77 ∧ u ≠ 68 ∧ u ≠ 47) : TA w' A ta tms T :=
  { h with
    b := k.blk h.b fun e => by
      obtain ⟨x, u, h1, _, _, h3⟩ := hF _ e
      exact ne_of_ty h.b h1 (Ne.symm h3) rfl
    h := fun i m l h1 h2 => ⟨im_keepF (h.h i m l h1 h2).1 k fun b hb => by obtain ⟨x, u, q1, q2, q3, _⟩ := hF b hb; exact ⟨x, u, q1, q2, q3⟩, (h.h i m l h1 h2).2⟩ }
theorem TA.keep0 {A ta : Nat} {tms : List Nat} {T : List (List (Pt Int))} (h : TA w A ta tms T) (k : K0 w w') : TA w' A ta tms T := h.keepF k fun _ e => e.elim
theorem TA.node {A ta : Nat} {tms : List Nat} {T : List (List (Pt Int))} (h : TA w A ta tms T) {i : Nat} (hi : i < 17) : ∃ m l, tms[i]? = some m ∧ T[i]? = some l ∧ cel w ta i = some (.pointer (some ⟨m, 0, none⟩)) ∧ IM w m l ∧ Bd 4096 l ∧ A ≤ m := by
  have h1 : i < tms.length := by rw [h.n]; exact hi
  have h2 : i < T.length := by rw [h.tn]; exact hi
  refine ⟨tms[i], T[i], List.getElem?_eq_getElem h1, List.getElem?_eq_getElem h2, ?_, (h.h i _ _ (List.getElem?_eq_getElem h1) (List.getElem?_eq_getElem h2)).1, (h.h i _ _ (List.getElem?_eq_getElem h1) (List.getElem?_eq_getElem h2)).2, h.gm _ (List.getElem_mem h1)⟩
  rw [cel_b h.b, List.getElem?_toArray]
  simp [ptrs, List.getElem?_map, List.getElem?_eq_getElem h1]
theorem TA.turn {A ta i m : Nat} {tms : List Nat} {T : List (List (Pt Int))} {l' : List (Pt Int)} (h : TA w A ta tms T) (hi : tms[i]? = some m) (k : Keep (fun b => b = m) w w') (hm : IM w' m l') (hd : Bd 4096 l') : TA w' A ta tms (T.set i l') := by
  have hlt : i < tms.length := (List.getElem?_eq_some_iff.1 hi).1
  obtain ⟨m0, l0, e1, _, _, hm0, _⟩ := h.node (i := i) (by rw [← h.n]; exact hlt)
  have e : m0 = m := by rw [hi] at e1; injection e1 with e1; exact e1.symm
  subst e
  obtain ⟨_, hb0⟩ := im_blk hm0
  exact { h with
    b := k.blk h.b fun e => ne_of_ty h.b hb0 (by decide) e
    tn := by rw [List.length_set]; exact h.tn
    h := fun j n l h1 h2 => by
      by_cases hij : j = i
      · subst hij
        rw [hi] at h1
        injection h1 with h1
        subst h1
        rw [List.getElem?_set_self (by rw [h.tn, ← h.n]; exact hlt)] at h2
        injection h2 with h2
        subst h2
        exact ⟨hm, hd⟩
      · rw [List.getElem?_set_ne (Ne.symm hij)] at h2
        obtain ⟨q1, q2⟩ := h.h j n l h1 h2
        have hjl : j < tms.length := (List.getElem?_eq_some_iff.1 h1).1
        refine ⟨q1.keepM hm0 (fun e => hij ?_) k, q2⟩
        subst e
        exact (List.getElem?_inj hjl h.nd).1 (h1.trans hi.symm) }
def P18_2 (J_1 : Cur 2) (t25 : Value) (t4 : Value) (t7 : Value) (v_out : Value) (v_t : Value) (w_7 : World) : Prop :=
 lp 2 (fun J_2 => fun v_out_1 v_node w_8 => ∀ _j : Fr, 
   pur Try.prog (nilV v_t) fun t31 => 
   pur Try.prog (Instr.fieldAt 49 t31 0) fun t32 => 
   rd Try.prog (Instr.loadAt 3 t32) (fun t33 => 
   pur Try.prog (binS .leq 3 false false v_node t33) fun t34 => 
   condS t34
    (jn 1 (fun J_3 => 
    pur Try.prog (Instr.fieldAt 36 t7 1) fun t38 => 
    rd Try.prog (Instr.loadAt 3 t38) (fun t39 => 
    pur Try.prog (binS .eql 3 false false v_node t39) fun t40 => 
    condS t40
     (J_3 v_out_1 w_8)
     (pur Try.prog (Instr.fieldAt 36 t7 2) fun t43 => 
    rd Try.prog (Instr.loadAt 31 t43) (fun t44 => 
    pur Try.prog (Instr.indexAt 47 t4 v_node) fun t46 => 
    rd Try.prog (Instr.loadAt 46 t46) (fun t47 => 
    callS Try.prog 39 #[v_t, v_node, t44, t47] (fun t48 w_9 => 
    pur Try.prog (Builtin.len_ #[43] 3 #[t48]) fun t49 => 
    lp 2 (fun J_4 => fun v_out_2 t50 w_10 => ∀ _j : Fr, 
     pur Try.prog (binS .lss 3 false false t50 t49) fun t51 => 
     condS t51
      (pur Try.prog (Instr.indexAt 43 t48 t50) fun t52 => 
     rd Try.prog (Instr.loadAt 31 t52) (fun t53 => 
     act Try.prog (Instr.alloc 31 true (.tuple #[])) (fun t10 w_11 => 
     act Try.prog (thenU (Instr.storeAt 31 t10 t53)) (fun _ w_12 => 
     rd Try.prog (Instr.loadAt 31 t10) (fun t56 => 
     pur Try.prog (Instr.build 58 #[(0, v_node), (1, t56)]) fun t57 => 
     act Try.prog (Instr.buildSlice 54 1 #[(0, t57)]) (fun t58 w_13 => 
     act Try.prog (Builtin.append_ #[54, 54] 54 #[v_out_2, t58]) (fun t59 w_14 => 
     pur Try.prog (Instr.indexAt 47 t4 v_node) fun t61 => 
     rd Try.prog (Instr.loadAt 46 t61) (fun t62 => 
     pur Try.prog (Instr.fieldAt 31 t10 0) fun t63 => 
     rd Try.prog (Instr.loadAt 23 t63) (fun t64 => 
     pur Try.prog (Instr.fieldAt 31 t10 1) fun t65 => 
     rd Try.prog (Instr.loadAt 3 t65) (fun t66 => 
     pur Try.prog (binS .add 3 false true t66 (.int .i64 1)) fun t67 => 
     callS Try.prog 30 #[t62, t64, t67] (fun _ w_15 => 
     pur Try.prog (binS .add 3 false true t50 (.int .i64 1)) fun t69 => 
     J_4 t59 t69 w_15) (World.drew w_14)) (World.drew w_14)) (World.drew w_14)) (World.drew w_14)) w_13) w_12) w_12) w_11) w_10) w_10)
      (J_3 v_out_2 w_10)) [v_out_1, (.int .i64 0)] w_9) (World.drew w_8)) (World.drew w_8)) (World.drew w_8))) w_8)
   (fun v_out_3 w_16 => ∀ _j : Fr, 
    pur Try.prog (binS .add 3 false true v_node (.int .i64 1)) fun t36 => 
    J_2 v_out_3 t36 w_16))
    (pur Try.prog (binS .add 3 false true t25 (.int .i64 1)) fun t70 => 
  J_1 v_out_1 t70 w_8)) w_8) [v_out, (.int .i64 1)] w_7
def P18_1 (t4 : Value) (v_t : Value) (w_2 : World) (Q : Value → World → Prop) : Prop :=
 pur Try.prog (nilV v_t) fun t21 => 
 pur Try.prog (Instr.fieldAt 49 t21 2) fun t22 => 
 rd Try.prog (Instr.loadAt 32 t22) (fun t23 => 
 pur Try.prog (Builtin.len_ #[32] 3 #[t23]) fun t24 => 
 lp 2 (fun J_1 => fun v_out t25 w_5 => ∀ _j : Fr, 
  pur Try.prog (binS .lss 3 false false t25 t24) fun t26 => 
  condS t26
   (pur Try.prog (Instr.indexAt 32 t23 t25) fun t27 => 
  rd Try.prog (Instr.loadAt 36 t27) (fun t28 => 
  act Try.prog (Instr.alloc 36 true (.tuple #[])) (fun t7 w_6 => 
  act Try.prog (thenU (Instr.storeAt 36 t7 t28)) (fun _ w_7 => 
  P18_2 J_1 t25 t4 t7 v_out v_t w_7) w_6) w_5) w_5)
   (Q v_out w_5)) [(.slice none 0 0), (.int .i64 0)] w_2) w_2
def P18_0 (v_t : Value) (Q : Value → World → Prop) (w : World) : Prop :=
 rd Try.prog (binS .eql 25 false true v_t (.pointer none)) (fun t12 => 
 condS t12
  (Q (.slice none 0 0) w)
  (act Try.prog (Instr.alloc 47 true (.tuple #[])) (fun t4 w_1 => 
 lp 1 (fun J => fun t13 w_2 => ∀ _j : Fr, 
  pur Try.prog (binS .lss 3 false true t13 (.int .i64 17)) fun t14 => 
  condS t14
   (callS Try.prog 20 #[] (fun t17 w_3 => 
  pur Try.prog (Instr.indexAt 47 t4 t13) fun t18 => 
  act Try.prog (thenU (Instr.storeAt 46 t18 t17)) (fun _ w_4 => 
  pur Try.prog (binS .add 3 false true t13 (.int .i64 1)) fun t19 => 
  J t19 w_4) w_3) w_2)
   (P18_1 t4 v_t w_2 Q)) [(.int .i64 0)] w_1) w)) w
theorem cut18 (v_t : Value) (Q : Value → World → Prop) (w : World) : S18 v_t Q w = P18_0 v_t Q w := rfl
-- P18_1 t4 v_t w_2 Q
-- P18_2 J_1 t25 t4 t7 v_out v_t w_7
end
end Go.Proofs.Ytiomanikpboclaa
