/- The table of locks: whether a request would wait for one that waits for it. Conditions: as each says. -/
import Derived.Test.YtiomanikpboclaaTableM
set_option linter.unusedSimpArgs false
set_option linter.unusedVariables false
namespace Go.Proofs.Ytiomanikpboclaa
open Go.Sh Go.Proofs.Ytiomanikpboclaa.Mi
set_option maxRecDepth 100000
section
variable {w w' : World} {Q : Value → World → Prop} {B t : Nat} {s : TS}
theorem dead1_c {a b v : Int} (hq : ∀ w', K0 w w' → Q (.bool (decide (v = 1))) w') : callS Try.prog 46 #[.agg #[.int .i64 a, .int .i64 b, .int .i64 v]] Q w := by
  refine ref46 ?_
  unfold S46
  simp only [stp, Nat.reduceAdd, Int.reduceLT, Int.reduceLE, Int.reduceEq, Int.reduceNe, ne_eq, bne_self_eq_false, beq_self_eq_true, stm, act_box, agg_cells]
  have b1 : blk (w.alloc (.cells #[.int .i64 a, .int .i64 b, .int .i64 v] 68)) (siz w) = some (.cells #[.int .i64 a, .int .i64 b, .int .i64 v] 68) := blk_alloc_new
  have k1 : K0 w (w.alloc (.cells #[.int .i64 a, .int .i64 b, .int .i64 v] 68)) := (K0.refl w).alloc _
  generalize w.alloc (.cells #[.int .i64 a, .int .i64 b, .int .i64 v] 68) = w1 at b1 k1
  exact hq _ k1
theorem contains_c {v : Value} {l : List (Pt Int)} (h : Rd 3 w v l.length (flat enc l)) (hl : l.length ≤ 1000000) (hq : ∀ w', K0 w w' → Q (.bool (decide (∃ p ∈ l, p.2 = 1))) w') :
    callS Try.prog 45 #[v, .func (.func 46) #[] #[]] Q w := by
  refine ref45 ?_
  unfold S45
  refine pp_index (P := fun p : Pt Int => p.2 = 1) (F := fun _ => False) h hl (fun w1 s Q k hs hq => ?_) (fun w1 k1 hno => ?_) (fun w1 i p k1 hp h1 _ => ?_)
  · rw [callF_plain]
    exact dead1_c hq
  · have hn : ¬ ((0 : Int) ≤ -1) := by omega
    simp only [stp, Nat.reduceAdd, Int.reduceLT, Int.reduceLE, Int.reduceEq, Int.reduceNe, ne_eq, bne_self_eq_false, beq_self_eq_true, hn]
    have := hq _ k1
    rw [decide_eq_false (fun h => by obtain ⟨p, hp, h1⟩ := h; exact hno p hp h1)] at this
    exact this
  · have hn : (0 : Int) ≤ i := by omega
    simp only [stp, Nat.reduceAdd, Int.reduceLT, Int.reduceLE, Int.reduceEq, Int.reduceNe, ne_eq, bne_self_eq_false, beq_self_eq_true, hn]
    have := hq _ k1
    rw [decide_eq_true ⟨p, List.mem_of_getElem? hp, h1⟩] at this
    exact this
/-- A part that both hold shared, of one that waits to hold it alone. -/
def deadX (s : TS) (node : Nat) (k : I5) (sp : Sp) : Prop := ∃ x, hasB sp x ∧ hasB (k.2.2.1, k.2.2.2.1) x ∧ bl s node x = some 1
def deadK (s : TS) (node : Nat) (a b : Int) (k : I5) : Prop := k.2.1 ≠ (node : Int) ∧ k.2.2.2.2 = 2 ∧ ∃ p ∈ partsL (a, b) (s.hs[k.2.1.toNat]?.getD []), p.2 = 1 ∧ deadX s node k p.1
def deadP (s : TS) (node : Nat) (a b md : Int) : Prop := md = 2 ∧ ∃ k ∈ s.ws, deadK s node a b k
theorem TLr.c18 {ms : List Nat} {wv : Value} (h : TLr w B t s ms wv) : cel w t 18 = some wv := by
  rw [cel_b h.b]
  unfold tcells
  rw [List.getElem?_toArray, show (18 : Nat) = 17 + 1 from rfl, List.getElem?_cons_succ, List.getElem?_append_right (by simp [ptrs, h.n])]
  simp [ptrs, h.n]
theorem TLr.lists {ms : List Nat} {wv : Value} (h : TLr w B t s ms wv) : Lists s := fun l hl => by
  obtain ⟨i, hi, rfl⟩ := List.getElem_of_mem hl
  have hi' : i < 17 := by rw [h.hn] at hi; exact hi
  obtain ⟨m, l, _, e2, _, hm, _⟩ := h.node hi'
  rw [List.getElem?_eq_getElem hi] at e2
  injection e2 with e2
  rw [e2]
  exact hm.canon
theorem TL.lists (h : TL w B t s) : Lists s := by obtain ⟨_, _, h⟩ := h; exact h.lists
/-- Requests that wait are of nodes that there are. -/
def WsN (s : TS) : Prop := ∀ k ∈ s.ws, 1 ≤ k.2.1 ∧ k.2.1 ≤ s.nodes
theorem dead_c {node : Nat} {a b md : Int} (h : TL w B t s) (hok : WsOk s.ws) (hwn : WsN s) (hn : 1 ≤ node) (hn' : (node : Int) ≤ s.nodes)
    (hq : ∀ w' r, (r = true ↔ deadP s node a b md) → K0 w w' → Q (.bool r) w') :
    callS Try.prog 26 #[.pointer (some ⟨t, 0, none⟩), .int .i64 (node : Int), .agg #[.int .i64 a, .int .i64 b, .int .i64 md]] Q w := by
  refine ref26 ?_
  unfold S26
  have hL := h.lists
  obtain ⟨ms, wv, h⟩ := h
  simp only [stp, Nat.reduceAdd, Int.reduceLT, Int.reduceLE, Int.reduceEq, Int.reduceNe, ne_eq, bne_self_eq_false, beq_self_eq_true, stm, act_box, agg_cells]
  have b1 : blk (w.alloc (.cells #[.int .i64 a, .int .i64 b, .int .i64 md] 31)) (siz w) = some (.cells #[.int .i64 a, .int .i64 b, .int .i64 md] 31) := blk_alloc_new
  have k1 : K0 w (w.alloc (.cells #[.int .i64 a, .int .i64 b, .int .i64 md] 31)) := (K0.refl w).alloc _
  generalize w.alloc (.cells #[.int .i64 a, .int .i64 b, .int .i64 md] 31) = w1 at b1 k1
  have c2 : cel w1 (siz w) 2 = some (.int .i64 md) := by rw [cel_b b1]; rfl
  by_cases hmd : md = 2
  case neg =>
    simp only [stp, Nat.reduceAdd, Int.reduceLT, Int.reduceLE, Int.reduceEq, Int.reduceNe, ne_eq, bne_self_eq_false, beq_self_eq_true, stm, c2, hmd]
    exact hq _ _ ⟨fun h => (by cases h), fun h => absurd h.1 hmd⟩ k1
  subst hmd
  have hwr := (h.keep0 k1).wr.rd
  have c18 := (h.keep0 k1).c18
  obtain ⟨pa, ca, rfl⟩ := hwr.form
  have hlw := hok.1
  have hnlt : node < 17 := by have := h.nn.2; omega
  simp only [stp, Nat.reduceAdd, Int.reduceLT, Int.reduceLE, Int.reduceEq, Int.reduceNe, ne_eq, bne_self_eq_false, beq_self_eq_true, stm, c2, c18]
  refine lpc1 s.ws.length (by omega) (fun i w' => K0 w1 w' ∧ ∀ k ∈ s.ws.take i, ¬ deadK s node a b k) ⟨K0.refl _, by simp⟩ ?_ ?_
  · rintro i w2 hi ⟨k2, hno⟩ J hJ _j
    have hi' : (i : Int) < (s.ws.length : Int) := by omega
    have h2 := (h.keep0 k1).keep0 k2
    have b2 := k2.blk b1 (by exact fun h => h)
    obtain ⟨b0, o, rfl, q0, q1, q2, q3, q4⟩ := ws_at (hwr.keep0 k2) hi
    simp only [stp, Nat.reduceAdd, Int.reduceLT, Int.reduceLE, Int.reduceEq, Int.reduceNe, ne_eq, bne_self_eq_false, beq_self_eq_true, hi']
    refine jn0 (fun w' => K0 w1 w' ∧ ¬ deadK s node a b s.ws[i]) (fun J1 hJ1 => ?_) ?_
    · rw [ix_32 hi]
      simp only [stp, Nat.reduceAdd, Int.reduceLT, Int.reduceLE, Int.reduceEq, Int.reduceNe, ne_eq, bne_self_eq_false, beq_self_eq_true, stm, q0, q1, q2, q3, q4]
      have k3 : K0 w2 (w2.alloc (.cells #[.int .i64 s.ws[i].1, .int .i64 s.ws[i].2.1, .int .i64 s.ws[i].2.2.1, .int .i64 s.ws[i].2.2.2.1, .int .i64 s.ws[i].2.2.2.2] 36)) := (K0.refl w2).alloc _
      have b3 : blk (w2.alloc (.cells #[.int .i64 s.ws[i].1, .int .i64 s.ws[i].2.1, .int .i64 s.ws[i].2.2.1, .int .i64 s.ws[i].2.2.2.1, .int .i64 s.ws[i].2.2.2.2] 36)) (siz w2) = some (.cells #[.int .i64 s.ws[i].1, .int .i64 s.ws[i].2.1, .int .i64 s.ws[i].2.2.1, .int .i64 s.ws[i].2.2.2.1, .int .i64 s.ws[i].2.2.2.2] 36) := blk_alloc_new
      generalize w2.alloc (.cells #[.int .i64 s.ws[i].1, .int .i64 s.ws[i].2.1, .int .i64 s.ws[i].2.2.1, .int .i64 s.ws[i].2.2.2.1, .int .i64 s.ws[i].2.2.2.2] 36) = w3 at k3 b3
      have hkn := hwn _ (List.getElem_mem hi)
      have hkw : s.ws[i] ∈ s.ws := List.getElem_mem hi
      have hdK : deadK s node a b s.ws[i] → deadP s node a b 2 := fun h => ⟨rfl, _, hkw, h⟩
      generalize s.ws[i] = k at *
      obtain ⟨z0, z1, z2, z3, z4⟩ := wait_cells b3
      by_cases hkn1 : k.2.1 = (node : Int)
      · simp only [stp, Nat.reduceAdd, Int.reduceLT, Int.reduceLE, Int.reduceEq, Int.reduceNe, ne_eq, bne_self_eq_false, beq_self_eq_true, stm, z1, hkn1]
        exact hJ1 _ ⟨k2.trans k3, fun h => h.1 hkn1⟩
      by_cases hkm : k.2.2.2.2 = 2
      case neg =>
        simp only [stp, Nat.reduceAdd, Int.reduceLT, Int.reduceLE, Int.reduceEq, Int.reduceNe, ne_eq, bne_self_eq_false, beq_self_eq_true, stm, z1, z4, hkn1, hkm]
        exact hJ1 _ ⟨k2.trans k3, fun h => hkm h.2.1⟩
      simp only [stp, Nat.reduceAdd, Int.reduceLT, Int.reduceLE, Int.reduceEq, Int.reduceNe, ne_eq, bne_self_eq_false, beq_self_eq_true, stm, z1, z4, hkn1, hkm]
      have h3 := h2.keep0 k3
      have b13 := k3.blk b2 (by exact fun h => h)
      obtain ⟨u, hu⟩ : ∃ u : Nat, k.2.1 = (u : Int) := ⟨k.2.1.toNat, by omega⟩
      have hu17 : u < 17 := by have := h.nn.2; omega
      obtain ⟨m, l, e1, e2, e3, hm, hd⟩ := h3.node hu17
      have hl := canon_len (n := 4096) hm.canon hd
      have y0 : cel w3 (siz w) 0 = some (.int .i64 a) := by rw [cel_b b13]; rfl
      have y1 : cel w3 (siz w) 1 = some (.int .i64 b) := by rw [cel_b b13]; rfl
      rw [hu, ixa hu17]
      simp only [stp, Nat.reduceAdd, Int.reduceLT, Int.reduceLE, Int.reduceEq, Int.reduceNe, ne_eq, bne_self_eq_false, beq_self_eq_true, stm, e3, y0, y1]
      refine parts_c (a := a) (b := b) (w := w3.drew) (hm.keep0 (K0.refl _).drew) (by omega) fun w4 v4 o4 k4 => ?_
      have k4 : K0 w3 w4 := ((K0.refl w3).drew).trans k4
      have hPl := partsL_len (a, b) l
      have hPc := partsL_canon (s := (a, b)) hm.canon
      have hkP : ∀ p ∈ partsL (a, b) l, p.2 = 1 → deadX s node k p.1 → deadK s node a b k := fun p hp h1 h2 => ⟨hkn1, hkm, p, by rw [show k.2.1.toNat = u by omega, e2]; exact hp, h1, h2⟩
      have hkP' : deadK s node a b k → ∃ p ∈ partsL (a, b) l, p.2 = 1 ∧ deadX s node k p.1 := fun h => by
        obtain ⟨_, _, p, hp, h1, h2⟩ := h
        rw [show k.2.1.toNat = u by omega, e2] at hp
        exact ⟨p, hp, h1, h2⟩
      generalize hP : partsL (a, b) l = P at *
      obtain ⟨p4, c4, rfl⟩ := o4.form
      have b4 := k4.blk b3 (by exact fun h => h)
      simp only [stp, Nat.reduceAdd, Int.reduceLT, Int.reduceLE, Int.reduceEq, Int.reduceNe, ne_eq, bne_self_eq_false, beq_self_eq_true]
      refine lpc1 P.length (by omega) (fun j w' => K0 w4 w' ∧ ∀ p ∈ P.take j, ¬ (p.2 = 1 ∧ deadX s node k p.1)) ⟨K0.refl _, by simp⟩ ?_ ?_
      · rintro j w5 hj ⟨k5, hnp⟩ J2 hJ2 _j
        have hj' : (j : Int) < (P.length : Int) := by omega
        obtain ⟨g, rfl, r0, r1, r2⟩ := part_at (o4.keep k5 fun _ _ e => e) hj
        have b5 := k5.blk b4 (by exact fun h => h)
        have hcn := hPc.1 _ (List.getElem_mem hj)
        simp only [stp, Nat.reduceAdd, Int.reduceLT, Int.reduceLE, Int.reduceEq, Int.reduceNe, ne_eq, bne_self_eq_false, beq_self_eq_true, hj']
        refine jn0 (fun w' => K0 w4 w' ∧ ¬ (P[j].2 = 1 ∧ deadX s node k P[j].1)) (fun J3 hJ3 => ?_) ?_
        · rw [ix_65 hj, Nat.zero_add]
          simp only [stp, Nat.reduceAdd, Int.reduceLT, Int.reduceLE, Int.reduceEq, Int.reduceNe, ne_eq, bne_self_eq_false, beq_self_eq_true, stm, r0, r1, r2]
          have b6 : blk (w5.alloc (.cells #[.int .i64 P[j].1.1, .int .i64 P[j].1.2, .int .i64 P[j].2] 68)) (siz w5) = some (.cells #[.int .i64 P[j].1.1, .int .i64 P[j].1.2, .int .i64 P[j].2] 68) := blk_alloc_new
          have k6 : K0 w5 (w5.alloc (.cells #[.int .i64 P[j].1.1, .int .i64 P[j].1.2, .int .i64 P[j].2] 68)) := (K0.refl w5).alloc _
          generalize w5.alloc (.cells #[.int .i64 P[j].1.1, .int .i64 P[j].1.2, .int .i64 P[j].2] 68) = w6 at b6 k6
          have d0 : cel w6 (siz w5) 0 = some (.int .i64 P[j].1.1) := by rw [cel_b b6]; rfl
          have d1 : cel w6 (siz w5) 1 = some (.int .i64 P[j].1.2) := by rw [cel_b b6]; rfl
          have b36 := k6.blk b5 (by exact fun h => h)
          obtain ⟨z0, z1, z2, z3, z4⟩ := wait_cells b36
          have hPj : P[j] ∈ P := List.getElem_mem hj
          generalize P[j] = p at *
          simp only [stp, Nat.reduceAdd, Int.reduceLT, Int.reduceLE, Int.reduceEq, Int.reduceNe, ne_eq, bne_self_eq_false, beq_self_eq_true, stm, d0, d1, z2, z3]
          refine meet_c fun w7 g7 => ?_
          have k7 : K0 w6 w7 := g7.1
          have kk7 := (k5.trans k6).trans k7
          by_cases hm7 : meetsB p.1 (k.2.2.1, k.2.2.2.1)
          case neg =>
            rw [if_neg (show ¬ (ok (p.1.1, p.1.2) ∧ ok (k.2.2.1, k.2.2.2.1) ∧ ok (max p.1.1 k.2.2.1, min p.1.2 k.2.2.2.1)) from hm7)]
            simp only [stp, Nat.reduceAdd, Int.reduceLT, Int.reduceLE, Int.reduceEq, Int.reduceNe, ne_eq, bne_self_eq_false, beq_self_eq_true, stm]
            refine hJ3 _ ⟨kk7.alloc _, fun ⟨_, x, h1, h2, _⟩ => hm7 ⟨h1.1, h2.1, ?_, ?_⟩⟩
            · have := h1.1.1; have := h2.1.1
              dsimp only at *
              omega
            · have := h1.2; have := h2.2
              dsimp only at *
              omega
          rw [if_pos (show ok (p.1.1, p.1.2) ∧ ok (k.2.2.1, k.2.2.2.1) ∧ ok (max p.1.1 k.2.2.1, min p.1.2 k.2.2.2.1) from hm7)]
          simp only [stp, Nat.reduceAdd, Int.reduceLT, Int.reduceLE, Int.reduceEq, Int.reduceNe, ne_eq, bne_self_eq_false, beq_self_eq_true, stm]
          have k8 : K0 w7 (w7.alloc (.cells #[.int .i64 (max p.1.1 k.2.2.1), .int .i64 (min p.1.2 k.2.2.2.1)] 23)) := (K0.refl w7).alloc _
          have b8 : blk (w7.alloc (.cells #[.int .i64 (max p.1.1 k.2.2.1), .int .i64 (min p.1.2 k.2.2.2.1)] 23)) (siz w7) = some (.cells #[.int .i64 (max p.1.1 k.2.2.1), .int .i64 (min p.1.2 k.2.2.2.1)] 23) := blk_alloc_new
          generalize w7.alloc (.cells #[.int .i64 (max p.1.1 k.2.2.1), .int .i64 (min p.1.2 k.2.2.2.1)] 23) = w8 at k8 b8
          have d2 : cel w8 (siz w5) 2 = some (.int .i64 p.2) := by rw [cel_b (k8.blk (k7.blk b6 (by exact fun h => h)) (by exact fun h => h))]; rfl
          by_cases hp1 : p.2 = 1
          case neg =>
            simp only [stp, Nat.reduceAdd, Int.reduceLT, Int.reduceLE, Int.reduceEq, Int.reduceNe, ne_eq, bne_self_eq_false, beq_self_eq_true, stm, d2, hp1]
            exact hJ3 _ ⟨kk7.trans k8, fun h => hp1 h.1⟩
          simp only [stp, Nat.reduceAdd, Int.reduceLT, Int.reduceLE, Int.reduceEq, Int.reduceNe, ne_eq, bne_self_eq_false, beq_self_eq_true, stm, d2, hp1]
          have kA := ((k4.trans kk7).trans k8)
          have h8 := h3.keep0 kA
          obtain ⟨mn, ln, en1, en2, en3, hmn, hdn⟩ := h8.node hnlt
          have hln := canon_len (n := 4096) hmn.canon hdn
          rw [ixa hnlt]
          have s0 : cel w8 (siz w7) 0 = some (.int .i64 (max p.1.1 k.2.2.1)) := by rw [cel_b b8]; rfl
          have s1 : cel w8 (siz w7) 1 = some (.int .i64 (min p.1.2 k.2.2.2.1)) := by rw [cel_b b8]; rfl
          simp only [stp, Nat.reduceAdd, Int.reduceLT, Int.reduceLE, Int.reduceEq, Int.reduceNe, ne_eq, bne_self_eq_false, beq_self_eq_true, stm, en3, s0, s1]
          refine parts_c (a := max p.1.1 k.2.2.1) (b := min p.1.2 k.2.2.2.1) (w := w8.drew) (hmn.keep0 (K0.refl _).drew) (by omega) fun w9 v9 o9 k9 => ?_
          have k9 : K0 w8 w9 := ((K0.refl w8).drew).trans k9
          have hPn := partsL_len (max p.1.1 k.2.2.1, min p.1.2 k.2.2.2.1) ln
          refine contains_c o9.rd (by omega) fun w10 k10 => ?_
          have kk10 := ((kk7.trans k8).trans k9).trans k10
          have key : (∃ q ∈ partsL (max p.1.1 k.2.2.1, min p.1.2 k.2.2.2.1) ln, q.2 = 1) ↔ deadX s node k p.1 := by
            have hb : bl s node = valB ln := by unfold bl; rw [en2]; rfl
            constructor
            · rintro ⟨q, hq, hq1⟩
              have hqc := (partsL_canon (s := (max p.1.1 k.2.2.1, min p.1.2 k.2.2.2.1)) hmn.canon).1 q hq
              obtain ⟨v1, v2⟩ := part_in hmn.canon hq (x := q.1.1) ⟨hqc, Int.le_refl _, hqc.2⟩
              have v3 := v2.2
              dsimp only at v3
              refine ⟨q.1.1, ⟨hm7.1, by omega, by omega⟩, ⟨hm7.2.1, ?_, ?_⟩, ?_⟩
              · show k.2.2.1 ≤ q.1.1; omega
              · show q.1.1 < k.2.2.2.1; omega
              · rw [hb, v1, hq1]
            · rintro ⟨x, x1, x2, x3⟩
              rw [hb] at x3
              obtain ⟨q, hq, _, hq2⟩ := part_of hmn.canon (a := max p.1.1 k.2.2.1) (b := min p.1.2 k.2.2.2.1) (x := x) ⟨hm7.2.2, by have := x1.2.1; have := x2.2.1; dsimp only at *; omega, by have := x1.2.2; have := x2.2.2; dsimp only at *; omega⟩ x3
              exact ⟨q, hq, hq2⟩
          by_cases hx : ∃ q ∈ partsL (max p.1.1 k.2.2.1, min p.1.2 k.2.2.2.1) ln, q.2 = 1
          · rw [decide_eq_true hx]
            simp only [stp, Nat.reduceAdd, Int.reduceLT, Int.reduceLE, Int.reduceEq, Int.reduceNe, ne_eq, bne_self_eq_false, beq_self_eq_true]
            exact hq _ _ ⟨fun _ => hdK (hkP p hPj hp1 (key.1 hx)), fun _ => rfl⟩ ((((k1.trans k2).trans k3).trans k4).trans kk10)
          · rw [decide_eq_false hx]
            simp only [stp, Nat.reduceAdd, Int.reduceLT, Int.reduceLE, Int.reduceEq, Int.reduceNe, ne_eq, bne_self_eq_false, beq_self_eq_true]
            exact hJ3 _ ⟨kk10, fun h => hx (key.2 h.2)⟩
        · rintro w6 ⟨k6, hnp'⟩ _j
          refine hJ2 _ ⟨k6, fun p hp => ?_⟩
          rw [List.take_add_one, List.getElem?_eq_getElem hj, Option.toList_some, List.mem_append, List.mem_singleton] at hp
          rcases hp with hp | rfl
          · exact hnp p hp
          · exact hnp'
      · rintro w5 ⟨k5, hnp⟩ J2 _j
        have hn : ¬ ((P.length : Int) < (P.length : Int)) := by omega
        rw [List.take_length] at hnp
        simp only [stp, Nat.reduceAdd, Int.reduceLT, Int.reduceLE, Int.reduceEq, Int.reduceNe, ne_eq, bne_self_eq_false, beq_self_eq_true, hn]
        refine hJ1 _ ⟨((k2.trans k3).trans k4).trans k5, fun h => ?_⟩
        obtain ⟨p, hp, h1⟩ := hkP' h
        exact hnp p hp h1
    · rintro w3 ⟨k3, hnk⟩ _j
      refine hJ _ ⟨k3, fun k hk => ?_⟩
      rw [List.take_add_one, List.getElem?_eq_getElem hi, Option.toList_some, List.mem_append, List.mem_singleton] at hk
      rcases hk with hk | rfl
      · exact hno k hk
      · exact hnk
  · rintro w2 ⟨k2, hno⟩ J _j
    have hn : ¬ ((s.ws.length : Int) < (s.ws.length : Int)) := by omega
    rw [List.take_length] at hno
    simp only [stp, Nat.reduceAdd, Int.reduceLT, Int.reduceLE, Int.reduceEq, Int.reduceNe, ne_eq, bne_self_eq_false, beq_self_eq_true, hn]
    refine hq _ _ ⟨fun h => (by cases h), fun h => ?_⟩ (k1.trans k2)
    obtain ⟨_, k, hk, h1⟩ := h
    exact absurd h1 (hno k hk)
end
end Go.Proofs.Ytiomanikpboclaa
