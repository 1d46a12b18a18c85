/- The blocks of ranges: what span.Blocks and SpanBlocks compute. Conditions: as each says. -/
import Derived.Test.YtndjohbbaplekaaGreatPSpanE
import Derived.Test.YtndjohbbaplekaaGreatPSpanC
import Derived.Test.YtndjohbbaplekaaGreatPShU
import Derived.Test.YtndjohbbaplekaaGreatPImapX
set_option linter.unusedSimpArgs false
set_option linter.unusedVariables false
namespace Go.Proofs.YtndjohbbaplekaaGreatP
open Go.Sh
set_option maxRecDepth 100000
def encN (x : Int) : List Value := [.int .i64 x]
theorem encN_len (x : Int) : (encN x).length = 1 := rfl
def blkS (s : Sp) : List Int := (List.range (s.2 - s.1).toNat).map fun j : Nat => s.1 + (j : Int)
def blkL (N : List Sp) : List Int := N.flatMap blkS
theorem blkS_len (s : Sp) : (blkS s).length = (s.2 - s.1).toNat := by simp [blkS]
theorem blkS_take {s : Sp} {j : Nat} (h : j < (s.2 - s.1).toNat) : (blkS s).take (j + 1) = (blkS s).take j ++ [s.1 + (j : Int)] := by
  rw [List.take_add_one]
  congr 1
  unfold blkS
  rw [List.getElem?_map, List.getElem?_eq_getElem (by simpa using h)]
  simp
theorem blkL_take {N : List Sp} {i : Nat} (h : i < N.length) : blkL (N.take (i + 1)) = blkL (N.take i) ++ blkS N[i] := by
  unfold blkL
  rw [List.take_add_one, List.getElem?_eq_getElem h, Option.toList_some, List.flatMap_append, List.flatMap_cons, List.flatMap_nil, List.append_nil]
theorem blkL_len : ∀ N : List Sp, (∀ s ∈ N, ok s) → ((blkL N).length : Int) = sumS N
  | [], _ => rfl
  | s :: N, h => by
    have := blkL_len N fun t ht => h t (by simp [ht])
    have ho := (h s (by simp)).2
    unfold blkL at *
    rw [List.flatMap_cons, List.length_append, blkS_len, sumS]
    omega
theorem blkS_rise (s : Sp) : (blkS s).Pairwise (· < ·) := by
  unfold blkS
  refine List.pairwise_map.2 (List.pairwise_lt_range.imp fun {a b} h => by omega)
theorem blkS_in {s : Sp} {x : Int} (h : x ∈ blkS s) : s.1 ≤ x ∧ x < s.2 := by
  unfold blkS at h
  obtain ⟨j, hj, rfl⟩ := List.mem_map.1 h
  have := List.mem_range.1 hj
  omega
theorem blkL_rise : ∀ N : List Sp, Nrm N → (blkL N).Pairwise (· < ·)
  | [], _ => List.Pairwise.nil
  | s :: N, h => by
    have ih := blkL_rise N h.tail
    unfold blkL at *
    rw [List.flatMap_cons, List.pairwise_append]
    refine ⟨blkS_rise s, ih, fun x hx y hy => ?_⟩
    obtain ⟨t, ht, hy⟩ := List.mem_flatMap.1 hy
    have := (List.pairwise_cons.1 h.2).1 t ht
    have := blkS_in hx
    have := blkS_in hy
    omega
theorem norm_ends {l N : List Sp} (hn : IsNorm l N) {M : Int} (hb : ∀ s ∈ l, s.2 ≤ M) : ∀ s ∈ N, s.2 ≤ M := fun s hs => by
  have ho := hn.1.1 s hs
  obtain ⟨t, ht, h⟩ := (hn.2 (s.2 - 1)).1 ⟨s, hs, ho, by have := ho.2; omega, by omega⟩
  have := hb t ht
  have := h.2.2
  omega
section
variable {w : World} {Q : Value → World → Prop}
theorem blocks_c {v : Value} {l : List Sp} {most : Int} (h : Rd 2 w v l.length (flat encS l)) (hl : l.length ≤ 100) (hb : ∀ s ∈ l, s.2 ≤ 9223372036854775807) (hm : most ≤ 3000)
    (hq : ∀ w' v' N bs, IsNorm l N → (sumS N ≤ most → bs = blkL N) → (¬ sumS N ≤ most → bs = []) → Own w' (siz w) 3 1 v' bs.length (flat encN bs) → Keep (fun _ => False) w w' → Q (.tuple #[v', .bool (decide (sumS N ≤ most))]) w') :
    callS Tryz.prog 43 #[.int .i64 most, v] Q w := by
  refine ref43 ?_
  unfold S43
  refine norm_c h (by omega) fun w1 v1 N hn hlen o1 k1 => ?_
  have hNl : N.length ≤ 100 := by have := List.length_filter_le (fun s => decide (ok s)) l; omega
  have endN := norm_ends hn hb
  have sumOk : ∀ i, 0 ≤ sumS (N.take i) ∧ sumS (N.take i) ≤ 9223372036854775807 := fun i => by
    have hc : Nrm (N.take i) := ⟨fun p hp => hn.1.1 p (List.mem_of_mem_take hp), hn.1.2.sublist (List.take_sublist _ _)⟩
    exact ⟨sumS_nonneg hc.1, sumS_max hc (by omega) fun s hs => endN s (List.mem_of_mem_take hs)⟩
  obtain ⟨p1, c1, rfl⟩ := o1.form
  simp only [stp, Nat.reduceAdd, Int.reduceLT, Int.reduceLE, Int.reduceEq, Int.reduceNe, ne_eq, bne_self_eq_false, beq_self_eq_true]
  refine lp2 (fun mm y z w' => Keep (fun _ => False) w1 w' ∧ ∃ i : Nat, y = .int .i64 (sumS (N.take i)) ∧ z = .int .i64 (i : Int) ∧ i ≤ N.length ∧ mm = N.length - i) N.length
    ⟨Keep.refl _ _, 0, by simp [sumS], rfl, Nat.zero_le _, by omega⟩ ?_
  rintro mm y z w2 ⟨k2, i, rfl, rfl, hi, rfl⟩ J hJ _
  have hwi := wrap_succ (i := i) (by omega)
  by_cases hlt : i < N.length
  · have hlt' : ((i : Int) < (N.length : Int)) := by omega
    have hsi : N[i]? = some N[i] := List.getElem?_eq_getElem hlt
    have hend := endN _ (List.getElem_mem hlt)
    have hok := hn.1.1 _ (List.getElem_mem hlt)
    obtain ⟨g, cg, e, _, _, _, _, _, hcel⟩ := (o1.keep k2 fun _ _ => id).at (by omega)
    injection e with e1 _ e2
    subst e1 e2
    obtain ⟨q0, q1⟩ := spans_at (b := g) (o := 0) (l := N) (fun j hj => by rw [Nat.zero_add]; exact hcel j hj) hsi
    rw [Nat.zero_add] at q0 q1
    simp only [stp, Nat.reduceAdd, Int.reduceLT, Int.reduceLE, Int.reduceEq, Int.reduceNe, ne_eq, bne_self_eq_false, beq_self_eq_true, hlt']
    rw [ix_70 hlt]
    simp only [stp, Nat.reduceAdd, Int.reduceLT, Int.reduceLE, Int.reduceEq, Int.reduceNe, ne_eq, bne_self_eq_false, beq_self_eq_true, stm, q0, q1]
    refine len_c hend fun w3 g3 => ?_
    have hsum := sumOk (i + 1)
    have hS : sumS (N.take (i + 1)) = sumS (N.take i) + (N[i].2 - N[i].1) := by rw [List.take_add_one, hsi, Option.toList_some, sumS_snoc]
    rw [hS] at hsum
    have hw2 : IntKind.i64.wrap (sumS (N.take i) + (if ok (N[i].1, N[i].2) then N[i].2 - N[i].1 else 0)) = sumS (N.take (i + 1)) := by
      rw [if_pos (show ok (N[i].1, N[i].2) from hok), wrap_id (by omega) (by omega), hS]
    simp only [stp, Nat.reduceAdd, Int.reduceLT, Int.reduceLE, Int.reduceEq, Int.reduceNe, ne_eq, bne_self_eq_false, beq_self_eq_true, hw2, hwi]
    exact hJ (N.length - (i + 1)) _ _ _ (by omega) ⟨(k2.alloc _).trans g3.1, i + 1, rfl, rfl, by omega, rfl⟩
  · have hlt' : ¬ ((i : Int) < (N.length : Int)) := by omega
    have hil : i = N.length := by omega
    simp only [stp, Nat.reduceAdd, Int.reduceLT, Int.reduceLE, Int.reduceEq, Int.reduceNe, ne_eq, bne_self_eq_false, beq_self_eq_true, hlt']
    rw [hil, List.take_length]
    by_cases hgt : most < sumS N
    · have hle : ¬ sumS N ≤ most := by omega
      simp only [stp, Nat.reduceAdd, Int.reduceLT, Int.reduceLE, Int.reduceEq, Int.reduceNe, ne_eq, bne_self_eq_false, beq_self_eq_true, hgt]
      have := hq _ _ N [] hn (fun e => absurd e hle) (fun _ => rfl) (Own.nil _ _ _ _) (k1.trans k2)
      rw [decide_eq_false hle] at this
      exact this
    · have hle : sumS N ≤ most := by omega
      have blen : ∀ i, ((blkL (N.take i)).length : Int) = sumS (N.take i) := fun i => blkL_len _ fun s hs => hn.1.1 s (List.mem_of_mem_take hs)
      have bmax : ∀ i, i < N.length → (blkL (N.take i)).length + (blkS N[i]!).length ≤ 3000 := fun i hi => by
        have h1 := blkL_take (N := N) hi
        have h2 := blkL_len N hn.1.1
        have h3 : blkL N = blkL (N.take (i + 1)) ++ blkL (N.drop (i + 1)) := by unfold blkL; rw [← List.flatMap_append, List.take_append_drop]
        have h4 : N[i]! = N[i] := getElem!_pos N i hi
        rw [h4, ← List.length_append, ← h1]
        have h5 : (blkL (N.take (i + 1))).length ≤ (blkL N).length := by rw [h3, List.length_append]; omega
        omega
      simp only [stp, Nat.reduceAdd, Int.reduceLT, Int.reduceLE, Int.reduceEq, Int.reduceNe, ne_eq, bne_self_eq_false, beq_self_eq_true, hgt]
      refine lp2 (fun mm x y w' => Keep (fun _ => False) w1 w' ∧ ∃ i : Nat, y = .int .i64 (i : Int) ∧ i ≤ N.length ∧ mm = N.length - i ∧ Own w' (siz w1) 3 1 x (blkL (N.take i)).length (flat encN (blkL (N.take i)))) N.length
        ⟨k2, 0, rfl, Nat.zero_le _, by omega, Own.nil _ _ _ _⟩ ?_
      rintro mm x y w3 ⟨k3, i, rfl, hi, rfl, o3⟩ J' hJ' _
      have hwi := wrap_succ (i := i) (by omega)
      have s3 := k3.size
      by_cases hlt : i < N.length
      · have hlt' : ((i : Int) < (N.length : Int)) := by omega
        have hsi : N[i]? = some N[i] := List.getElem?_eq_getElem hlt
        have hend := endN _ (List.getElem_mem hlt)
        have hok := hn.1.1 _ (List.getElem_mem hlt)
        have hmx := bmax i hlt
        rw [getElem!_pos N i hlt, blkS_len] at hmx
        obtain ⟨g, cg, e, _, _, _, _, _, hcel⟩ := (o1.keep k3 fun _ _ => id).at (by omega)
        injection e with e1 _ e2
        subst e1 e2
        obtain ⟨q0, q1⟩ := spans_at (b := g) (o := 0) (l := N) (fun j hj => by rw [Nat.zero_add]; exact hcel j hj) hsi
        rw [Nat.zero_add] at q0 q1
        simp only [stp, Nat.reduceAdd, Int.reduceLT, Int.reduceLE, Int.reduceEq, Int.reduceNe, ne_eq, bne_self_eq_false, beq_self_eq_true, hlt']
        rw [ix_70 hlt]
        simp only [stp, Nat.reduceAdd, Int.reduceLT, Int.reduceLE, Int.reduceEq, Int.reduceNe, ne_eq, bne_self_eq_false, beq_self_eq_true, stm, q0, q1]
        have k4 := k3.alloc (.cells #[.int .i64 N[i].1, .int .i64 N[i].2] 72)
        have o4 := o3.keep ((Keep.refl (fun _ => False) w3).alloc (.cells #[.int .i64 N[i].1, .int .i64 N[i].2] 72)) fun _ _ => id
        have y1 : cel (w3.alloc (.cells #[.int .i64 N[i].1, .int .i64 N[i].2] 72)) (siz w3) 1 = some (.int .i64 N[i].2) := cel_alloc_new
        have s4 : siz (w3.alloc (.cells #[.int .i64 N[i].1, .int .i64 N[i].2] 72)) = siz w3 + 1 := siz_alloc
        generalize w3.alloc (.cells #[.int .i64 N[i].1, .int .i64 N[i].2] 72) = w4 at k4 o4 y1 s4
        refine lp2 (fun mm x y w' => Keep (fun _ => False) w1 w' ∧ ∃ j : Nat, y = .int .i64 (N[i].1 + (j : Int)) ∧ j ≤ (N[i].2 - N[i].1).toNat ∧ mm = (N[i].2 - N[i].1).toNat - j ∧ cel w' (siz w3) 1 = some (.int .i64 N[i].2) ∧ siz w3 < siz w' ∧ (∀ b, x.ownBlock = some b → b ≠ siz w3) ∧
            Own w' (siz w1) 3 1 x (blkL (N.take i) ++ (blkS N[i]).take j).length (flat encN (blkL (N.take i) ++ (blkS N[i]).take j))) (N[i].2 - N[i].1).toNat
          ⟨k4, 0, by simp, Nat.zero_le _, by omega, y1, by omega, fun b hb' e => by have := (o3.lt hb').2; omega, by rw [List.take_zero, List.append_nil]; exact o4⟩ ?_
        rintro mm x y w5 ⟨k5, j, rfl, hj, rfl, y5, s5, hx5, o5⟩ J'' hJ'' _
        have hok2 := hok.2
        have hok1 := hok.1
        by_cases hjt : j < (N[i].2 - N[i].1).toNat
        · have hjt' : N[i].1 + (j : Int) < N[i].2 := by omega
          have hwj : IntKind.i64.wrap (N[i].1 + (j : Int) + 1) = N[i].1 + ((j + 1 : Nat) : Int) := by rw [wrap_id (by omega) (by omega)]; omega
          have hlen5 : (blkL (N.take i) ++ (blkS N[i]).take j).length ≤ 3000 := by rw [List.length_append, List.length_take]; omega
          simp only [stp, Nat.reduceAdd, Int.reduceLT, Int.reduceLE, Int.reduceEq, Int.reduceNe, ne_eq, bne_self_eq_false, beq_self_eq_true, stm, y5, hjt']
          refine pu_64 o5 (by intro u hu; simp only [List.mem_cons, List.not_mem_nil, or_false] at hu; rcases hu with rfl; exact one_int) (by omega) (by omega) fun v' w' ho hk hr => ?_
          have k6 : Keep (fun _ => False) w1 w' := k5.trans' hk fun b hb' e => by have := (o5.lt e).1; omega
          simp only [stp, Nat.reduceAdd, Int.reduceLT, Int.reduceLE, Int.reduceEq, Int.reduceNe, ne_eq, bne_self_eq_false, beq_self_eq_true, hwj]
          refine hJ'' ((N[i].2 - N[i].1).toNat - (j + 1)) _ _ _ (by omega) ⟨k6, j + 1, rfl, by omega, rfl, hk.cel y5 (fun e => hx5 _ e rfl), Nat.lt_of_lt_of_le s5 hk.size, fun b hb' e => ?_, ?_⟩
          · rcases hr b hb' with h1 | h1
            · exact hx5 b h1 e
            · omega
          · rw [blkS_take hjt, ← List.append_assoc, flat_append, flat_one, List.length_append]
            exact ho
        · have hjt' : ¬ N[i].1 + (j : Int) < N[i].2 := by omega
          have hjl : (blkS N[i]).take j = blkS N[i] := List.take_of_length_le (by rw [blkS_len]; omega)
          simp only [stp, Nat.reduceAdd, Int.reduceLT, Int.reduceLE, Int.reduceEq, Int.reduceNe, ne_eq, bne_self_eq_false, beq_self_eq_true, stm, y5, hjt', hwi]
          rw [hjl, ← blkL_take hlt] at o5
          exact hJ' (N.length - (i + 1)) _ _ _ (by omega) ⟨k5, i + 1, rfl, by omega, rfl, o5⟩
      · have hlt' : ¬ ((i : Int) < (N.length : Int)) := by omega
        have hil : i = N.length := by omega
        simp only [stp, Nat.reduceAdd, Int.reduceLT, Int.reduceLE, Int.reduceEq, Int.reduceNe, ne_eq, bne_self_eq_false, beq_self_eq_true, hlt']
        rw [hil, List.take_length] at o3
        have := hq _ _ N (blkL N) hn (fun _ => rfl) (fun e => absurd hle e) (o3.le k1.size) (k1.trans k3)
        rw [decide_eq_true hle] at this
        exact this
end
end Go.Proofs.YtndjohbbaplekaaGreatP
