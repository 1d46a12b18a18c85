/- HeapFirst: what is told next is what is taken next; nothing is taken ahead of its time. Conditions: as it says. -/
import Derived.Test.YtfdfgpcefmghgaaHeapX
set_option linter.unusedSimpArgs false
set_option linter.unusedVariables false
namespace Go.Proofs.Ytfdfgpcefmghgaa.Hs
open Go.Sh Go.Sh.Hp
section
variable {w : World} {Q : Value → World → Prop}
theorem act_bytes2 {y z : Int} {t : TypeId} {n : Nat} {k : Value → World → Prop} : act Try.prog (convert 27 9 (.slice (some ⟨siz w, 0, none⟩) 2 n)) k (w.alloc (.cells #[.int .u8 y, .int .u8 z] t)) = k (.string (strOfNums [y, z])) (w.alloc (.cells #[.int .u8 y, .int .u8 z] t)) :=
  act_eq (run_convert_bytes_arg _ 27 5 Try.underlying27 Try.underlying5 (siz w) 0 2 n [y, z] rfl (fun i hi => by
    rw [cell_cel]
    match i, hi with
    | 0, _ => exact cel_alloc_new (w := w) (c := #[.int .u8 y, .int .u8 z]) (t := t) (fz := (0, 0)) (i := 0)
    | 1, _ => exact cel_alloc_new (w := w) (c := #[.int .u8 y, .int .u8 z]) (t := t) (fz := (0, 0)) (i := 1)
    | i + 2, hi => exact absurd hi (by omega)) 9 Try.underlying9)
set_option maxHeartbeats 2000000 in
theorem first_law {v : Value} {us : List Int} {now : Int} (hv : Row 1 w v us.length (fun i => .int .i64 (us.getD i 0))) (_ : us.length ≤ maxLen) (_ : ∀ n ∈ us, (Lit.int .i64 n).wf = true) (_ : (Lit.int .i64 now).wf = true) (hq : ∀ w', Keep (fun b => siz w ≤ b) w w' → Q (.bool true) w') :
    callS Try.prog 3 #[v, .int .i64 now] Q w := by
  refine ref3 ?_
  unfold S3
  have out : callS Try.prog 4 #[] Q w := alive_c fun w2 k2 => hq _ (k2.mono fun _ _ e => e.elim)
  obtain ⟨pv, cv, rfl⟩ := hv.form
  generalize hNe : us.length = N at *
  by_cases g1 : (60 : Int) < (N : Int)
  · simp only [stp, Nat.reduceAdd, Int.reduceLT, Int.reduceLE, Int.reduceEq, Int.reduceNe, ne_eq, bne_self_eq_false, beq_self_eq_true, stm, g1]; exact out
  simp only [stp, Nat.reduceAdd, Int.reduceLT, Int.reduceLE, Int.reduceEq, Int.reduceNe, ne_eq, bne_self_eq_false, beq_self_eq_true, stm, g1]
  clear out
  have hN : N ≤ 60 := by omega
  refine new_c (F := fun b => siz w ≤ b) (Nat.le_refl _) fun w1 f0 hm1 k1 => ?_
  simp only [stp, Nat.reduceAdd, Int.reduceLT, Int.reduceLE, Int.reduceEq, Int.reduceNe, ne_eq, bne_self_eq_false, beq_self_eq_true]
  refine lp1 (fun m x w' => ∃ (i : Nat) (sl : Value) (mo : Option Nat) (f : Nat → It), x = .int .i64 (i : Int) ∧ i ≤ N ∧ m = N - i ∧ Mem 45 (fun b => siz w ≤ b) w' (siz w) sl mo i i f ∧ Heap i f ∧ (∀ x ∈ items i f, ∃ s, x.v = .string s) ∧ Keep (fun b => siz w ≤ b) w w') N
    ⟨0, _, _, f0, rfl, Nat.zero_le _, rfl, hm1, fun k h1 h2 => by omega, by simp [items], k1.mono fun _ _ e => e.elim⟩ ?_
  rintro m x w2 ⟨i, sl, mo, f, rfl, hi, hmm, hm, hh, hstr, k2⟩ J hJ _j
  subst m
  have hsz := k2.size
  by_cases hlt : i < N
  · have hlt' : ((i : Int) < (N : Int)) := by omega
    have hwi := wrap_succ (i := i) (by omega)
    obtain ⟨b0, o0, cc0, e0, _, hcu0⟩ := hv.at (by omega)
    have hb0 := cel_lt (hcu0 0 (by omega))
    obtain ⟨b, o, cc, e, _, hcu⟩ := (hv.keep k2 fun b hb hF => by omega).at (by omega)
    injection e with e1 _ _
    subst e1
    have bw : b < siz w := by
      injection e0 with e2 _ _
      injection e2 with e2
      injection e2 with e2 _ _
      rw [e2]; exact hb0
    have hu := hcu i (by omega)
    have hix : ∀ K, pur Try.prog (Instr.indexAt 22 (.slice (some ⟨b, o, none⟩) N cv) (.int .i64 (i : Int))) K = K (.pointer (some ⟨b, o + i, none⟩)) := fun K => by
      rw [ix_22 hlt]; try rw [Nat.mul_one]
    have h26 : (26 : Int) ≠ 0 := by decide
    simp only [stp, Nat.reduceAdd, Int.reduceLT, Int.reduceLE, Int.reduceEq, Int.reduceNe, ne_eq, bne_self_eq_false, beq_self_eq_true, hlt', hix]
    refine ⟨fun w' => cel w' b (o + i) = some (.int .i64 (us.getD i 0)), hu, ?_⟩
    refine hld_of _ (fun w' hw' => rl_3 hw') ?_
    simp only [stp, Nat.reduceAdd, Int.reduceLT, Int.reduceLE, Int.reduceEq, Int.reduceNe, ne_eq, bne_self_eq_false, beq_self_eq_true, pur_rem h26, pur_quo h26, one_int, act_bytes2]
    generalize (strOfNums _) = s
    have k23 : Keep (fun _ => False) w2 (w2.drew.alloc (.cells #[.int .u8 (IntKind.u8.wrap (IntKind.i64.wrap (97 + (i : Int).tmod 26))), .int .u8 (IntKind.u8.wrap (IntKind.i64.wrap (97 + IntKind.i64.wrap ((i : Int).tdiv 26))))] 5)) := (Keep.refl _ w2).drew.alloc _
    generalize w2.drew.alloc _ = w3 at k23 ⊢
    have hu3 := k23.cel hu (fun e => e)
    have hs3 := k23.size
    refine ⟨hu3, hu3, ?_⟩
    refine put_c (hm.still k23) (fun b hb => by omega) rfl (by omega) fun w4 sl4 m4 f4 b4 hm4 hh4 hp4 k4 => ?_
    have k14 : Keep (fun b => siz w ≤ b) w w4 := (k2.trans (k23.mono fun _ _ e => e.elim)).trans k4
    have hu4 : cel w4 b (o + i) = some (.int .i64 (us.getD i 0)) := k4.cel hu3 fun e => by
      have := bw
      omega
    refine ⟨hu4, ?_⟩
    try simp only [stp, Nat.reduceAdd, Int.reduceLT, Int.reduceLE, Int.reduceEq, Int.reduceNe, ne_eq, bne_self_eq_false, beq_self_eq_true, hwi]
    refine hJ (N - (i + 1)) _ _ (by omega) ⟨i + 1, _, _, f4, rfl, by omega, rfl, hm4, hh4 hh, fun x hx => ?_, k14⟩
    rcases List.mem_cons.1 (hp4.mem_iff.1 hx) with rfl | hx
    · exact ⟨s, rfl⟩
    · exact hstr x hx
  have hlt' : ¬ ((i : Int) < (N : Int)) := by omega
  have hie : i = N := by omega
  subst hie
  simp only [stp, Nat.reduceAdd, Int.reduceLT, Int.reduceLE, Int.reduceEq, Int.reduceNe, ne_eq, bne_self_eq_false, beq_self_eq_true, hlt']
  refine jn0 (fun w' => ∃ (n : Nat) (sl : Value) (mo : Option Nat) (f : Nat → It), n ≤ i ∧ Mem 45 (fun b => siz w ≤ b) w' (siz w) sl mo i n f ∧ (n = 0 ∨ now < (f 0).t) ∧ Keep (fun b => siz w ≤ b) w w') (fun J1 hJ1 => ?_) ?_
  case refine_2 =>
    rintro w3 ⟨n, sl3, mo3, f3, hn, hm3, hno, k3⟩ _j
    refine lp1 (fun m x w' => ∃ k : Nat, x = .int .i64 (k : Int) ∧ k ≤ n ∧ m = n - k ∧ Mem 45 (fun b => siz w ≤ b) w' (siz w) sl3 mo3 i n f3 ∧ Keep (fun b => siz w ≤ b) w w') n ⟨0, rfl, Nat.zero_le _, rfl, hm3, k3⟩ ?_
    rintro m x w4 ⟨k, rfl, hk, hmm, hm4, k4⟩ J3 hJ3 _j
    subst m
    refine list_c hm4 (by omega) fun w5 v5 k5 hv5 => ?_
    obtain ⟨pa, ca, rfl⟩ := hv5
    have hm5 := hm4.still k5
    have k15 : Keep (fun b => siz w ≤ b) w w5 := k4.trans (k5.mono fun _ _ e => e.elim)
    by_cases hlt2 : k < n
    · have hlt2' : ((k : Int) < (n : Int)) := by omega
      have hwk := wrap_succ (i := k) (by omega)
      simp only [stp, Nat.reduceAdd, Int.reduceLT, Int.reduceLE, Int.reduceEq, Int.reduceNe, ne_eq, bne_self_eq_false, beq_self_eq_true, hlt2']
      refine first_c hm5 (by omega) ?_
      have hna : ¬ ((f3 0).t ≤ now) := by omega
      simp only [stp, Nat.reduceAdd, Int.reduceLT, Int.reduceLE, Int.reduceEq, Int.reduceNe, ne_eq, bne_self_eq_false, beq_self_eq_true, hna, hwk]
      exact hJ3 (n - (k + 1)) _ _ (by omega) ⟨k + 1, rfl, by omega, rfl, hm5.drew, k15.drew⟩
    · have hlt2' : ¬ ((k : Int) < (n : Int)) := by omega
      simp only [stp, Nat.reduceAdd, Int.reduceLT, Int.reduceLE, Int.reduceEq, Int.reduceNe, ne_eq, bne_self_eq_false, beq_self_eq_true, hlt2']
      exact alive_c fun w6 k6 => hq _ (k15.trans (k6.mono fun _ _ e => e.elim))
  refine lp1 (fun m x w' => ∃ (k n : Nat) (sl : Value) (mo : Option Nat) (f : Nat → It), x = .int .i64 (k : Int) ∧ n + k = i ∧ m = n ∧ Mem 45 (fun b => siz w ≤ b) w' (siz w) sl mo i n f ∧ Heap n f ∧ (∀ x ∈ items n f, ∃ s, x.v = .string s) ∧ Keep (fun b => siz w ≤ b) w w') i ⟨0, i, sl, mo, f, rfl, by omega, rfl, hm, hh, hstr, k2⟩ ?_
  rintro m x w3 ⟨k, n, sl3, mo3, f3, rfl, hnk, hmm, hm3, hh3, hs3, k3⟩ J2 hJ2 _j
  subst m
  have hki : ((k : Int) ≤ (i : Int)) := by omega
  have hwk := wrap_succ (i := k) (by omega)
  simp only [stp, Nat.reduceAdd, Int.reduceLT, Int.reduceLE, Int.reduceEq, Int.reduceNe, ne_eq, bne_self_eq_false, beq_self_eq_true, hki]
  rcases Nat.eq_zero_or_pos n with h0 | h0
  · subst h0
    refine first_none hm3 ?_
    simp only [stp, Nat.reduceAdd, Int.reduceLT, Int.reduceLE, Int.reduceEq, Int.reduceNe, ne_eq, bne_self_eq_false, beq_self_eq_true]
    refine len_c hm3 ?_
    refine take_none hm3 (.inl rfl) fun w4 k4 => ?_
    have hm4 := hm3.still k4
    simp only [stp, Nat.reduceAdd, Int.reduceLT, Int.reduceLE, Int.reduceEq, Int.reduceNe, ne_eq, bne_self_eq_false, beq_self_eq_true, stm]
    refine len_c hm4 ?_
    simp only [stp, Nat.reduceAdd, Int.reduceLT, Int.reduceLE, Int.reduceEq, Int.reduceNe, ne_eq, bne_self_eq_false, beq_self_eq_true, stm]
    exact hJ1 _ ⟨0, _, _, _, Nat.zero_le _, hm4, .inl rfl, k3.trans (k4.mono fun _ _ e => e.elim)⟩
  obtain ⟨s0, hv0⟩ := hs3 (f3 0) (List.mem_map.2 ⟨0, List.mem_range.2 h0, rfl⟩)
  refine first_c hm3 h0 ?_
  have hm3d := hm3.drew
  have k3d := k3.drew
  simp only [stp, Nat.reduceAdd, Int.reduceLT, Int.reduceLE, Int.reduceEq, Int.reduceNe, ne_eq, bne_self_eq_false, beq_self_eq_true]
  refine len_c hm3d ?_
  by_cases hnow : (f3 0).t ≤ now
  · refine take_c hm3d h0 hnow fun w4 sl4 f4 n4 hn4 hm4 hh4 hp4 k4 => ?_
    have hsub : IntKind.i64.wrap ((n : Int) - 1) = (n4 : Int) := by rw [wrap_id (by omega) (by omega)]; omega
    rw [hv0]
    simp only [stp, Nat.reduceAdd, Int.reduceLT, Int.reduceLE, Int.reduceEq, Int.reduceNe, ne_eq, bne_self_eq_false, beq_self_eq_true, stm, hnow]
    refine len_c hm4 ?_
    simp only [stp, Nat.reduceAdd, Int.reduceLT, Int.reduceLE, Int.reduceEq, Int.reduceNe, ne_eq, bne_self_eq_false, beq_self_eq_true, stm, hsub, hwk]
    exact hJ2 n4 _ _ (by omega) ⟨k + 1, n4, sl4, mo3, f4, rfl, by omega, rfl, hm4, hh4 hh3, fun x hx => hs3 x (hp4.mem_iff.1 (List.mem_cons_of_mem _ hx)), k3d.trans k4⟩
  · refine take_none hm3d (.inr (by omega)) fun w4 k4 => ?_
    have hm4 := hm3d.still k4
    simp only [stp, Nat.reduceAdd, Int.reduceLT, Int.reduceLE, Int.reduceEq, Int.reduceNe, ne_eq, bne_self_eq_false, beq_self_eq_true, stm, hnow]
    refine len_c hm4 ?_
    simp only [stp, Nat.reduceAdd, Int.reduceLT, Int.reduceLE, Int.reduceEq, Int.reduceNe, ne_eq, bne_self_eq_false, beq_self_eq_true, stm]
    exact hJ1 _ ⟨n, _, _, _, by omega, hm4, .inr (by omega), k3d.trans (k4.mono fun _ _ e => e.elim)⟩
end
end Go.Proofs.Ytfdfgpcefmghgaa.Hs
