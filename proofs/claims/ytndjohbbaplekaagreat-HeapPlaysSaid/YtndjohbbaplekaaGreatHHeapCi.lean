/- The heap of values of type int: what taking one out does. Conditions: the heap lies in memory as 'Mem' says. -/
import Derived.Test.YtndjohbbaplekaaGreatHHeapPi
set_option linter.unusedSimpArgs false
set_option linter.unusedVariables false
namespace Go.Proofs.YtndjohbbaplekaaGreatH.Hi
open Go.Sh Go.Sh.Hp
set_option maxRecDepth 100000
section
variable {F : Nat → Prop} {w : World} {h : Nat} {sl : Value} {mo : Option Nat} {last n : Nat} {f : Nat → It} {Q : Value → World → Prop}

theorem cancel_miss {i : Int} (hm : Mem 155 F w h sl mo last n f) (hi : ∀ k, k < n → ((f k).id : Int) ≠ i) (hq : Q (.bool false) w) :
    callS Tryz.prog 15 #[.pointer (some ⟨h, 0, none⟩), .int .i64 i] Q w := by
  refine ref15 ?_
  unfold S15
  have hmm := hm.m
  rcases hm.kv with ⟨rfl, rfl⟩ | ⟨m, l, rfl, hl, hp⟩
  · simp only [stp, Nat.reduceAdd, Int.reduceLT, Int.reduceLE, Int.reduceEq, Int.reduceNe, ne_eq, bne_self_eq_false, beq_self_eq_true, hmm, Option.isSome_some, Option.getD_some]
    rw [rd_eq (lun_31 ⟨i, rfl⟩ false)]
    simp only [Bool.false_eq_true, if_false, stp, Nat.reduceAdd, Int.reduceLT, Int.reduceLE, Int.reduceEq, Int.reduceNe, ne_eq, bne_self_eq_false, beq_self_eq_true]
    exact hq
  · simp only [stp, Nat.reduceAdd, Int.reduceLT, Int.reduceLE, Int.reduceEq, Int.reduceNe, ne_eq, bne_self_eq_false, beq_self_eq_true, hmm, Option.isSome_some, Option.getD_some]
    rw [rd_eq (lu_31 hl (Mem.okKv hp) ⟨i, rfl⟩ false), Mem.kvMiss hp hi]
    simp only [Bool.false_eq_true, if_false, Option.getD_none, stp, Nat.reduceAdd, Int.reduceLT, Int.reduceLE, Int.reduceEq, Int.reduceNe, ne_eq, bne_self_eq_false, beq_self_eq_true]
    exact hq

theorem cancel_hit {k : Nat} (hm : Mem 155 F w h sl mo last n f) (hk : k < n)
    (hq : ∀ w' sl' f' n', n' + 1 = n → Mem 155 F w' h sl' mo last n' f' → (Heap n f → Heap n' f') → (f k :: items n' f').Perm (items n f) → Keep F w w' → Q (.bool true) w') :
    callS Tryz.prog 15 #[.pointer (some ⟨h, 0, none⟩), .int .i64 ((f k).id : Int)] Q w := by
  refine ref15 ?_
  unfold S15
  obtain ⟨n', rfl⟩ : ∃ n', n = n' + 1 := ⟨n - 1, by omega⟩
  have hbig := hm.big
  have hmm := hm.m
  rcases hm.kv with ⟨_, h0⟩ | ⟨m, l, rfl, hl, hp⟩
  · omega
  obtain ⟨g, cap, rfl, _, hgs, hcap, _, hgf, hgc⟩ := hm.own.at (by omega)
  have it := hm.it k hk
  have lk : ∀ {w' : World} {Q' : Value → Prop}, mp w' m = some l → rd Tryz.prog (Instr.lookup 31 (.map (some m)) (.int .i64 ((f k).id : Int)) false) Q' w' = Q' (.pointer (some ⟨(f k).b, 0, none⟩)) := fun {w' Q'} hl' => by
    rw [rd_eq (lu_31 hl' (Mem.okKv hp) ⟨_, rfl⟩ false), hm.kvHit hp hk]; rfl
  have hn1 : IntKind.i64.wrap (((n' + 1 : Nat) : Int) - 1) = (n' : Int) := by rw [wrap_id (by omega) (by omega)]; omega
  have hll := hm.l
  have hit := it.k
  simp only [stp, Nat.reduceAdd, Int.reduceLT, Int.reduceLE, Int.reduceEq, Int.reduceNe, ne_eq, bne_self_eq_false, beq_self_eq_true, hmm, cel_drew, Option.isSome_some, Option.getD_some, lk hl, lk (w' := w.drew) hl, hit, hll, hn1]
  refine swap_c hm.drew hk (by omega) fun w2 m2 k2 => ?_
  have m2l := m2.l
  obtain ⟨g2, cap2, he2, _, _, hcap2, _, hgf2, hgc2⟩ := m2.own.at (by omega)
  injection he2 with e1 _ e2
  injection e1 with e1
  injection e1 with e1 _ _
  subst e1 e2
  have hln : n' < n' + 1 := Nat.lt_succ_self n'
  have c2 : (cel w2 g n').isSome = true := by rw [hgc2 n' (by omega), List.getElem?_map, List.getElem?_range hln]; rfl
  have hgh := (m2.sb g rfl).1
  have l3 : cel (sto w2 g n' (.pointer none)) h 0 = some (.slice (some ⟨g, 0, none⟩) (n' + 1) cap) := by rw [cel_sto_ne (fun e => hgh e.1.symm)]; exact m2l
  have mm3 : cel (sto w2 g n' (.pointer none)) h 1 = some (.map (some m)) := by rw [cel_sto_ne (fun e => hgh e.1.symm)]; exact m2.m
  have fh2 := m2.fh
  have hcap' : n' ≤ cap := by omega
  have mm4 : cel (sto (sto w2 g n' (.pointer none)) h 0 (.slice (some ⟨g, 0, none⟩) n' cap)) h 1 = some (.map (some m)) := by rw [cel_sto_ne (by omega)]; exact mm3
  simp only [stp, Nat.reduceAdd, Int.reduceLT, Int.reduceLE, Int.reduceEq, Int.reduceNe, ne_eq, bne_self_eq_false, beq_self_eq_true, cel_drew, m2l, Option.isSome_some, Option.getD_some, hln, c2, hgf2, fre_drew, l3, hcap', fre_sto, fh2, mm4]
  have hlw2 : mp w2 m = some l ∨ True := .inr trivial
  rcases m2.kv with ⟨hc, _⟩ | ⟨m', l2, he', hl2, hp2⟩
  · cases hc
  injection he' with he'
  subst he'
  have hid : (swp f k n' n').id = (f k).id := by rw [swp_j]
  have mp4 : mp (sto (sto w2 g n' (.pointer none)) h 0 (.slice (some ⟨g, 0, none⟩) n' cap)) m = some l2 := by
    have hmf := mp_fre hl2
    rw [mp, blk_sto_ne (fun e => by subst e; rw [fh2] at hmf; cases hmf), blk_sto_ne (fun e => by subst e; rw [hgf2] at hmf; cases hmf)]; exact hl2
  refine md_31 mp4 (Mem.okKv hp2) ⟨_, rfl⟩ fun w3 hw3 => ?_
  have hw3' : MapTo (sto (sto w2 g n' (.pointer none)) h 0 (.slice (some ⟨g, 0, none⟩) n' cap)) w3 m (adel (.int .i64 ((swp f k n' n').id : Int)) l2) := by
    rw [hid]
    exact ⟨hw3.os, hw3.tape, hw3.output, hw3.size, hw3.map, hw3.block⟩
  obtain ⟨m3, k3⟩ := Mem.cut m2 hp2 hw3' hl2
  have k23 : Keep F w w3 := ((Keep.refl F w).drew.trans k2).trans k3
  have hperm : (f k :: items n' (swp f k n')).Perm (items (n' + 1) f) := by
    have h1 := items_swp (f := f) hk hln
    rw [items_succ, swp_j] at h1
    exact (List.perm_append_comm (l₁ := [f k])).trans h1
  have hg : ∀ j, j < n' → j ≠ k → swp f k n' j = f j := fun j hj hne => swp_ne hne (by omega)
  refine jn0 (fun w' => ∃ sl' f', Mem 155 F w' h sl' (some m) last n' f' ∧ (Heap (n' + 1) f → Heap n' f') ∧ (f k :: items n' f').Perm (items (n' + 1) f) ∧ Keep F w w') (fun J hJ => ?_) ?_
  · by_cases hkl : k < n'
    · have hkl' : (k : Int) < (n' : Int) := by omega
      simp only [stp, Nat.reduceAdd, Int.reduceLT, Int.reduceLE, Int.reduceEq, Int.reduceNe, ne_eq, bne_self_eq_false, beq_self_eq_true, hkl']
      refine up_c m3 hkl fun w4 f4 m4 p4 k4 hup hst => ?_
      refine down_c m4 hkl fun w5 f5 m5 p5 k5 hdn => ?_
      refine hJ _ ⟨_, f5, m5, fun hh => hdn ?_, (List.Perm.cons _ (p5.trans p4)).trans hperm, (k23.trans k4).trans k5⟩
      obtain ⟨g1, g2⟩ := gone_pre hh hkl hg
      by_cases hl : k = 0 ∨ ¬ lt (swp f k n' k) (swp f k n' ((k - 1) / 2))
      · rw [hst hl]
        refine ⟨fun j hj hjn hne => ?_, g2⟩
        by_cases ej : j = k
        · subst ej
          rcases hl with hl | hl
          · omega
          · exact hl
        · exact g1 j hj hjn ej hne
      · have hk0 : 0 < k := by omega
        have hlt : lt (swp f k n' k) (swp f k n' ((k - 1) / 2)) := Classical.not_not.1 fun hn => hl (.inr hn)
        refine heap_dn (hup ⟨fun j hj hjn hne => ?_, g2⟩)
        by_cases ep : (j - 1) / 2 = k
        · have h1 := g2 j hj hjn ep hk0
          rw [ep]
          exact fun h2 => h1 (lt_trans h2 hlt)
        · exact g1 j hj hjn hne ep
    · have hkl' : ¬ (k : Int) < (n' : Int) := by omega
      simp only [stp, Nat.reduceAdd, Int.reduceLT, Int.reduceLE, Int.reduceEq, Int.reduceNe, ne_eq, bne_self_eq_false, beq_self_eq_true, hkl', decide_false]
      refine hJ _ ⟨_, _, m3, fun hh j hj hjn => ?_, hperm, k23⟩
      rw [hg j hjn (by omega), hg _ (by omega) (by omega)]
      exact hh j hj (by omega)
  · rintro w4 ⟨sl', f', m4, hh, p4, k4⟩ _
    exact hq _ _ _ _ rfl m4 hh p4 k4

theorem take_none {now : Int} (hm : Mem 155 F w h sl mo last n f) (hn : n = 0 ∨ now < (f 0).t) (hq : ∀ w', Keep (fun _ => False) w w' → Q (.tuple #[(.int .i64 0), .bool false]) w') : callS Tryz.prog 12 #[.pointer (some ⟨h, 0, none⟩), .int .i64 now] Q w := by
  refine ref12 ?_
  unfold S12
  rcases Nat.eq_zero_or_pos n with rfl | h0
  · refine first_none hm ?_
    simp only [stp, Nat.reduceAdd, Int.reduceLT, Int.reduceLE, Int.reduceEq, Int.reduceNe, ne_eq, bne_self_eq_false, beq_self_eq_true]
    exact hq _ (Keep.refl _ _)
  · refine first_c hm h0 ?_
    have : now < (f 0).t := by
      rcases hn with hn | hn
      · omega
      · exact hn
    simp only [stp, Nat.reduceAdd, Int.reduceLT, Int.reduceLE, Int.reduceEq, Int.reduceNe, ne_eq, bne_self_eq_false, beq_self_eq_true, this]
    exact hq _ (Keep.refl _ _).drew
theorem take_c {now : Int} (hm : Mem 155 F w h sl mo last n f) (h0 : 0 < n) (hn : (f 0).t ≤ now)
    (hq : ∀ w' sl' f' n', n' + 1 = n → Mem 155 F w' h sl' mo last n' f' → (Heap n f → Heap n' f') → (f 0 :: items n' f').Perm (items n f) → Keep F w w' → Q (.tuple #[(f 0).v, .bool true]) w') :
    callS Tryz.prog 12 #[.pointer (some ⟨h, 0, none⟩), .int .i64 now] Q w := by
  refine ref12 ?_
  unfold S12
  refine first_c hm h0 ?_
  have hnt : ¬ now < (f 0).t := by omega
  have m1 := hm.drew
  obtain ⟨g, cap, rfl, _, hgs, _, _, hgf, hgc⟩ := hm.own.at h0
  have c0 : cel w g 0 = some (ptr (f 0)) := by rw [hgc 0 (by omega), List.getElem?_map, List.getElem?_range h0]; rfl
  have it := hm.it 0 h0
  have ix0 : ∀ {b o c : Nat} {k : Value → Prop}, pur Tryz.prog (Instr.indexAt 30 (.slice (some ⟨b, o, none⟩) n c) (.int .i64 0)) k = k (.pointer (some ⟨b, o + 0, none⟩)) := fun {b o c k} => ix_30 (i := 0) (kd := .i64) h0
  simp only [ptr] at c0
  simp only [stp, Nat.reduceAdd, Int.reduceLT, Int.reduceLE, Int.reduceEq, Int.reduceNe, ne_eq, bne_self_eq_false, beq_self_eq_true, hnt, decide_false, cel_drew, hm.l, ix0, Nat.add_zero, c0, it.id, Option.isSome_some, Option.getD_some]
  refine cancel_hit m1 h0 fun w' sl' f' n' hn' m' hh p' k' => ?_
  exact hq _ _ _ _ hn' m' hh p' ((Keep.refl F w).drew.trans k')
end
end Go.Proofs.YtndjohbbaplekaaGreatH.Hi
