/- The heap of values of type int: what its functions do. Conditions: the heap lies in memory as 'Mem' says. -/
import Derived.Test.YtndjohbbaplekaaGreatHHeapUi
set_option linter.unusedSimpArgs false
set_option linter.unusedVariables false
namespace Go.Proofs.YtndjohbbaplekaaGreatH.Hi
open Go.Sh Go.Sh.Hp
set_option maxRecDepth 100000
section
variable {F : Nat → Prop} {w : World} {h : Nat} {sl : Value} {mo : Option Nat} {last n : Nat} {f : Nat → It} {Q : Value → World → Prop}

theorem new_c (hF : F (siz w)) (hq : ∀ w' f, Mem 155 F w' (siz w) (.slice none 0 0) none 0 0 f → Keep (fun _ => False) w w' → Q (.pointer (some ⟨siz w, 0, none⟩)) w') : callS Tryz.prog 9 #[] Q w := by
  refine ref9 ?_
  unfold S9
  simp only [stp, Nat.reduceAdd, Int.reduceLT, Int.reduceLE, Int.reduceEq, Int.reduceNe, ne_eq, bne_self_eq_false, beq_self_eq_true]
  refine hq _ (fun _ => ⟨0, 0, 0, undef⟩) ?_ ((Keep.refl _ w).alloc _)
  refine ⟨hF, by simp, by omega, fun g hg => (by cases hg), ?_, ?_, ?_, fre_alloc_new, Own.nil _ _ _ _, by omega, .inl ⟨rfl, rfl⟩, by omega, by omega, fun g hg => (by cases hg), by omega, by omega, by omega⟩
  all_goals rw [cel_alloc_new]; rfl

theorem len_c (hm : Mem 155 F w h sl mo last n f) (hq : Q (.int .i64 (n : Int)) w) : callS Tryz.prog 21 #[.pointer (some ⟨h, 0, none⟩)] Q w := by
  refine ref21 ?_
  unfold S21
  obtain ⟨a, c, e⟩ := hm.own.form
  simp only [stp, Nat.reduceAdd, Int.reduceLT, Int.reduceLE, Int.reduceEq, Int.reduceNe, ne_eq, bne_self_eq_false, beq_self_eq_true, hm.l, Option.isSome_some, Option.getD_some, e]
  exact hq

theorem first_none (hm : Mem 155 F w h sl mo last 0 f) (hq : Q (.tuple #[.int .i64 0, (.int .i64 0), .bool false]) w) : callS Tryz.prog 17 #[.pointer (some ⟨h, 0, none⟩)] Q w := by
  refine ref17 ?_
  unfold S17
  refine len_c hm ?_
  have : ((0 : Nat) : Int) = 0 := rfl
  simp only [stp, Nat.reduceAdd, Int.reduceLT, Int.reduceLE, Int.reduceEq, Int.reduceNe, ne_eq, bne_self_eq_false, beq_self_eq_true, this]
  exact hq
theorem first_c (hm : Mem 155 F w h sl mo last n f) (hn : 0 < n) (hq : Q (.tuple #[.int .i64 (f 0).t, (f 0).v, .bool true]) w.drew) : callS Tryz.prog 17 #[.pointer (some ⟨h, 0, none⟩)] Q w := by
  refine ref17 ?_
  unfold S17
  refine len_c hm ?_
  have hne : ¬ ((n : Int) = 0) := by omega
  obtain ⟨g, cap, rfl, _, hgs, _, _, hgf, hgc⟩ := hm.own.at hn
  have c0 : cel w g 0 = some (ptr (f 0)) := by rw [hgc 0 (by omega), List.getElem?_map, List.getElem?_range hn]; rfl
  have it := hm.it 0 hn
  have ix0 : ∀ {b o c : Nat} {k : Value → Prop}, pur Tryz.prog (Instr.indexAt 30 (.slice (some ⟨b, o, none⟩) n c) (.int .i64 0)) k = k (.pointer (some ⟨b, o + 0, none⟩)) := fun {b o c k} => ix_30 (i := 0) (kd := .i64) hn
  simp only [ptr] at c0
  simp only [stp, Nat.reduceAdd, Int.reduceLT, Int.reduceLE, Int.reduceEq, Int.reduceNe, ne_eq, bne_self_eq_false, beq_self_eq_true, hne, decide_false, cel_drew, hm.l, ix0, Nat.add_zero, c0, it.t, it.v, Option.isSome_some, Option.getD_some]
  exact hq

theorem put_c {at_ : Int} {v : Value} (hm : Mem 155 F w h sl mo last n f) (hF : ∀ b, siz w ≤ b → F b) (hv : one v = true) (hb : last + 1 ≤ 1000000)
    (hq : ∀ w' sl' m' f' b, Mem 155 F w' h sl' (some m') (last + 1) (n + 1) f' → (Heap n f → Heap (n + 1) f') → (items (n + 1) f').Perm (⟨b, at_, last + 1, v⟩ :: items n f) → Keep F w w' → Q (.int .i64 ((last + 1 : Nat) : Int)) w') :
    callS Tryz.prog 10 #[.pointer (some ⟨h, 0, none⟩), .int .i64 at_, v] Q w := by
  refine ref10 ?_
  unfold S10
  simp only [stp, Nat.reduceAdd, Int.reduceLT, Int.reduceLE, Int.reduceEq, Int.reduceNe, ne_eq, bne_self_eq_false, beq_self_eq_true]
  refine jn0 (fun w' => ∃ m, Mem 155 F w' h sl (some m) last n f ∧ Keep F w w') (fun J hJ => ?_) ?_
  · have hmm := hm.m
    rcases hm.kv with ⟨rfl, rfl⟩ | ⟨m, l, rfl, _, _⟩
    · simp only [stp, Nat.reduceAdd, Int.reduceLT, Int.reduceLE, Int.reduceEq, Int.reduceNe, ne_eq, bne_self_eq_false, beq_self_eq_true, hmm, Option.isSome_some, Option.getD_some, Option.isNone_none]
      generalize hw1 : w.alloc _ = w1
      have k1 : Keep (fun _ => False) w w1 := hw1 ▸ (Keep.refl _ w).alloc _
      have m1 := hm.still k1
      have mp1 : mp w1 (siz w) = some [] := by rw [← hw1, mp, blk_alloc_new]; rfl
      have hlt := fre_lt hm.fh
      have c1 : (cel w1 h 1).isSome = true := by rw [m1.m]; rfl
      have f1 := m1.fh
      simp only [stp, Nat.reduceAdd, Int.reduceLT, Int.reduceLE, Int.reduceEq, Int.reduceNe, ne_eq, bne_self_eq_false, beq_self_eq_true, c1, f1]
      refine hJ _ ⟨siz w, ?_, (k1.none).sto (.inl hm.Fh) _ _⟩
      have cE : ∀ b o, ¬ (b = h ∧ o = 1) → cel (sto w1 h 1 (.map (some (siz w)))) b o = cel w1 b o := fun b o h => cel_sto_ne h
      refine ⟨hm.Fh, fun m e => ?_, by omega, hm.Fs, ?_, cel_sto_same c1, ?_, ?_, ?_, by omega, .inr ⟨siz w, [], rfl, ?_, List.Perm.refl _⟩, by omega, by omega, fun g hg => ⟨(hm.sb g hg).1, by omega⟩, by omega, by omega, hm.big⟩
      · injection e with e; subst e; exact hF _ (Nat.le_refl _)
      · rw [cE _ _ (by omega)]; exact m1.l
      · rw [cE _ _ (by omega)]; exact m1.z
      · rw [fre_sto]; exact m1.fh
      · exact m1.own.keep (F := fun b => b = h) ((Keep.refl (fun b => b = h) _).sto (b := h) (.inl rfl) _ _) fun g hg e => (hm.sb g hg).1 e
      · rw [mp, blk_sto_ne (by omega)]; exact mp1
    · simp only [stp, Nat.reduceAdd, Int.reduceLT, Int.reduceLE, Int.reduceEq, Int.reduceNe, ne_eq, bne_self_eq_false, beq_self_eq_true, hmm, Option.isSome_some, Option.getD_some, Option.isNone_some]
      exact hJ _ ⟨m, hm, Keep.refl _ _⟩
  · rintro w3 ⟨m, m3, k3⟩ _
    have s3 := k3.size
    rcases m3.kv with ⟨hc, _⟩ | ⟨m', l, he, hl, hp⟩
    · cases hc
    injection he with he
    subst he
    have hw1 : IntKind.i64.wrap ((last : Int) + 1) = ((last + 1 : Nat) : Int) := by rw [wrap_id (by omega) (by omega)]; omega
    have z3 := m3.z
    have f3 := m3.fh
    simp only [stp, Nat.reduceAdd, Int.reduceLT, Int.reduceLE, Int.reduceEq, Int.reduceNe, ne_eq, bne_self_eq_false, beq_self_eq_true, z3, f3, Option.isSome_some, Option.getD_some, hw1]
    have m4 := m3.bump hb
    have k34 : Keep F w3 (sto w3 h 2 (.int .i64 ((last + 1 : Nat) : Int))) := (Keep.refl F w3).sto (.inl hm.Fh) _ _
    have hmf3 := mp_fre hl
    have hl4 : mp (sto w3 h 2 (.int .i64 ((last + 1 : Nat) : Int))) m = some l := by
      rw [mp, blk_sto_ne (fun e => by subst e; rw [m3.fh] at hmf3; cases hmf3)]; exact hl
    have s4 : siz w3 ≤ siz (sto w3 h 2 (.int .i64 ((last + 1 : Nat) : Int))) := k34.size
    generalize sto w3 h 2 (.int .i64 ((last + 1 : Nat) : Int)) = w4 at m4 k34 hl4 s4
    obtain ⟨sa, sc, hsf⟩ := m4.own.form
    have l4 := m4.l
    have z4 := m4.z
    have ln : ∀ {k : Value → Prop}, pur Tryz.prog (Builtin.len_ #[30] 3 #[sl]) k = k (.int .i64 (n : Int)) := by intro k; rw [hsf]; exact ln_30
    simp only [stp, Nat.reduceAdd, Int.reduceLT, Int.reduceLE, Int.reduceEq, Int.reduceNe, ne_eq, bne_self_eq_false, beq_self_eq_true, cel_drew, l4, z4, Option.isSome_some, Option.getD_some, ln, hv, siz_drew, Value.cells]
    generalize hw5 : w4.drew.alloc _ = w5
    have k5 : Keep (fun _ => False) w4 w5 := hw5 ▸ (Keep.refl _ w4).drew.alloc _
    have m5 := m4.still k5
    have s5 : siz w5 = siz w4 + 1 := by rw [← hw5, siz_alloc, siz_drew]
    have x0 : cel w5 (siz w4) 0 = some (.int .i64 at_) := by rw [← hw5]; exact cel_alloc_new (w := w4.drew)
    have x1 : cel w5 (siz w4) 1 = some (.int .i64 ((last + 1 : Nat) : Int)) := by rw [← hw5]; exact cel_alloc_new (w := w4.drew)
    have x2 : cel w5 (siz w4) 2 = some v := by rw [← hw5]; exact cel_alloc_new (w := w4.drew)
    have x3 : cel w5 (siz w4) 3 = some (.int .i64 (n : Int)) := by rw [← hw5]; exact cel_alloc_new (w := w4.drew)
    have xf : fre w5 (siz w4) = true := by rw [← hw5]; exact fre_alloc_new (w := w4.drew)
    have hx : Hp.Item w5 ⟨siz w4, at_, last + 1, v⟩ n := ⟨x0, x1, x2, x3, xf, hv⟩
    have hl5 : mp w5 m = some l := by rw [mp, k5.block m (mp_lt hl4) id]; exact hl4
    have l5 := m5.l
    simp only [stp, Nat.reduceAdd, Int.reduceLT, Int.reduceLE, Int.reduceEq, Int.reduceNe, ne_eq, bne_self_eq_false, beq_self_eq_true, l5, Option.isSome_some, Option.getD_some]
    have hbig := m3.big
    refine pu_30 m5.own (by simp [one]) (by omega) (Nat.zero_le _) fun sl' w7 o7 k7 hs7 => ?_
    have hhlt := fre_lt m4.fh
    have hoh : ¬ sl.ownBlock = some h := fun e => (m5.sb h e).1 rfl
    have hox : ¬ sl.ownBlock = some (siz w4) := fun e => by have := (m4.own.lt e).2; omega
    have l7 : (cel w7 h 0).isSome = true := by rw [k7.cel l5 hoh]; rfl
    have f7 := k7.fre m5.fh hoh
    obtain ⟨g, cap, rfl, _, _, _, _, _, _⟩ := o7.at (by omega)
    simp only [stp, Nat.reduceAdd, Int.reduceLT, Int.reduceLE, Int.reduceEq, Int.reduceNe, ne_eq, bne_self_eq_false, beq_self_eq_true, l7, f7]
    have mp8 : mp (sto w7 h 0 (.slice (some ⟨g, 0, none⟩) (n + 1) cap)) m = some l := by
      have hmf := mp_fre hl5
      have om : ¬ sl.ownBlock = some m := fun e => by rw [m5.own.fre e] at hmf; cases hmf
      have hmh : m ≠ h := fun e => by subst e; rw [m5.fh] at hmf; cases hmf
      rw [mp, blk_sto_ne hmh, k7.block m (mp_lt hl5) om]; exact hl5
    have m8 : cel (sto w7 h 0 (.slice (some ⟨g, 0, none⟩) (n + 1) cap)) h 1 = some (.map (some m)) := by rw [cel_sto_ne (by omega)]; exact k7.cel m5.m hoh
    have x8 : ∀ {o u}, cel w5 (siz w4) o = some u → cel (sto w7 h 0 (.slice (some ⟨g, 0, none⟩) (n + 1) cap)) (siz w4) o = some u := fun hc => by rw [cel_sto_ne (by omega)]; exact k7.cel hc hox
    have x81 := x8 x1
    simp only [stp, Nat.reduceAdd, Int.reduceLT, Int.reduceLE, Int.reduceEq, Int.reduceNe, ne_eq, bne_self_eq_false, beq_self_eq_true, cel_drew, m8, x81, Option.isSome_some, Option.getD_some]
    refine mu_31 (w := (sto w7 h 0 (.slice (some ⟨g, 0, none⟩) (n + 1) cap)).drew) mp8 (Mem.okKv hp) ⟨_, rfl⟩ fun w9 hw9 => ?_
    have hw9' : MapTo (sto w7 h 0 (.slice (some ⟨g, 0, none⟩) (n + 1) cap)) w9 m (aput (.int .i64 ((last + 1 : Nat) : Int)) (.pointer (some ⟨siz w4, 0, none⟩)) l) := ⟨hw9.os, hw9.tape, hw9.output, hw9.size, hw9.map, hw9.block⟩
    obtain ⟨m9, k9⟩ := Mem.push (x := ⟨siz w4, at_, last + 1, v⟩) m5 hx (hF (siz w4) (by omega)) rfl (fun k hk => by have := (m3.ids k hk).2; omega) (by omega) (by omega)
      (fun k hk e => by have h1 := fre_lt (m4.it k hk).fre; have h2 : (f k).b = siz w4 := e; omega) (show siz w4 ≠ h by omega) (fun g' hg' e => hox (by rw [hg', e]))
      o7 k7 hs7 (fun b hb => hF b (by omega)) hl5 hp hw9'
    have x9 : cel w9 (siz w4) 3 = some (.int .i64 (n : Int)) := by
      have := (m9.it n (by omega)).k
      rwa [ext_n] at this
    simp only [stp, Nat.reduceAdd, Int.reduceLT, Int.reduceLE, Int.reduceEq, Int.reduceNe, ne_eq, bne_self_eq_false, beq_self_eq_true, x9, Option.isSome_some, Option.getD_some]
    refine up_c m9 (by omega) fun w10 f10 m10 p10 k10 hup _ => ?_
    obtain ⟨k, hk, hfk⟩ := mem_items.1 (p10.symm.subset (by rw [items_ext]; simp : (⟨siz w4, at_, last + 1, v⟩ : It) ∈ items (n + 1) (ext f n ⟨siz w4, at_, last + 1, v⟩)))
    have x10 : cel w10 (siz w4) 1 = some (.int .i64 ((last + 1 : Nat) : Int)) := by
      have := (m10.it k hk).id
      rwa [hfk] at this
    simp only [stp, Nat.reduceAdd, Int.reduceLT, Int.reduceLE, Int.reduceEq, Int.reduceNe, ne_eq, bne_self_eq_false, beq_self_eq_true, x10, Option.isSome_some, Option.getD_some]
    refine hq _ _ _ _ (siz w4) m10 (fun hh => hup (push_pre hh)) ?_ (((k3.trans k34).trans k5.none).trans (k9.trans k10))
    rw [items_ext] at p10
    exact p10.trans (List.perm_append_comm (l₂ := [_]))
end
end Go.Proofs.YtndjohbbaplekaaGreatH.Hi
