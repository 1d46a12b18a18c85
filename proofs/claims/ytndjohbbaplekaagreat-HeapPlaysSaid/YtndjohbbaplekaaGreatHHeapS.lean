/- The document's own heap: putting, taking out; the heap's At. Conditions: as each says. -/
import Derived.Test.YtndjohbbaplekaaGreatHHeapR
set_option linter.unusedSimpArgs false
set_option linter.unusedVariables false
namespace Go.Proofs.YtndjohbbaplekaaGreatH
open Go.Sh
set_option maxRecDepth 100000
section
variable {w w' : World} {Q : Value → World → Prop} {B r last : Nat} {sl : Value} {L A C D : List Wt} {s : Wt} {x : Int}
theorem hout_c {k : Nat} (h : RH w B r sl L last) (hB : B ≤ siz w) (hk : k < L.length) (hl : L.length ≤ 90000)
    (hq : ∀ w' sl', RH w' B r sl' (L.take k ++ L.drop (k + 1)) last → (∀ g, sl'.ownBlock = some g → siz w ≤ g) → Keep (fun g => g = r) w w' → Q (.tuple #[]) w') :
    callS Tryz.prog 13 #[.pointer (some ⟨r, 0, none⟩), .int .i64 (k : Int)] Q w := by
  refine ref13 ?_
  unfold S13
  have hwi : IntKind.i64.wrap ((k : Int) + 1) = ((k + 1 : Nat) : Int) := wrap_succ (by omega)
  have hd := h.keep0 ((K0.refl w).drew)
  obtain ⟨p1, c1, _, _, _, e1, _, _, rA, _⟩ := hd.cuts (k := k) (by omega)
  obtain ⟨_, _, p2, m2, c2, _, e2, hm2, _, rC⟩ := hd.cuts (k := k + 1) (by omega)
  have hBd : B ≤ siz w.drew := hB
  refine jn0 (fun w' => ∃ sl', RH w' B r sl' (L.take k ++ L.drop (k + 1)) last ∧ (∀ g, sl'.ownBlock = some g → siz w ≤ g) ∧ Keep (fun g => g = r) w w') (fun J hJ => ?_) (fun w' ⟨sl', a1, a2, a3⟩ _j => hq w' sl' a1 a2 a3)
  simp only [pur_nil, fa_29_0, pur_add, hwi]
  have fin : ∀ {u : World} {v : Value} {X}, HW w.drew X (some (v, L.take k ++ L.drop (k + 1))) (0, 0, 0) u → act Tryz.prog (thenU (Instr.storeAt 27 (.pointer (some ⟨r, 0, none⟩)) v)) (fun _ w_7 => J w_7) u := fun {u v X} hu =>
    HW.fin hd hBd hu fun w' a1 a2 a3 => hJ _ ⟨_, a1, a2, ((Keep.refl (fun g => g = r) w).drew).trans a3⟩
  have iu := HW.init (u0 := w.drew) (s := (0, 0, 0))
  have lk : (L.take k).length = k := by rw [List.length_take]; omega
  have ld : (L.drop (k + 1)).length = L.length - (k + 1) := List.length_drop
  clear hJ hq
  repeat' first
    | with_reducible refine And.intro ?_ ?_
    | with_reducible refine HW.ldL (by assumption) hd ?_
    | with_reducible rw [e1]
    | with_reducible rw [e2]
    | with_reducible refine HW.apA (by assumption) rA lk.symm (by omega) fun v u' hu' => ?_
    | with_reducible refine HW.apC (by assumption) rC hm2 (by omega) fun v u' hu' => ?_
    | with_reducible exact fin (by assumption)
set_option maxHeartbeats 2000000 in
theorem hput_c {at_ v : Int} {k : Nat} (h : RH w B r sl L last) (hB : B ≤ siz w) (hl : L.length ≤ 90000) (hlast : last ≤ 90000) (hk : k ≤ L.length) (h1 : ∀ i (hi : i < L.length), i < k → L[i].1 ≤ at_) (h2 : ∀ hi : k < L.length, at_ < L[k].1)
    (hq : ∀ w' sl', RH w' B r sl' (L.take k ++ [(at_, last + 1, v)] ++ L.drop k) (last + 1) → (∀ g, sl'.ownBlock = some g → siz w ≤ g) → Keep (fun g => g = r) w w' → Q (.int .i64 ((last + 1 : Nat) : Int)) w') :
    callS Tryz.prog 11 #[.pointer (some ⟨r, 0, none⟩), .int .i64 at_, .int .i64 v] Q w := by
  refine ref11 ?_
  unfold S11
  have c1 : Sh.cel w r 1 = some (.int .i64 (last : Int)) := cel_b h.c 1
  have hw1 : IntKind.i64.wrap ((last : Int) + 1) = ((last + 1 : Nat) : Int) := wrap_succ (by omega)
  have fr := fre_b h.c
  simp only [pur_nil, fa_29_0, fa_29_1]
  rw [ld_3 (by rw [c1]; rfl), c1, Option.getD_some, pur_add, hw1, st_3 one_int (by rw [c1]; rfl) fr]
  have hrlt := h.lt
  have ks : Keep (fun g => g = r) w (sto w r 1 (.int .i64 ((last + 1 : Nat) : Int))) := (Keep.refl (fun g => g = r) w).sto (.inl rfl) _ _
  have h0 : RH (sto w r 1 (.int .i64 ((last + 1 : Nat) : Int))) B r sl L (last + 1) := ⟨by rw [blk_sto h.c]; rfl, h.o.keep ks fun q hq e => h.sl_ne q hq e⟩
  have s0 : siz (sto w r 1 (.int .i64 ((last + 1 : Nat) : Int))) = siz w := siz_sto
  generalize sto w r 1 (.int .i64 ((last + 1 : Nat) : Int)) = w1 at ks h0 s0
  have c0 : Sh.cel w1 r 0 = some sl := cel_b h0.c 0
  obtain ⟨pa, ca, hsl⟩ := h.o.form
  have ln : ∀ {k' : Value → Prop}, pur Tryz.prog (Builtin.len_ #[27] 3 #[sl]) k' = k' (.int .i64 (L.length : Int)) := by intro k'; rw [hsl]; exact ln_27
  refine lpc1 k (by omega) (fun i w' => w' = w1) rfl (fun i w' hi e J hJ => ?_) (fun w' e J => ?_)
  · intro _j
    subst e
    have hil : i < L.length := by omega
    have hi' : ((i : Int) < (L.length : Int)) := by omega
    obtain ⟨g, c, e, p0, p1, p2⟩ := h0.at hil
    have hle := h1 i hil hi
    have ix : ∀ {k' : Value → Prop}, pur Tryz.prog (Instr.indexAt 27 sl (.int .i64 (i : Int))) k' = k' (.pointer (some ⟨g, i * 3, none⟩)) := by intro k'; rw [e, ix_27 hil, Nat.zero_add]
    simp only [stp, Nat.reduceAdd, Int.reduceLT, Int.reduceLE, Int.reduceEq, Int.reduceNe, ne_eq, bne_self_eq_false, beq_self_eq_true, stm, c0, ln, ix, hi', p0, hle, Option.isSome_some, Option.getD_some]
    exact hJ _ rfl
  intro _j
  subst e
  have hd := h0.keep0 ((K0.refl w').drew)
  obtain ⟨p1, c1', p2, m2, c2, e1, e2, hm2, rA, rC⟩ := hd.cuts (k := k) (by omega)
  have hBd : B ≤ siz w'.drew := by show B ≤ siz w'; omega
  have lk : (L.take k).length = k := by rw [List.length_take]; omega
  have ld : (L.drop k).length = L.length - k := List.length_drop
  have lk2 : (L.take k ++ [((at_, last + 1, v) : Wt)]).length = k + 1 := by rw [List.length_append, lk]; rfl
  have iu := HW.init (u0 := w'.drew) (s := (at_, last + 1, v))
  have hgo : ∀ (J_1 : Cur 0), (∀ w'' sl', RH w'' B r sl' (L.take k ++ [(at_, last + 1, v)] ++ L.drop k) (last + 1) → (∀ g, sl'.ownBlock = some g → siz w ≤ g) → Keep (fun g => g = r) w w'' → J_1 w'') →
      ∀ {u : World} {v' : Value} {X}, HW w'.drew X (some (v', L.take k ++ [(at_, last + 1, v)] ++ L.drop k)) (at_, last + 1, v) u → act Tryz.prog (thenU (Instr.storeAt 27 (.pointer (some ⟨r, 0, none⟩)) v')) (fun _ w_7 => J_1 w_7) u := fun J_1 hJ {u v' X} hu =>
    HW.fin hd hBd hu fun w'' a1 a2 a3 => hJ _ _ a1 (fun g hg => by have := a2 g hg; have e : siz w'.drew = siz w' := rfl; omega) (ks.trans (((Keep.refl (fun g => g = r) w').drew).trans a3))
  by_cases hkl : k < L.length
  case' pos =>
    have hi' : ((k : Int) < (L.length : Int)) := by omega
    obtain ⟨g, c, e, p0, p1, p2⟩ := h0.at hkl
    have hle : ¬ (L[k].1 ≤ at_) := by have := h2 hkl; omega
    have ix : ∀ {k' : Value → Prop}, pur Tryz.prog (Instr.indexAt 27 sl (.int .i64 (k : Int))) k' = k' (.pointer (some ⟨g, k * 3, none⟩)) := by intro k'; rw [e, ix_27 hkl, Nat.zero_add]
    rw [ld_27 (by rw [c0]; rfl), c0, Option.getD_some]
    simp only [ln, pur_lss, hi', decide_true, gd_hit, pur_nil, fa_29_0]
    rw [ld_27 (by rw [c0]; rfl), c0, Option.getD_some]
    simp only [gd_hit, ix, fa_58_0]
    rw [ld_3 (by rw [p0]; rfl), p0, Option.getD_some]
    simp only [gd_hit, pur_leq, hle, decide_false, pur_pick_t, condS_false]
  case' neg =>
    have hi' : ¬ ((k : Int) < (L.length : Int)) := by omega
    rw [ld_27 (by rw [c0]; rfl), c0, Option.getD_some]
    simp only [ln, pur_lss, hi', decide_false, gd_ft, gd_undef, pur_pick_f, condS_false]
  all_goals
    refine jn0 (fun w' => ∃ sl', RH w' B r sl' (L.take k ++ [(at_, last + 1, v)] ++ L.drop k) (last + 1) ∧ (∀ g, sl'.ownBlock = some g → siz w ≤ g) ∧ Keep (fun g => g = r) w w') (fun J_1 hJ => ?_) ?_
    · have fin := fun {u : World} {v' : Value} {X : Option Value} => @hgo J_1 (fun w'' sl'' a1 a2 a3 => hJ _ ⟨_, a1, a2, a3⟩) u v' X
      clear hJ hq hgo
      repeat' first
        | with_reducible refine And.intro ?_ ?_
        | with_reducible refine HW.ldL (by assumption) hd ?_
        | with_reducible refine HW.ldI (by assumption) hd ?_
        | with_reducible rw [e1]
        | with_reducible rw [e2]
        | with_reducible rw [bd_58_0_1_2 one_int one_int one_int]
        | with_reducible refine HW.bld' (by assumption) fun v u' hu' => ?_
        | with_reducible refine HW.apA (by assumption) rA lk.symm (by omega) fun v u' hu' => ?_
        | with_reducible refine HW.apX (by assumption) (by omega) fun v u' hu' => ?_
        | with_reducible refine HW.apC (by assumption) rC hm2 (by omega) fun v u' hu' => ?_
        | with_reducible exact fin (by assumption)
    · rintro w2 ⟨sl', a1, a2, a3⟩ _j
      have c12 : Sh.cel w2 r 1 = some (.int .i64 ((last + 1 : Nat) : Int)) := cel_b a1.c 1
      simp only [stp, Nat.reduceAdd, Int.reduceLT, Int.reduceLE, Int.reduceEq, Int.reduceNe, ne_eq, bne_self_eq_false, beq_self_eq_true, stm, c12, Option.isSome_some, Option.getD_some]
      exact hq _ _ a1 a2 a3
end
section
open Go.Sh.Hp
variable {F : Nat → Prop} {w : World} {h : Nat} {sl : Value} {mo : Option Nat} {last n : Nat} {f : Nat → It} {Q : Value → World → Prop}
theorem at_miss {i : Int} (hm : Mem 155 F w h sl mo last n f) (hi : ∀ k, k < n → ((f k).id : Int) ≠ i) (hq : Q (.tuple #[.int .i64 0, .bool false]) w) :
    callS Tryz.prog 16 #[.pointer (some ⟨h, 0, none⟩), .int .i64 i] Q w := by
  refine ref16 ?_
  unfold S16
  have hmm := hm.m
  rcases hm.kv with ⟨rfl, rfl⟩ | ⟨m, l, rfl, hl, hp⟩
  · simp only [stp, Nat.reduceAdd, Int.reduceLT, Int.reduceLE, Int.reduceEq, Int.reduceNe, ne_eq, bne_self_eq_false, beq_self_eq_true, hmm, Option.isSome_some, Option.getD_some]
    rw [rd_eq (lun_31 ⟨i, rfl⟩ false)]
    simp only [Bool.false_eq_true, if_false, stp, Nat.reduceAdd, Int.reduceLT, Int.reduceLE, Int.reduceEq, Int.reduceNe, ne_eq, bne_self_eq_false, beq_self_eq_true]
    exact hq
  · simp only [stp, Nat.reduceAdd, Int.reduceLT, Int.reduceLE, Int.reduceEq, Int.reduceNe, ne_eq, bne_self_eq_false, beq_self_eq_true, hmm, Option.isSome_some, Option.getD_some]
    rw [rd_eq (lu_31 hl (Mem.okKv hp) ⟨i, rfl⟩ false), Mem.kvMiss hp hi]
    simp only [Bool.false_eq_true, if_false, Option.getD_none, stp, Nat.reduceAdd, Int.reduceLT, Int.reduceLE, Int.reduceEq, Int.reduceNe, ne_eq, bne_self_eq_false, beq_self_eq_true]
    exact hq
theorem at_hit {k : Nat} (hm : Mem 155 F w h sl mo last n f) (hk : k < n) (hq : ∀ w', Keep (fun _ => False) w w' → Q (.tuple #[.int .i64 (f k).t, .bool true]) w') :
    callS Tryz.prog 16 #[.pointer (some ⟨h, 0, none⟩), .int .i64 ((f k).id : Int)] Q w := by
  refine ref16 ?_
  unfold S16
  have hmm := hm.m
  rcases hm.kv with ⟨_, h0⟩ | ⟨m, l, rfl, hl, hp⟩
  · omega
  have it := hm.it k hk
  have lk : ∀ {w' : World} {Q' : Value → Prop}, mp w' m = some l → rd Tryz.prog (Instr.lookup 31 (.map (some m)) (.int .i64 ((f k).id : Int)) false) Q' w' = Q' (.pointer (some ⟨(f k).b, 0, none⟩)) := fun {w' Q'} hl' => by
    rw [rd_eq (lu_31 hl' (Mem.okKv hp) ⟨_, rfl⟩ false), hm.kvHit hp hk]; rfl
  have hit := it.t
  simp only [stp, Nat.reduceAdd, Int.reduceLT, Int.reduceLE, Int.reduceEq, Int.reduceNe, ne_eq, bne_self_eq_false, beq_self_eq_true, hmm, cel_drew, Option.isSome_some, Option.getD_some, lk hl, lk (w' := w.drew) hl, hit]
  first
    | exact hq _ (Keep.refl _ _)
    | exact hq _ (Keep.refl _ _).drew
end
end Go.Proofs.YtndjohbbaplekaaGreatH
