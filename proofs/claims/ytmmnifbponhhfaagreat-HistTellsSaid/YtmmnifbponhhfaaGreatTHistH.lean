/- The first call of the statements of chapter 26; HistOrder. Conditions: none. -/
import Derived.Test.YtmmnifbponhhfaaGreatTHistG
set_option linter.unusedSimpArgs false
set_option linter.unusedVariables false
namespace Go.Proofs.YtmmnifbponhhfaaGreatT
open Go.Sh Go.Sh.Hi
set_option maxRecDepth 100000
section
variable {w w' : World} {Q : Value → World → Prop} {l : List Ev} {v : Value}
theorem alive_judge {o : ByteArray} {v1 v2 : Value} (N0 : Value) : errF [⟨1, 1, 1, 1, N0, v1, [], [(1, 0, o)]⟩, ⟨3, 1, 1, 0, N0, N0, [], []⟩, ⟨1, 2, 2, 0, v2, N0, [(1, 0, Z96)], []⟩] = 0 ∧
    judgeF Z96 [⟨1, 1, 1, 1, N0, v1, [], [(1, 0, o)]⟩, ⟨3, 1, 1, 0, N0, N0, [], []⟩, ⟨1, 2, 2, 0, v2, N0, [(1, 0, Z96)], []⟩] = true := by
  have hm : max (0 : Int) 1 = 1 := rfl
  refine ⟨by simp [errF, cutsR, leastF, mostF, maxL, same, waysF, kindsF, hm], ?_⟩
  refine judge_yes (N := 0) (prodL_pos (lensF_pos _)) ?_
  have hr : (List.range ((1 : Int) + 1).toNat).map (fun k => ((k : Nat) : Int)) = [0, 1] := rfl
  have hc : cutsAt [⟨1, 1, 1, 1, N0, v1, [], [(1, 0, o)]⟩, ⟨3, 1, 1, 0, N0, N0, [], []⟩, ⟨1, 2, 2, 0, v2, N0, [(1, 0, Z96)], []⟩] 0 = [0] := by
    simp [cutsAt, choicesF, cutsR, leastF, mostF, maxL, same, rangeF, lensF, dig, pickF, hm]
  rw [hc]
  simp [Hi.okF, playF, runF, Hi.stepF, cutsAt, choicesF, cutsR, leastF, mostF, maxL, same, rangeF, lensF, dig, pickF, aloneF, readsF, writeF, arGet, arPut, greatF, keepB, List.range, List.range.loop]
theorem alive_judge2 {o : ByteArray} {v1 : Value} (N0 : Value) (ho : Z96 ≠ o) : errF [⟨4, 0, 0, 0, v1, N0, [(1, 0, o)], []⟩] = 0 ∧ judgeF Z96 [⟨4, 0, 0, 0, v1, N0, [(1, 0, o)], []⟩] = false := by
  refine ⟨by simp [errF, cutsR, leastF, mostF, maxL, same, waysF, kindsF], ?_⟩
  simp [judgeF, Hi.okF, playF, runF, Hi.stepF, cutsAt, choicesF, cutsR, leastF, mostF, maxL, same, rangeF, lensF, dig, pickF, prodL, aloneF, readsF, writeF, arGet, arPut, greatF, keepB, List.range, List.range.loop, ho]
theorem rlI {b : Nat} {i : Im} (hb : Sh.blk w b = some (.cells #[.int .i64 i.1, .int .u64 i.2.1, .string i.2.2] tIm)) : (Instr.loadAt tIm (.pointer (some ⟨b, 0, none⟩))).run Tryz.prog w = .ok (agI i) w :=
  run_loadN (n := 3) (fun w => Tryz.isAgg69 w) (fun w => Tryz.sizeOf69 w) (fun j => if j = 0 then .int .i64 i.1 else if j = 1 then .int .u64 i.2.1 else .string i.2.2) fun
    | 0, _ => cel_b hb 0
    | 1, _ => cel_b hb 1
    | 2, _ => cel_b hb 2
    | j + 3, hj => absurd hj (by omega)
theorem alive_c (hq : ∀ w', K0 w w' → Q (.bool true) w') : callS Tryz.prog 5 #[] Q w := by
  refine ref5 ?_
  unfold S5
  refine mk_zeros fun w1 g k1 hg o1 => ?_
  refine conv_zeros o1 ?_
  simp only [stp, Nat.reduceAdd, Int.reduceLT, Int.reduceLE, Int.reduceEq, Int.reduceNe, ne_eq, bne_self_eq_false, beq_self_eq_true, stm]
  have k2 := (K0.refl w1).alloc (.cells #[.int .i64 1, .int .u64 0, .string Z96] tIm)
  have b2 : Sh.blk (w1.alloc (.cells #[.int .i64 1, .int .u64 0, .string Z96] tIm)) (siz w1) = some (.cells #[.int .i64 1, .int .u64 0, .string Z96] tIm) := blk_alloc_new
  generalize w1.alloc (.cells #[.int .i64 1, .int .u64 0, .string Z96] tIm) = w2 at k2 b2
  generalize siz w1 = bz at b2
  have k02 := k1.trans k2
  have hone : Z96 ≠ oneD 1 := oneD_ne (by omega) (by omega)
  refine jn2 (fun x y u => x = .bool true ∧ y = .int .i64 0 ∧ K0 w u) (fun J hJ => ?_) ?_
  · have kd : K0 w2 w2.drew := (K0.refl w2).drew
    refine ⟨fun u => K0 w2 u, kd, ?_⟩
    refine hld_of (agI (1, 0, Z96)) (fun u hu => rlI (i := (1, 0, Z96)) (hu.blk b2 id)) ?_
    have hw1 : IntKind.u8.wrap 1 = 1 := by decide
    have fin : ∀ (u : World) (v1 v2 : Value), K0 w2 u → Rd 3 u v1 1 (flat encM [(1, 0, oneD 1)]) → Rd 3 u v2 1 (flat encM [(1, 0, Z96)]) →
        act Tryz.prog (Instr.buildSlice 22 3 #[(0, .agg #[.int .i64 1, .int .i64 1, .int .u64 1, .int .u64 1, .slice none 0 0, v1]), (1, .agg #[.int .i64 3, .int .i64 1, .int .u64 1, .int .u64 0, .slice none 0 0, .slice none 0 0]), (2, .agg #[.int .i64 1, .int .i64 2, .int .u64 2, .int .u64 0, v2, .slice none 0 0])])
          (fun t17 w_8 => K0 w2 w_8 ∧ callS Tryz.prog 18 #[t17] (fun t18 w_9 => K0 w2 w_9 ∧ pur Tryz.prog (Instr.extract t18 0) fun t19 => pur Tryz.prog (Instr.extract t18 1) fun t20 => J t19 t20 w_9) w_8) u := fun u v1 v2 ku r1 r2 => by
      refine bld_ev3 (e := ⟨1, 1, 1, 1, .slice none 0 0, v1, [], [(1, 0, oneD 1)]⟩) (f := ⟨3, 1, 1, 0, .slice none 0 0, .slice none 0 0, [], []⟩) (g := ⟨1, 2, 2, 0, v2, .slice none 0 0, [(1, 0, Z96)], []⟩) fun u3 v3 k3 r3 => ⟨ku.trans k3, ?_⟩
      obtain ⟨j1, j2⟩ := alive_judge (o := oneD 1) (v1 := v1) (v2 := v2) (.slice none 0 0)
      refine judge_c r3 (by simp) (fun x hx => ?_) (fun u4 _ k4 => ?_) (fun u4 he => absurd j1 he)
      · simp only [List.mem_cons, List.not_mem_nil, or_false] at hx
        rcases hx with rfl | rfl | rfl
        · exact EvR.mk' (e := 1) (ls := 1) (by omega) (by omega) no_im (r1.keep0 k3) (by simp) (by simp) fun i hi => by rw [List.mem_singleton.1 hi]; exact ⟨⟨by decide, by decide⟩, by rw [oneD_size]; omega⟩
        · exact EvR.mk' (e := 1) (ls := 0) (by omega) (by omega) no_im no_im (by simp) (by simp) fun i hi => by cases hi
        · exact EvR.mk' (e := 2) (ls := 0) (by omega) (by omega) (r2.keep0 k3) no_im (by simp) (by simp) fun i hi => by cases hi
      · rw [j2]
        refine ⟨(ku.trans k3).trans k4, ?_⟩
        rw [pur_ext2_0, pur_ext2_1]
        exact hJ _ _ _ ⟨rfl, rfl, k02.trans ((ku.trans k3).trans k4)⟩
    refine ⟨?_, ?_⟩
    · refine one_c fun u1 k1 => ⟨kd.trans k1, ?_, ?_⟩
      · rw [hw1]
        refine bld_im fun u2 v1 k2 r1 o1 => ⟨(kd.trans k1).trans k2, ?_⟩
        rw [bd_66_0_1_2_3_5 one_int one_int one_int one_int o1]
        refine bld_im fun u3 v2 k3 r2 o2 => ⟨((kd.trans k1).trans k2).trans k3, ?_⟩
        rw [bd_66_0_1_2_4 one_int one_int one_int o2]
        exact fin u3 v1 v2 (((kd.trans k1).trans k2).trans k3) (r1.keep0 k3) r2
      · refine bld_im fun u2 v2 k2 r2 o2 => ⟨(kd.trans k1).trans k2, ?_⟩
        rw [hw1]
        refine bld_im fun u3 v1 k3 r1 o1 => ⟨((kd.trans k1).trans k2).trans k3, ?_⟩
        rw [bd_66_0_1_2_3_5 one_int one_int one_int one_int o1, bd_66_0_1_2_4 one_int one_int one_int o2]
        exact fin u3 v1 v2 (((kd.trans k1).trans k2).trans k3) r1 (r2.keep0 k3)
    · refine bld_im fun u1 v2 k1 r2 o2 => ⟨kd.trans k1, ?_⟩
      refine one_c fun u2 k2 => ⟨(kd.trans k1).trans k2, ?_⟩
      rw [hw1]
      refine bld_im fun u3 v1 k3 r1 o1 => ⟨((kd.trans k1).trans k2).trans k3, ?_⟩
      rw [bd_66_0_1_2_3_5 one_int one_int one_int one_int o1, bd_66_0_1_2_4 one_int one_int one_int o2]
      exact fin u3 v1 v2 (((kd.trans k1).trans k2).trans k3) r1 ((r2.keep0 k2).keep0 k3)
  · rintro x y u ⟨rfl, rfl, ku⟩ _j
    refine one_c fun u1 k1 => ?_
    rw [show IntKind.u8.wrap 1 = 1 by decide]
    refine bld_im fun u2 v1 k2 r1 o1 => ?_
    rw [bd_66_0_4 one_int o1]
    refine bld_ev (e := ⟨4, 0, 0, 0, v1, .slice none 0 0, [(1, 0, oneD 1)], []⟩) fun u3 v3 k3 r3 => ?_
    obtain ⟨j1, j2⟩ := alive_judge2 (o := oneD 1) (v1 := v1) (.slice none 0 0) hone
    refine judge_c r3 (by simp) (fun x hx => ?_) (fun u4 _ k4 => ?_) (fun u4 he => absurd j1 he)
    · rw [List.mem_singleton.1 hx]
      exact EvR.mk' (e := 0) (ls := 0) (by omega) (by omega) (r1.keep0 k3) no_im (by simp) (by simp) fun i hi => by cases hi
    · rw [j2]
      simp only [stp, Nat.reduceAdd, Int.reduceLT, Int.reduceLE, Int.reduceEq, Int.reduceNe, ne_eq, bne_self_eq_false, beq_self_eq_true, stm]
      exact hq _ ((((ku.trans k1).trans k2).trans k3).trans k4)
end
end Go.Proofs.YtmmnifbponhhfaaGreatT
