/- CacheKeeps: what is dirty stays till it is clean; there are never more blocks than have room. Conditions: as it says. -/
import Derived.Test.YtjfookddoaemfaaCacKB
set_option linter.unusedSimpArgs false
set_option linter.unusedVariables false
namespace Go.Proofs.Ytjfookddoaemfaa
open Go.Sh Go.Sh.Lrv Go.Proofs.Ytjfookddoaemfaa.Lv
set_option maxRecDepth 100000
section
variable {w w' : World} {Q : Value → World → Prop}
set_option maxHeartbeats 2000000 in
theorem keeps_law {room : Int} {pa : Option Addr} {l ca : Nat} {xs : List (List Value)} (_ : (Lit.int .i64 room).wf = true) (hl : xs.length = l) (hL : Rd 8 w (.slice pa l ca) l xs.flatten) (_ : l ≤ maxLen) (ho : ∀ x ∈ xs, AllOkW w opK x) (hq : ∀ w', Keep (fun b => siz w ≤ b) w w' → Q (.bool true) w') :
    callS Try.prog 4 #[.int .i64 room, .slice pa l ca] Q w := by
  subst hl
  refine ref4 ?_
  rw [cut4]
  unfold P4_0
  have out : callS Try.prog 7 #[] Q w := alive_c fun w2 k2 => hq _ k2.new
  by_cases g1 : room < 1
  · simp only [stp, Nat.reduceAdd, Int.reduceLT, Int.reduceLE, Int.reduceEq, Int.reduceNe, ne_eq, bne_self_eq_false, beq_self_eq_true, stm, g1]; exact out
  by_cases g2 : 60 < room
  · simp only [stp, Nat.reduceAdd, Int.reduceLT, Int.reduceLE, Int.reduceEq, Int.reduceNe, ne_eq, bne_self_eq_false, beq_self_eq_true, stm, g1, g2]; exact out
  by_cases g3 : (100 : Int) < (xs.length : Int)
  · simp only [stp, Nat.reduceAdd, Int.reduceLT, Int.reduceLE, Int.reduceEq, Int.reduceNe, ne_eq, bne_self_eq_false, beq_self_eq_true, stm, g1, g2, g3]; exact out
  simp only [stp, Nat.reduceAdd, Int.reduceLT, Int.reduceLE, Int.reduceEq, Int.reduceNe, ne_eq, bne_self_eq_false, beq_self_eq_true, stm, g1, g2, g3]
  clear out
  obtain ⟨R, rfl⟩ : ∃ R : Nat, room = (R : Int) := ⟨room.toNat, by omega⟩
  refine cnew_c (r := (R : Int)) (by omega) fun w1 c F0 h1 hcw hF0 k1 => ?_
  have h1 : CS w1 c R [] F0 := h1
  have s1 := k1.size
  simp only [stp, Nat.reduceAdd, Int.reduceLT, Int.reduceLE, Int.reduceEq, Int.reduceNe, ne_eq, bne_self_eq_false, beq_self_eq_true]
  refine lp2 (fun m x y w' => ∃ (i : Nat) (es : List En) (F : Nat → Prop) (held : List Im), y = .int .i64 (i : Int) ∧ i ≤ xs.length ∧ m = xs.length - i ∧ CS w' c R es F ∧ Hd es held ∧ RowI w' (siz w) x held ∧ (∀ g, x.ownBlock = some g → ¬ F g) ∧ (∀ b, F b → siz w ≤ b) ∧ Keep (fun b => siz w ≤ b) w w') xs.length
    ⟨0, [], F0, [], rfl, Nat.zero_le _, rfl, h1, List.Perm.refl _, Sh.Own.nil _ _ _ _, fun g hg => (by cases hg), hF0, k1.new⟩ ?_
  rintro m x y w2 ⟨i, es, F, held, rfl, hi, hm, h2, hh, o2, hv, hFw, k2⟩ J hJ _j
  subst m
  have sz2 := k2.size
  by_cases hlt : i < xs.length
  case neg =>
    have hlt' : ¬ ((i : Int) < (xs.length : Int)) := by omega
    simp only [stp, Nat.reduceAdd, Int.reduceLT, Int.reduceLE, Int.reduceEq, Int.reduceNe, ne_eq, bne_self_eq_false, beq_self_eq_true, hlt']
    refine alive_c fun w3 k3 => ?_
    exact hq _ (k2.trans k3.none)
  have hlt' : ((i : Int) < (xs.length : Int)) := by omega
  have hL2 : Rd 8 w2 (.slice pa xs.length ca) xs.length xs.flatten := hL.keep k2 fun b hb hF => by omega
  obtain ⟨b, o, rfl, p, hp, hc⟩ := op_at hL2 ho hlt
  have hix : ∀ K, pur Try.prog (Instr.indexAt 38 (.slice (some ⟨b, o, none⟩) xs.length ca) (.int .i64 (i : Int))) K = K (.pointer (some ⟨b, o + i * 8, none⟩)) := fun K => by
    rw [ix_38 hlt]
  simp only [stp, Nat.reduceAdd, Int.reduceLT, Int.reduceLE, Int.reduceEq, Int.reduceNe, ne_eq, bne_self_eq_false, beq_self_eq_true, hlt', hix]
  rw [ld_op hc]
  try simp only [stp, Nat.reduceAdd, Int.reduceLT, Int.reduceLE, Int.reduceEq, Int.reduceNe, ne_eq, bne_self_eq_false, beq_self_eq_true]
  generalize hw3 : w2.alloc _ = w3
  have b3 : blk w3 (siz w2) = some (.cells opZ.cells.toArray 43) := by rw [← hw3]; exact blk_alloc_new
  have k3 : K0 w2 w3 := by rw [← hw3]; exact (K0.refl w2).alloc _
  refine st_op b3 fun w4 k34 b4 => ?_
  have k24 : K0 w2 w4 := k3.trans' k34 fun b hb e => by omega
  have d5 : cel w4 (siz w2) 5 = some (.string p.s) := cel_b b4 5
  obtain ⟨lc, hlc, hFc, hls⟩ := h2
  have h4 : CS w4 c R es (fun b => F b ∧ b < siz w2) := ⟨lc, k24.cel hlc fun e => e, fun e => hFc e.1, hls.ltF.keep k24 fun _ _ e => e⟩
  have o4 : RowI w4 (siz w) x held := Sh.Own.keep o2 k24 fun _ _ e => e
  have k4 : Keep (fun b => siz w ≤ b) w w4 := k2.trans k24.none
  have sz4 := k24.size
  by_cases g4 : (300 : Int) < (p.s.size : Int)
  · simp only [stp, Nat.reduceAdd, Int.reduceLT, Int.reduceLE, Int.reduceEq, Int.reduceNe, ne_eq, bne_self_eq_false, beq_self_eq_true, d5, g4, Option.isSome_some, Option.getD_some]
    exact hq _ k4
  simp only [stp, Nat.reduceAdd, Int.reduceLT, Int.reduceLE, Int.reduceEq, Int.reduceNe, ne_eq, bne_self_eq_false, beq_self_eq_true, d5, g4, Option.isSome_some, Option.getD_some]
  refine keeps1 h4 (by omega) (by omega) hh o4 (by omega) (fun g hg e => hv g hg e.1) (by omega) b4 (fun e => by have := e.2; omega) (by omega) fun w5 F5 es5 vh5 held5 h5 sub5 hh5 o5 hv5 k5 => ?_
  refine hJ (xs.length - (i + 1)) _ _ _ (by omega) ⟨i + 1, es5, F5, held5, rfl, by omega, rfl, h5, hh5, o5, hv5, fun b hb => (sub5 b hb).elim (fun h => hFw b h.1) (fun h => by omega), k4.trans' k5 fun b hb e => ?_⟩
  rcases e with e | e
  · exact hFw b e.1
  · exact (Sh.Own.lt o4 e).1
end
end Go.Proofs.Ytjfookddoaemfaa
