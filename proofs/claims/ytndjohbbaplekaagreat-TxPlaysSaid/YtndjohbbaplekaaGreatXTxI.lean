/- A transaction: what it has written, what it has read. Conditions: as each says. -/
import Derived.Test.YtndjohbbaplekaaGreatXTxS
set_option linter.unusedSimpArgs false
set_option linter.unusedVariables false
namespace Go.Proofs.YtndjohbbaplekaaGreatX
open Go.Sh Go.Proofs.YtndjohbbaplekaaGreatX.Mi
set_option maxRecDepth 100000
section
variable {w w' : World} {Q : Value → World → Prop} {B t m a b : Nat} {s : TS}
/-- A block's image: its number, its version, its bytes. -/
abbrev Im := Int × Int × ByteArray
abbrev encIm (i : Im) : List Value := [.int .i64 i.1, .int .u64 i.2.1, .string i.2.2]
theorem encIm_len (i : Im) : (encIm i).length = 3 := rfl
def imgs (l : List (Int × ByteArray)) (ks : List Int) : List Im := ks.map fun k => (k, 0, (lkp k l).getD ⟨#[]⟩)
theorem images_c {mb : Nat} {l : List (Int × ByteArray)} (hm : TM w mb l) (hn : l.length ≤ 100000) (hwf : ∀ p ∈ l, (Lit.int .i64 p.1).wf = true)
    (hq : ∀ w' v ks, List.Perm ks (l.map (·.1)) → ks.Pairwise (· ≤ ·) → Sh.Own w' (siz w) 138 3 v ks.length (flat encIm (imgs l ks)) → K0 w w' → Q v w') :
    callS Tryz.prog 190 #[.map (some mb)] Q w := by
  refine ref190 ?_
  unfold S190
  refine ref235 ?_
  unfold S235
  rw [act_box]
  generalize hw1 : w.alloc _ = w1
  have b1 : blk w1 (siz w) = some (.cells #[.map (some mb)] 208) := by rw [← hw1]; exact blk_alloc_new
  have k1 : K0 w w1 := by rw [← hw1]; exact (K0.refl w).alloc _
  have s1 := k1.size
  simp only [pur_pure]
  refine sorted_c (cel_b b1 0) (hm.keep k1 id) (by omega) hwf fun w2 v ks hp hs o2 k2 => ?_
  have k02 := k1.trans k2
  have hl : ks.length = l.length := by have := hp.length_eq; simpa using this
  obtain ⟨pa, ca, rfl⟩ := o2.form
  simp only [stp, Nat.reduceAdd, Int.reduceLT, Int.reduceLE, Int.reduceEq, Int.reduceNe, ne_eq, bne_self_eq_false, beq_self_eq_true]
  refine lpc2 ks.length (by omega) (fun i x u => K0 w u ∧ Sh.Own u (siz w1) 3 1 (.slice pa ks.length ca) ks.length (ks.map (Value.int .i64)) ∧ Sh.Own u (siz w) 138 3 x i (flat encIm ((imgs l ks).take i))) ⟨k02, o2, Own.nil _ _ _ _⟩ (fun i x u hi ⟨ku, oz, ox⟩ J hJ => ?_) (fun x u ⟨ku, oz, ox⟩ J => ?_)
  · intro _j
    have hi' : ((i : Int) < (ks.length : Int)) := by omega
    obtain ⟨g, c, e, _, _, _, _, _, hc⟩ := oz.at (by omega)
    injection e with e1 _ e2
    subst e1 e2
    have ci : Sh.cel u g i = some (.int .i64 ks[i]) := by rw [hc i (by omega), List.getElem?_map, List.getElem?_eq_getElem hi]; rfl
    have hmu := hm.keep ku id
    simp only [stp, Nat.reduceAdd, Int.reduceLT, Int.reduceLE, Int.reduceEq, Int.reduceNe, ne_eq, bne_self_eq_false, beq_self_eq_true, hi']
    rw [ix_64 hi]
    simp only [stp, Nat.reduceAdd, Int.reduceLT, Int.reduceLE, Int.reduceEq, Int.reduceNe, ne_eq, bne_self_eq_false, beq_self_eq_true, stm, ci, Option.isSome_some, Option.getD_some]
    rw [rd_eq (lu_208 (w := u) hmu.mp (kv_ok _) ⟨ks[i], rfl⟩ false)]
    simp only [Bool.false_eq_true, if_false]
    rw [aget_lkp]
    have e3 : ((lkp ks[i] l).map Value.string).getD (.string ⟨#[]⟩) = .string ((lkp ks[i] l).getD ⟨#[]⟩) := by cases lkp ks[i] l <;> rfl
    rw [e3]
    simp only [stp, Nat.reduceAdd, Int.reduceLT, Int.reduceLE, Int.reduceEq, Int.reduceNe, ne_eq, bne_self_eq_false, beq_self_eq_true, stm]
    refine pu_131 ox (fun y hy => by
      simp only [List.mem_cons, List.not_mem_nil, or_false] at hy
      rcases hy with rfl | rfl | rfl <;> rfl) (by omega) ku.size fun v' u3 o3 k3 _ => ?_
    have k3' : K0 w u3 := ku.trans' k3 fun q hq e => by have := (Sh.Own.lt ox e).1; omega
    refine hJ _ _ ⟨k3', oz.keep k3 fun q hq e => ?_, ?_⟩
    · obtain ⟨_, cs, hc1⟩ := (oz.trd (Nat.le_refl _)).2 q hq
      obtain ⟨_, cs', hc2⟩ := (ox.trd (Nat.le_refl _)).2 q e
      rw [hc1] at hc2; injection hc2 with hc2; injection hc2 with _ hc2; cases hc2
    · rw [List.take_add_one, show (imgs l ks)[i]? = some (ks[i], 0, (lkp ks[i] l).getD ⟨#[]⟩) by unfold imgs; rw [List.getElem?_map, List.getElem?_eq_getElem hi]; rfl, flat_append]
      exact o3
  · intro _j
    have hi' : ¬ ((ks.length : Int) < (ks.length : Int)) := by omega
    simp only [stp, Nat.reduceAdd, Int.reduceLT, Int.reduceLE, Int.reduceEq, Int.reduceNe, ne_eq, bne_self_eq_false, beq_self_eq_true, hi']
    have e : (imgs l ks).take ks.length = imgs l ks := List.take_of_length_le (by simp [imgs])
    rw [e] at ox
    exact hq _ _ ks hp hs ox ku
theorem twrites_c (h : TX w B t s) (hn : s.wr.length ≤ 100000) (hwf : ∀ p ∈ s.wr, (Lit.int .i64 p.1).wf = true)
    (hq : ∀ w' v ks, List.Perm ks (s.wr.map (·.1)) → ks.Pairwise (· ≤ ·) → Sh.Own w' (siz w) 138 3 v ks.length (flat encIm (imgs s.wr ks)) → K0 w w' → Q v w') :
    callS Tryz.prog 88 #[.pointer (some ⟨t, 0, none⟩)] Q w := by
  refine ref88 ?_
  unfold S88
  refine tnone_c h ?_
  obtain ⟨m, a, b, h⟩ := h
  have c6 : Sh.cel w t 6 = some (.map (some a)) := h.cel 6
  simp only [stp, Nat.reduceAdd, Int.reduceLT, Int.reduceLE, Int.reduceEq, Int.reduceNe, ne_eq, bne_self_eq_false, beq_self_eq_true, stm, c6, Option.isSome_some, Option.getD_some]
  exact images_c h.ma hn hwf hq
theorem treads_c (h : TX w B t s) (hn : s.rd.length ≤ 100000) (hwf : ∀ p ∈ s.rd, (Lit.int .i64 p.1).wf = true)
    (hq : ∀ w' v ks, List.Perm ks (s.rd.map (·.1)) → ks.Pairwise (· ≤ ·) → Sh.Own w' (siz w) 138 3 v ks.length (flat encIm (imgs s.rd ks)) → K0 w w' → Q v w') :
    callS Tryz.prog 89 #[.pointer (some ⟨t, 0, none⟩)] Q w := by
  refine ref89 ?_
  unfold S89
  refine tnone_c h ?_
  obtain ⟨m, a, b, h⟩ := h
  have c7 : Sh.cel w t 7 = some (.map (some b)) := h.cel 7
  simp only [stp, Nat.reduceAdd, Int.reduceLT, Int.reduceLE, Int.reduceEq, Int.reduceNe, ne_eq, bne_self_eq_false, beq_self_eq_true, stm, c7, Option.isSome_some, Option.getD_some]
  exact images_c h.mb hn hwf hq
end
end Go.Proofs.YtndjohbbaplekaaGreatX
