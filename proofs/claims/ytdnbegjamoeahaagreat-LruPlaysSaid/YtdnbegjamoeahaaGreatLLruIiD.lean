/- The cache of last uses, keys int, values int: what each of its functions does. Conditions: the cache lies in memory as 'Rep' says. -/
import Derived.Test.YtdnbegjamoeahaaGreatLT
import Derived.Test.YtdnbegjamoeahaaGreatLShL
import Derived.Test.YtdnbegjamoeahaaGreatLLruB
import Derived.Test.YtdnbegjamoeahaaGreatLLruIi
set_option linter.unusedSimpArgs false
set_option linter.unusedVariables false
namespace Go.Proofs.YtdnbegjamoeahaaGreatL.Lii
open Go.Sh Go.Sh.Lru

set_option maxRecDepth 100000
section
variable {B : Nat} {w : World} {c mb room : Nat} {L : List Nd} {Q : Value → World → Prop}


theorem pinned_hit {n : Nd} (h : Rep isI64 B w c mb room L) (hn : n ∈ L) (hq : Q (.int .i64 n.p) w) : callS Tryz.prog 24 #[.pointer (some ⟨c, 0, none⟩), n.k] Q w := by
  refine ref24 ?_
  unfold S24
  refine find_hit h hn ?_
  simp only [stp, Nat.reduceAdd, Int.reduceLT, Int.reduceLE, Int.reduceEq, Int.reduceNe, ne_eq, bne_self_eq_false, beq_self_eq_true, (h.node n hn).p, Option.isSome_some, Option.getD_some]
  exact hq
theorem pinned_miss {k : Value} (h : Rep isI64 B w c mb room L) (hk : isI64 k) (hn : ∀ n ∈ L, n.k ≠ k) (hq : Q (.int .i64 0) w) :
    callS Tryz.prog 24 #[.pointer (some ⟨c, 0, none⟩), k] Q w := by
  refine ref24 ?_
  unfold S24
  refine find_miss h hk hn ?_
  simp only [stp, Nat.reduceAdd, Int.reduceLT, Int.reduceLE, Int.reduceEq, Int.reduceNe, ne_eq, bne_self_eq_false, beq_self_eq_true]
  exact hq
theorem unpin_hit {A C : List Nd} {n : Nd} (h : Rep isI64 B w c mb room (A ++ n :: C)) (hp : 0 < n.p) (hb : n.p < 4611686018427387904) (hq : ∀ w', Rep isI64 B w' c mb room (A ++ { n with p := n.p - 1 } :: C) → Keep (foot c mb (A ++ n :: C)) w w' → Q (.bool true) w') :
    callS Tryz.prog 21 #[.pointer (some ⟨c, 0, none⟩), n.k] Q w := by
  refine ref21 ?_
  unfold S21
  refine find_hit h (n := n) (by simp) ?_
  have hn := h.node n (by simp)
  have h0 : ¬ ((n.p : Int) = 0) := by omega
  simp only [stp, Nat.reduceAdd, Int.reduceLT, Int.reduceLE, Int.reduceEq, Int.reduceNe, ne_eq, bne_self_eq_false, beq_self_eq_true, hn.p, hn.fre, Option.isSome_some, Option.getD_some, h0, decide_false]
  rw [wrap_id (by omega) (by omega), show (n.p : Int) - 1 = ((n.p - 1 : Nat) : Int) from by omega]
  exact hq _ (h.setP (p := n.p - 1)) ((Keep.refl _ w).sto (.inl (.inr (.inr ⟨n, by simp, rfl⟩))) _ _)
theorem unpin_none {n : Nd} (h : Rep isI64 B w c mb room L) (hn : n ∈ L) (hp : n.p = 0) (hq : Q (.bool false) w) :
    callS Tryz.prog 21 #[.pointer (some ⟨c, 0, none⟩), n.k] Q w := by
  refine ref21 ?_
  unfold S21
  refine find_hit h hn ?_
  have h0 : ((n.p : Int) = 0) := by omega
  simp only [stp, Nat.reduceAdd, Int.reduceLT, Int.reduceLE, Int.reduceEq, Int.reduceNe, ne_eq, bne_self_eq_false, beq_self_eq_true, (h.node n hn).p, Option.isSome_some, Option.getD_some, h0, decide_true]
  exact hq
theorem unpin_miss {k : Value} (h : Rep isI64 B w c mb room L) (hk : isI64 k) (hn : ∀ n ∈ L, n.k ≠ k) (hq : Q (.bool false) w) :
    callS Tryz.prog 21 #[.pointer (some ⟨c, 0, none⟩), k] Q w := by
  refine ref21 ?_
  unfold S21
  refine find_miss h hk hn ?_
  simp only [stp, Nat.reduceAdd, Int.reduceLT, Int.reduceLE, Int.reduceEq, Int.reduceNe, ne_eq, bne_self_eq_false, beq_self_eq_true]
  exact hq
theorem delete_miss {k : Value} (h : Rep isI64 B w c mb room L) (hk : isI64 k) (hn : ∀ n ∈ L, n.k ≠ k) (hq : Q (.bool false) w) :
    callS Tryz.prog 22 #[.pointer (some ⟨c, 0, none⟩), k] Q w := by
  refine ref22 ?_
  unfold S22
  refine find_miss h hk hn ?_
  simp only [stp, Nat.reduceAdd, Int.reduceLT, Int.reduceLE, Int.reduceEq, Int.reduceNe, ne_eq, bne_self_eq_false, beq_self_eq_true]
  exact hq
theorem delete_hit {A C : List Nd} {n : Nd} (h : Rep isI64 B w c mb room (A ++ n :: C)) (hq : ∀ w', Rep isI64 B w' c mb room (A ++ C) → Keep (foot c mb (A ++ n :: C)) w w' → Q (.bool true) w') :
    callS Tryz.prog 22 #[.pointer (some ⟨c, 0, none⟩), n.k] Q w := by
  refine ref22 ?_
  unfold S22
  refine find_hit h (n := n) (by simp) ?_
  obtain ⟨l, hl, hp⟩ := h.kv
  obtain ⟨p, q, i, r, hi, hqr, hs, hap, a1, a2, a3, a4, l1, l2⟩ := h.around
  obtain ⟨mp', mq⟩ := beside (n := n) hi hqr
  have hs' := seg_off hap hs a1 a2 a3 a4
  simp only [stp, Nat.reduceAdd, Int.reduceLT, Int.reduceLE, Int.reduceEq, Int.reduceNe, ne_eq, bne_self_eq_false, beq_self_eq_true]
  refine off_c (p := p) (q := q) l1.2 (by have := l2.1; simpa only [Nd.pl, Nat.zero_add] using this) (h.pl_fre mp') (h.pl_fre mq) (by rw [l1.1]; rfl) (by rw [l2.2]; rfl) ?_
  have hst := off_still (w := w) mp' mq
  have em : cel (offW w p q) c 0 = some (.map (some mb)) := by rw [hst _ _ ⟨by omega, by omega⟩]; exact h.m
  simp only [stp, Nat.reduceAdd, Int.reduceLT, Int.reduceLE, Int.reduceEq, Int.reduceNe, ne_eq, bne_self_eq_false, beq_self_eq_true, em, Option.isSome_some, Option.getD_some]
  have hmp : mp (offW w p q) mb = some l := by rw [mp_off (h.mb_pl mp') (h.mb_pl mq)]; exact hl
  refine md_31 hmp (h.okKv hp) (h.okk n (by simp)) fun w2 hm2 => ?_
  refine hq _ (h.del hi hqr hs' hp hm2) ?_
  exact (keep_off (.inl (pl_foot mp')) (.inl (pl_foot mq))).trans (hm2.keep.mono (F' := foot c mb (A ++ n :: C)) (fun b _ e => .inr (.inl e)))
end
end Go.Proofs.YtdnbegjamoeahaaGreatL.Lii
