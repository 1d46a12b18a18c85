/- The cache of last uses, keys int, values entries: used, pinned, taken away, told, made. Conditions: the cache lies in memory as 'Rep' says. -/
import Derived.Test.YtjfookddoaemfaaCacI
set_option linter.unusedSimpArgs false
set_option linter.unusedVariables false
namespace Go.Proofs.Ytjfookddoaemfaa.Lv
open Go.Sh Go.Sh.Lrv
set_option maxRecDepth 100000
section
variable {B : Nat} {w : World} {c mb room : Nat} {L : List Nd} {Q : Value → World → Prop}
theorem pin_hit {A C : List Nd} {n : Nd} (h : Rep isI64 B w c mb room (A ++ n :: C)) (hp : n.p < 4611686018427387904) (hq : ∀ w', Rep isI64 B w' c mb room (A ++ { n with p := n.p + 1 } :: C) → Keep (foot c mb (A ++ n :: C)) w w' → Q (.bool true) w') :
    callS Try.prog 25 #[.pointer (some ⟨c, 0, none⟩), n.k] Q w := by
  refine ref25 ?_
  unfold S25
  refine find_hit h (n := n) (by simp) ?_
  have hn := h.node n (by simp)
  simp only [stp, Nat.reduceAdd, Int.reduceLT, Int.reduceLE, Int.reduceEq, Int.reduceNe, ne_eq, bne_self_eq_false, beq_self_eq_true, hn.p, hn.fre, Option.isSome_some, Option.getD_some]
  rw [wrap_id (by omega) (by omega), show (n.p : Int) + 1 = ((n.p + 1 : Nat) : Int) from by omega]
  exact hq _ (h.setP (p := n.p + 1)) ((Keep.refl _ w).sto (.inl (.inr (.inr ⟨n, by simp, rfl⟩))) _ _)
theorem pin_miss {k : Value} (h : Rep isI64 B w c mb room L) (hk : isI64 k) (hn : ∀ n ∈ L, n.k ≠ k) (hq : Q (.bool false) w) :
    callS Try.prog 25 #[.pointer (some ⟨c, 0, none⟩), k] Q w := by
  refine ref25 ?_
  unfold S25
  refine find_miss h hk hn ?_
  simp only [stp, Nat.reduceAdd, Int.reduceLT, Int.reduceLE, Int.reduceEq, Int.reduceNe, ne_eq, bne_self_eq_false, beq_self_eq_true]
  exact hq
theorem unpin_hit {A C : List Nd} {n : Nd} (h : Rep isI64 B w c mb room (A ++ n :: C)) (hp : 0 < n.p) (hb : n.p < 4611686018427387904) (hq : ∀ w', Rep isI64 B w' c mb room (A ++ { n with p := n.p - 1 } :: C) → Keep (foot c mb (A ++ n :: C)) w w' → Q (.bool true) w') :
    callS Try.prog 27 #[.pointer (some ⟨c, 0, none⟩), n.k] Q w := by
  refine ref27 ?_
  unfold S27
  refine find_hit h (n := n) (by simp) ?_
  have hn := h.node n (by simp)
  have h0 : ¬ ((n.p : Int) = 0) := by omega
  simp only [stp, Nat.reduceAdd, Int.reduceLT, Int.reduceLE, Int.reduceEq, Int.reduceNe, ne_eq, bne_self_eq_false, beq_self_eq_true, hn.p, hn.fre, Option.isSome_some, Option.getD_some, h0, decide_false]
  rw [wrap_id (by omega) (by omega), show (n.p : Int) - 1 = ((n.p - 1 : Nat) : Int) from by omega]
  exact hq _ (h.setP (p := n.p - 1)) ((Keep.refl _ w).sto (.inl (.inr (.inr ⟨n, by simp, rfl⟩))) _ _)
theorem delete_miss {k : Value} (h : Rep isI64 B w c mb room L) (hk : isI64 k) (hn : ∀ n ∈ L, n.k ≠ k) (hq : Q (.bool false) w) :
    callS Try.prog 38 #[.pointer (some ⟨c, 0, none⟩), k] Q w := by
  refine ref38 ?_
  unfold S38
  refine find_miss h hk hn ?_
  simp only [stp, Nat.reduceAdd, Int.reduceLT, Int.reduceLE, Int.reduceEq, Int.reduceNe, ne_eq, bne_self_eq_false, beq_self_eq_true]
  exact hq
theorem delete_hit {A C : List Nd} {n : Nd} (h : Rep isI64 B w c mb room (A ++ n :: C)) (hq : ∀ w', Rep isI64 B w' c mb room (A ++ C) → Keep (foot c mb (A ++ n :: C)) w w' → Q (.bool true) w') :
    callS Try.prog 38 #[.pointer (some ⟨c, 0, none⟩), n.k] Q w := by
  refine ref38 ?_
  unfold S38
  refine find_hit h (n := n) (by simp) ?_
  obtain ⟨l, hl, hp⟩ := h.kv
  obtain ⟨p, q, i, r, hi, hqr, hs, hap, a1, a2, a3, a4, l1, l2⟩ := h.around
  obtain ⟨mp', mq⟩ := beside (n := n) hi hqr
  have hs' := seg_off hap hs a1 a2 a3 a4
  simp only [stp, Nat.reduceAdd, Int.reduceLT, Int.reduceLE, Int.reduceEq, Int.reduceNe, ne_eq, bne_self_eq_false, beq_self_eq_true]
  refine off_c (p := p) (q := q) l1.2 (by have := l2.1; simpa only [Nd.pl, Nat.zero_add] using this) (h.pl_fre mp') (h.pl_fre mq) (by rw [l1.1]; rfl) (by rw [l2.2]; rfl) ?_
  have hst := off_still (w := w) mp' mq
  have em : cel (offW w p q) c 0 = some (.map (some mb)) := by rw [hst _ _ ⟨by omega, by omega⟩]; exact h.m
  simp only [stp, Nat.reduceAdd, Int.reduceLT, Int.reduceLE, Int.reduceEq, Int.reduceNe, ne_eq, bne_self_eq_false, beq_self_eq_true, em, Option.isSome_some, Option.getD_some]
  have hmp : mp (offW w p q) mb = some l := by rw [mp_off (h.mb_pl mp') (h.mb_pl mq)]; exact hl
  refine md_76 hmp (h.okKv hp) (h.okk n (by simp)) fun w2 hm2 => ?_
  refine hq _ (h.del hi hqr hs' hp hm2) ?_
  exact (keep_off (.inl (pl_foot mp')) (.inl (pl_foot mq))).trans (hm2.keep.mono (F' := foot c mb (A ++ n :: C)) (fun b _ e => .inr (.inl e)))
theorem foot_use {A C : List Nd} {n : Nd} {b : Nat} (h : foot c mb (n :: (A ++ C)) b) : foot c mb (A ++ n :: C) b := by
  rcases h with h | h | ⟨m, hm, h⟩
  · exact .inl h
  · exact .inr (.inl h)
  · refine .inr (.inr ⟨m, ?_, h⟩)
    simp only [List.mem_cons, List.mem_append] at hm ⊢
    rcases hm with h | h | h
    · exact .inr (.inl h)
    · exact .inl h
    · exact .inr (.inr h)
theorem get_hitD {A C : List Nd} {n : Nd} (h : Rep isI64 B w c mb room (A ++ n :: C)) (hq : ∀ w', Rep isI64 B w' c mb room (n :: (A ++ C)) → Keep (fun b => foot c mb (A ++ n :: C) b ∧ b ≠ mb) w w' → Q (.tuple #[vE n.v, .bool true]) w') :
    callS Try.prog 28 #[.pointer (some ⟨c, 0, none⟩), n.k] Q w := by
  refine ref28 ?_
  unfold S28
  rw [al_49]
  generalize hw1 : w.alloc (.cells #[.int .i64 0, .int .u64 0, .string ⟨#[]⟩, .bool false, .int .u64 0] 49) = w1
  have b1 : blk w1 (siz w) = some (.cells (encE e0).toArray 49) := by rw [← hw1]; exact blk_alloc_new
  have k1 : K0 w w1 := by rw [← hw1]; exact (K0.refl w).alloc _
  have h1 := h.keep0 k1
  have hg : ¬ foot c mb (A ++ n :: C) (siz w) := fun e => by have := h.lt e; omega
  refine jn0 (fun w' => Rep isI64 B w' c mb room (n :: (A ++ C)) ∧ Keep (fun b => foot c mb (A ++ n :: C) b ∧ b ≠ mb) w1 w') (fun J hJ => ?_) (fun w2 ⟨h2, k2⟩ _ => ?_)
  · refine find_hit h1 (n := n) (by simp) ?_
    simp only [stp, Nat.reduceAdd, Int.reduceLT, Int.reduceLE, Int.reduceEq, Int.reduceNe, ne_eq, bne_self_eq_false, beq_self_eq_true]
    refine use_d h1 fun w' h' k' _ => ?_
    exact hJ _ ⟨h', k'⟩
  · refine peek_hit h2 (n := n) (by simp) fun w3 k3 => ?_
    simp only [stp, Nat.reduceAdd, Int.reduceLT, Int.reduceLE, Int.reduceEq, Int.reduceNe, ne_eq, bne_self_eq_false, beq_self_eq_true]
    have b3 := k3.blk (k2.blk b1 (fun e => hg e.1)) (by exact fun h => h)
    refine fin_en (F := fun b => foot c mb (A ++ n :: C) b ∧ b ≠ mb) (w0 := w) ((enAt_new b3).is) (fre_b b3) (Nat.le_refl _) ((k1.none.trans k2).trans k3.none) fun w4 k4 k34 e4 => ?_
    rw [ldr_en e4]
    exact hq _ ((h2.keep0 k3).keep k34 fun b hb e => hg (e ▸ foot_use hb)) k4
theorem get_hit {A C : List Nd} {n : Nd} (h : Rep isI64 B w c mb room (A ++ n :: C)) (hq : ∀ w', Rep isI64 B w' c mb room (n :: (A ++ C)) → Keep (foot c mb (A ++ n :: C)) w w' → Q (.tuple #[vE n.v, .bool true]) w') :
    callS Try.prog 28 #[.pointer (some ⟨c, 0, none⟩), n.k] Q w :=
  get_hitD h fun w' h' k => hq w' h' (k.mono fun b _ hb => hb.1)
theorem get_miss {k : Value} (h : Rep isI64 B w c mb room L) (hk : isI64 k) (hn : ∀ n ∈ L, n.k ≠ k) (hq : ∀ w', K0 w w' → Q (.tuple #[vE e0, .bool false]) w') :
    callS Try.prog 28 #[.pointer (some ⟨c, 0, none⟩), k] Q w := by
  refine ref28 ?_
  unfold S28
  rw [al_49]
  generalize hw1 : w.alloc (.cells #[.int .i64 0, .int .u64 0, .string ⟨#[]⟩, .bool false, .int .u64 0] 49) = w1
  have b1 : blk w1 (siz w) = some (.cells (encE e0).toArray 49) := by rw [← hw1]; exact blk_alloc_new
  have k1 : K0 w w1 := by rw [← hw1]; exact (K0.refl w).alloc _
  have h1 := h.keep0 k1
  refine jn0 (fun w' => w' = w1) (fun J hJ => ?_) ?_
  · refine find_miss h1 hk hn ?_
    simp only [stp, Nat.reduceAdd, Int.reduceLT, Int.reduceLE, Int.reduceEq, Int.reduceNe, ne_eq, bne_self_eq_false, beq_self_eq_true]
    exact hJ _ rfl
  · rintro w' rfl _
    refine peek_miss h1 hk hn fun w3 k3 => ?_
    simp only [stp, Nat.reduceAdd, Int.reduceLT, Int.reduceLE, Int.reduceEq, Int.reduceNe, ne_eq, bne_self_eq_false, beq_self_eq_true]
    have b3 := k3.blk b1 (by exact fun h => h)
    refine fin_en (w0 := w) ((enAt_new b3).is) (fre_b b3) (Nat.le_refl _) (k1.trans k3) fun w4 k4 k34 e4 => ?_
    rw [ldr_en e4]
    exact hq _ k4
/-- All keys, the one that was used last first. -/
theorem keys_c (h : Rep isI64 B w c mb room L) (hq : ∀ w' v', Own w' (siz w) 3 1 v' L.length (L.map (·.k)) → K0 w w' → Q v' w') :
    callS Try.prog 39 #[.pointer (some ⟨c, 0, none⟩)] Q w := by
  refine ref39 ?_
  unfold S39
  refine len_c h ?_
  have hbig := h.big
  have hlen := h.len
  rcases Nat.eq_zero_or_pos L.length with hz | hpos
  · have hz' : ((L.length : Int) = 0) := by omega
    have hL : L = [] := List.length_eq_zero_iff.1 hz
    simp only [stp, Nat.reduceAdd, Int.reduceLT, Int.reduceLE, Int.reduceEq, Int.reduceNe, ne_eq, bne_self_eq_false, beq_self_eq_true, hz']
    subst hL
    exact hq w _ (Own.nil _ _ _ _) (K0.refl _)
  have hz' : ¬ ((L.length : Int) = 0) := by omega
  obtain ⟨f, rf, hf⟩ := begins ((c, 1) : Pl) (L.map Nd.pl)
  have hl := (Rep.link (A := []) (C := L) (by simpa using h) (i := []) (x := (c, 1)) rfl hf).1
  simp only [ptr] at hl
  simp only [stp, Nat.reduceAdd, Int.reduceLT, Int.reduceLE, Int.reduceEq, Int.reduceNe, ne_eq, bne_self_eq_false, beq_self_eq_true] at hl ⊢
  simp only [stp, Nat.reduceAdd, Int.reduceLT, Int.reduceLE, Int.reduceEq, Int.reduceNe, ne_eq, bne_self_eq_false, beq_self_eq_true, hz', hl, Option.isSome_some, Option.getD_some]
  refine lp2 (fun m xo v w' => ∃ A C y r, L = A ++ C ∧ C.length = m ∧ C.map Nd.pl ++ [((c, 1) : Pl)] = y :: r ∧ v = .pointer (some ⟨y.1, y.2, none⟩) ∧ Own w' (siz w) 3 1 xo A.length (A.map (·.k)) ∧ K0 w w') L.length ⟨[], L, f, rf, rfl, rfl, hf, rfl, Own.nil _ _ _ _, K0.refl _⟩ ?_
  rintro m xo v w1 ⟨A, C, y, r, hAC, hm, hy, rfl, o1, k1⟩ J hJ _
  have h1 := h.keep0 k1
  have my : y ∈ ((c, 1) : Pl) :: L.map Nd.pl := by
    have : y ∈ C.map Nd.pl ++ [((c, 1) : Pl)] := by rw [hy]; simp
    rw [hAC]
    simp only [List.mem_cons, List.map_append, List.mem_append, List.not_mem_nil, or_false] at this ⊢
    rcases this with h | h
    · exact .inr (.inr h)
    · exact .inl h
  have fy := h1.pl_fre my
  have fc := h1.fc
  simp only [stp, Nat.reduceAdd, Int.reduceLT, Int.reduceLE, Int.reduceEq, Int.reduceNe, ne_eq, bne_self_eq_false, beq_self_eq_true, fy, fc]
  cases C with
  | nil =>
    have : y = (c, 1) := by simp at hy; exact hy.1.symm
    subst this
    rw [List.append_nil] at hAC
    subst hAC
    simp only [and_self, not_true_eq_false, decide_false, stp, Nat.reduceAdd, Int.reduceLT, Int.reduceLE, Int.reduceEq, Int.reduceNe, ne_eq, bne_self_eq_false, beq_self_eq_true]
    exact hq _ _ o1 k1
  | cons n C =>
    have hyn : y = n.pl := by simp at hy; exact hy.1.symm
    subst hyn
    have hn : n ∈ L := by rw [hAC]; simp
    have hnn := h1.node n hn
    have hnc : n.b ≠ c := fun e => (List.nodup_cons.1 h.nd).1 (by rw [← e]; exact List.mem_map_of_mem (f := (·.b)) hn)
    have hnc' : ¬ (n.b = c ∧ (0 : Nat) = 1) := by omega
    have hk1 := one_ok (h.okk n hn)
    simp only [Nd.pl, hnc', not_false_eq_true, decide_true, stp, Nat.reduceAdd, Int.reduceLT, Int.reduceLE, Int.reduceEq, Int.reduceNe, ne_eq, bne_self_eq_false, beq_self_eq_true, hnn.k, Option.isSome_some, Option.getD_some, hk1]
    have hAl : A.length ≤ 100000 := by have := congrArg List.length hAC; simp only [List.length_append, List.length_cons] at this; omega
    refine pu_46 o1 (by intro u hu; simp only [List.mem_cons, List.not_mem_nil, or_false] at hu; subst hu; exact hk1) (by omega) k1.size fun v' w2 o2 k2 hr => ?_
    have k2' : K0 w w2 := k1.trans' k2 fun b hb e => by have := (o1.lt e).1; omega
    have h2 := h.keep0 k2'
    obtain ⟨z, rz, hz2⟩ := begins ((c, 1) : Pl) (C.map Nd.pl)
    have hl2 := (Rep.link (A := A ++ [n]) (C := C) (by rw [List.append_assoc, List.singleton_append, ← hAC]; exact h2) (i := ((c, 1) : Pl) :: A.map Nd.pl) (x := n.pl) (by simp) hz2).1
    simp only [ptr, Nd.pl, Nat.zero_add] at hl2
    simp only [stp, Nat.reduceAdd, Int.reduceLT, Int.reduceLE, Int.reduceEq, Int.reduceNe, ne_eq, bne_self_eq_false, beq_self_eq_true, hl2, Option.isSome_some, Option.getD_some]
    refine hJ C.length _ _ _ (by simp at hm; omega) ⟨A ++ [n], C, z, rz, by rw [hAC]; simp, rfl, hz2, rfl, ?_, k2'⟩
    rw [List.map_append, List.length_append]
    exact o2
theorem new_c {r : Int} (hB : B ≤ siz w) (hq : ∀ w', Rep isI64 B w' (siz w + 1) (siz w) (clampR r) [] → K0 w w' → Q (.pointer (some ⟨siz w + 1, 0, none⟩)) w') :
    callS Try.prog 19 #[.int .i64 r] Q w := by
  refine ref19 ?_
  unfold S19
  simp only [stp, Nat.reduceAdd, Int.reduceLT, Int.reduceLE, Int.reduceEq, Int.reduceNe, ne_eq, bne_self_eq_false, beq_self_eq_true, siz_alloc]
  generalize hw1 : (w.alloc _).alloc _ = w1
  have hb : blk w1 (siz w) = some (.map #[] 0) := by rw [← hw1, blk_alloc_old (by rw [siz_alloc]; omega), blk_alloc_new]
  have hc : ∀ i, cel w1 (siz w + 1) i = (#[.map (some (siz w)), .int .i64 0, .int .i64 0, .int .u64 0, .string ⟨#[]⟩, .bool false, .int .u64 0, .int .i64 0, .pointer none, .pointer none, .int .i64 (min (max r 0) 100000)] : Array Value)[i]? := fun i => by
    rw [← hw1, ← siz_alloc (w := w) (o := .map #[] 0), cel_alloc_new]
  have hf : fre w1 (siz w + 1) = true := by rw [← hw1, ← siz_alloc (w := w) (o := .map #[] 0), fre_alloc_new]
  have k1 : K0 w w1 := hw1 ▸ ((K0.refl w).alloc _).alloc _
  have c4 : (cel w1 (siz w + 1) 8).isSome = true := by rw [hc]; rfl
  have c5 : (cel w1 (siz w + 1) 9).isSome = true := by rw [hc]; rfl
  have c5' : (cel (sto w1.drew (siz w + 1) 8 (.pointer (some ⟨siz w + 1, 1, none⟩))) (siz w + 1) 9).isSome = true := by rw [cel_sto_ne (by omega), cel_drew]; exact c5
  simp only [stp, Nat.reduceAdd, Int.reduceLT, Int.reduceLE, Int.reduceEq, Int.reduceNe, ne_eq, bne_self_eq_false, beq_self_eq_true, cel_drew, fre_drew, fre_sto, hf, c4, c5']
  refine hq _ ?_ ?_
  · have hce : ∀ i, i ≠ 8 → i ≠ 9 → cel (sto (sto w1.drew (siz w + 1) 8 (.pointer (some ⟨siz w + 1, 1, none⟩))) (siz w + 1) 9 (.pointer (some ⟨siz w + 1, 1, none⟩))) (siz w + 1) i = cel w1 (siz w + 1) i := fun i h4 h5 => by
      rw [cel_sto_ne (by omega), cel_sto_ne (by omega), cel_drew]
    refine ⟨⟨by omega, hB, by simp⟩, by rw [hce 0 (by omega) (by omega), hc]; rfl, ?_, by rw [fre_sto, fre_sto, fre_drew]; exact hf, ⟨⟨?_, ?_⟩, trivial⟩, by simp, ⟨[], ?_, by simp⟩, by simp, by simp, by simp, by simp, by unfold clampR; omega⟩
    · rw [hce 10 (by omega) (by omega), hc]
      show some (Value.int .i64 _) = _
      unfold clampR
      rw [Int.toNat_of_nonneg (by omega)]
    · rw [cel_sto_same c5']; rfl
    · rw [cel_sto_ne (by omega), cel_sto_same (by rw [cel_drew]; exact c4)]; rfl
    · rw [mp_sto (by omega), mp_sto (by omega)]; show mp w1 _ = _; rw [mp, hb]; rfl
  · exact (k1.drew.sto (.inr (by omega)) _ _).sto (.inr (by omega)) _ _
/-! ### of a nil cache -/
theorem nlen_c (hq : Q (.int .i64 0) w) : callS Try.prog 29 #[.pointer none] Q w := by
  refine ref29 ?_
  unfold S29
  simp only [stp, Nat.reduceAdd, Int.reduceLT, Int.reduceLE, Int.reduceEq, Int.reduceNe, ne_eq, bne_self_eq_false, beq_self_eq_true]
  exact hq
theorem nroom_c (hq : Q (.int .i64 0) w) : callS Try.prog 21 #[.pointer none] Q w := by
  refine ref21 ?_
  unfold S21
  simp only [stp, Nat.reduceAdd, Int.reduceLT, Int.reduceLE, Int.reduceEq, Int.reduceNe, ne_eq, bne_self_eq_false, beq_self_eq_true]
  exact hq
theorem nfind_c {k : Value} (hq : Q (.pointer none) w) : callS Try.prog 43 #[.pointer none, k] Q w := by
  refine ref43 ?_
  unfold S43
  simp only [stp, Nat.reduceAdd, Int.reduceLT, Int.reduceLE, Int.reduceEq, Int.reduceNe, ne_eq, bne_self_eq_false, beq_self_eq_true]
  exact hq
theorem nkeys_c (hq : Q (.slice none 0 0) w) : callS Try.prog 39 #[.pointer none] Q w := by
  refine ref39 ?_
  unfold S39
  refine nlen_c ?_
  simp only [stp, Nat.reduceAdd, Int.reduceLT, Int.reduceLE, Int.reduceEq, Int.reduceNe, ne_eq, bne_self_eq_false, beq_self_eq_true]
  exact hq
end
end Go.Proofs.Ytjfookddoaemfaa.Lv
