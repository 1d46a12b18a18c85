/- The cache: Drop; the chapter's alive. Conditions: as each says. -/
import Derived.Test.YtjfookddoaemfaaCacX
set_option linter.unusedSimpArgs false
set_option linter.unusedVariables false
namespace Go.Proofs.Ytjfookddoaemfaa
open Go.Sh Go.Sh.Lrv Go.Proofs.Ytjfookddoaemfaa.Lv
set_option maxRecDepth 100000
def okP (a b : Int) : Prop := 0 ≤ a ∧ a < b
def hasP (a b x : Int) : Prop := okP a b ∧ a ≤ x ∧ x < b
instance (a b : Int) : Decidable (okP a b) := by unfold okP; exact inferInstance
instance (a b x : Int) : Decidable (hasP a b x) := by unfold hasP; exact inferInstance
def dropB (a b : Int) (e : En) : Bool := !e.2.2.2.1 && decide (hasP a b e.1)
section
variable {w w' : World} {Q : Value → World → Prop} {c lc room : Nat} {es : List En} {ps : List (En × Nat)} {F : Nat → Prop} {a b x : Int}
theorem valid_c (hq : ∀ w', K0 w w' → Q (.bool (decide (okP a b))) w') : callS Try.prog 52 #[.agg #[.int .i64 a, .int .i64 b]] Q w := by
  refine ref52 ?_
  unfold S52
  by_cases h0 : 0 ≤ a
  · simp only [stp, Nat.reduceAdd, Int.reduceLT, Int.reduceLE, Int.reduceEq, Int.reduceNe, ne_eq, bne_self_eq_false, beq_self_eq_true, stm, h0]
    have := hq _ ((K0.refl w).alloc (.cells #[.int .i64 a, .int .i64 b] 41))
    simpa only [okP, h0, true_and] using this
  · simp only [stp, Nat.reduceAdd, Int.reduceLT, Int.reduceLE, Int.reduceEq, Int.reduceNe, ne_eq, bne_self_eq_false, beq_self_eq_true, stm, h0]
    have := hq _ ((K0.refl w).alloc (.cells #[.int .i64 a, .int .i64 b] 41))
    simpa only [okP, h0, false_and, decide_false] using this
theorem has_c (hq : ∀ w', K0 w w' → Q (.bool (decide (hasP a b x))) w') : callS Try.prog 34 #[.agg #[.int .i64 a, .int .i64 b], .int .i64 x] Q w := by
  refine ref34 ?_
  unfold S34
  simp only [stp, Nat.reduceAdd, Int.reduceLT, Int.reduceLE, Int.reduceEq, Int.reduceNe, ne_eq, bne_self_eq_false, beq_self_eq_true, stm]
  refine valid_c fun w2 g2 => ?_
  have g1 := ((K0.refl w).alloc (.cells #[.int .i64 a, .int .i64 b] 41))
  have c0 : cel w2 (siz w) 0 = some (.int .i64 a) := g2.cel cel_alloc_new id
  have c1 : cel w2 (siz w) 1 = some (.int .i64 b) := g2.cel cel_alloc_new id
  have := hq w2 (g1.trans g2)
  by_cases h0 : okP a b
  · by_cases h1 : a ≤ x
    · simp only [stp, Nat.reduceAdd, Int.reduceLT, Int.reduceLE, Int.reduceEq, Int.reduceNe, ne_eq, bne_self_eq_false, beq_self_eq_true, stm, h0, h1, c0, c1]
      simpa only [hasP, h0, h1, true_and] using this
    · simp only [stp, Nat.reduceAdd, Int.reduceLT, Int.reduceLE, Int.reduceEq, Int.reduceNe, ne_eq, bne_self_eq_false, beq_self_eq_true, stm, h0, h1, c0, c1]
      simpa only [hasP, h0, h1, false_and, true_and, decide_false] using this
  · simp only [stp, Nat.reduceAdd, Int.reduceLT, Int.reduceLE, Int.reduceEq, Int.reduceNe, ne_eq, bne_self_eq_false, beq_self_eq_true, stm, h0]
    simpa only [hasP, h0, false_and, decide_false] using this
theorem hldC {S : World → Prop} {t o : Nat} {v : Value} {k : Value → Prop} (h : ∀ w', S w' → cel w' t o = some v) (hk : k v) : hld Try.prog S (Instr.loadAt 3 (.pointer (some ⟨t, o, none⟩))) k :=
  hld_of _ (fun w' hw => rl_3 (h w' hw)) hk
theorem hldb {S : World → Prop} {t o : Nat} {v : Value} {k : Value → Prop} (h : ∀ w', S w' → cel w' t o = some v) (hk : k v) : hld Try.prog S (Instr.loadAt 4 (.pointer (some ⟨t, o, none⟩))) k :=
  hld_of _ (fun w' hw => rl_4 (h w' hw)) hk
theorem hldS {S : World → Prop} {t : Nat} {k : Value → Prop} (h : ∀ w', S w' → blk w' t = some (.cells #[.int .i64 a, .int .i64 b] 41)) (hk : k (.agg #[.int .i64 a, .int .i64 b])) : hld Try.prog S (Instr.loadAt 41 (.pointer (some ⟨t, 0, none⟩))) k :=
  hld_of _ (fun w' hw => run_loadN (n := 2) (fun w => Try.isAgg41 w) (fun w => Try.sizeOf41 w) (fun j => (#[.int .i64 a, .int .i64 b] : Array Value)[j]?.getD undef) fun
    | 0, _ => cel_b (h w' hw) 0
    | 1, _ => cel_b (h w' hw) 1
    | j + 2, hj => absurd hj (by omega)) hk
theorem filter_len_le {p : En → Bool} {l : List En} : (l.filter p).length ≤ l.length := List.length_filter_le ..
set_option maxHeartbeats 1000000 in
theorem drop_c (h : CS w c room es F) (hq : ∀ w' F' es', CS w' c room es' F' → St F F' w w' → es'.Perm (es.filter fun e => !(dropB a b e)) → Q (.int .i64 ((es.length : Int) - es'.length)) w') :
    callS Try.prog 16 #[.pointer (some ⟨c, 0, none⟩), .agg #[.int .i64 a, .int .i64 b]] Q w := by
  refine ref16 ?_
  unfold S16
  have hlen := h.len
  obtain ⟨lc, hc, hFc, hl⟩ := h
  have hcs := cel_lt' hc
  have hlF := hl.ltF
  rw [act_box, agg_cells]
  generalize hw1 : w.alloc _ = w1
  have b1 : blk w1 (siz w) = some (.cells #[.int .i64 a, .int .i64 b] 41) := by rw [← hw1]; exact blk_alloc_new
  have k1 : K0 w w1 := by rw [← hw1]; exact (K0.refl w).alloc _
  have s1 : siz w1 = siz w + 1 := by rw [← hw1, siz_alloc]
  have h1 : CS w1 c room es (fun b => F b ∧ b < siz w) := ⟨lc, k1.cel hc fun e => e, fun e => hFc e.1, hlF.keep k1 fun _ _ e => e⟩
  refine aLL_c h1 fun w2 v l A hA hpl o2 k2 => ?_
  have hll := hpl.length_eq
  obtain ⟨pa, cp, rfl⟩ := o2.form
  simp only [stp, Nat.reduceAdd, Int.reduceLT, Int.reduceLE, Int.reduceEq, Int.reduceNe, ne_eq, bne_self_eq_false, beq_self_eq_true]
  have h2 := h1.keep0 k2
  refine lp2 (fun m y z w' => ∃ (i : Nat) (es' : List En) (F' : Nat → Prop), y = .int .i64 ((i : Int) - ((l.take i).filter fun e => !(dropB a b e)).length) ∧ z = .int .i64 (i : Int) ∧ i ≤ l.length ∧ m = l.length - i ∧ CS w' c room es' F' ∧ St (fun b => F b ∧ b < siz w) F' w2 w' ∧ es'.Perm (((l.take i).filter fun e => !(dropB a b e)) ++ l.drop i)) l.length
    ⟨0, es, _, by simp, rfl, Nat.zero_le _, rfl, h2, St.refl _ _, by simpa using hpl.symm⟩ ?_
  rintro m y z w3 ⟨i, es', F', rfl, rfl, hi, hm, h3, st3, hp3⟩ J hJ _j
  subst m
  have k02 : K0 w w2 := k1.trans k2
  have kz1 := k1.size
  have kz2 := k2.size
  have kz3 := st3.keep.size
  have hkl : ((l.take i).filter fun e => !(dropB a b e)).length ≤ i := by have h9 := List.length_filter_le (fun e => !(dropB a b e)) (l.take i); have := List.length_take_le i l; omega
  have gF : ∀ g, siz w ≤ g → g < siz w2 → ¬ F' g := fun g hg1 hg2 e => (st3.sub g e).elim (fun h => by have := h.2; omega) (fun h => by omega)
  by_cases hlt : i < l.length
  case neg =>
    have hlt' : ¬ ((i : Int) < (l.length : Int)) := by omega
    have hie : i = l.length := by omega
    subst hie
    rw [List.take_length, List.drop_length, List.append_nil] at hp3
    rw [List.take_length]
    simp only [stp, Nat.reduceAdd, Int.reduceLT, Int.reduceLE, Int.reduceEq, Int.reduceNe, ne_eq, bne_self_eq_false, beq_self_eq_true, hlt']
    obtain ⟨lc', hc', hFc', hl'⟩ := h3
    have hst := (St.of0 (F := fun b => F b ∧ b < siz w) k02).trans st3
    have hpp : es'.Perm (es.filter fun e => !(dropB a b e)) := hp3.trans (hpl.filter _)
    have := hq w3 F' es' ⟨lc', hc', hFc', hl'⟩ ⟨hst.keep.mono fun b _ hb => hb.1, fun b hb => (hst.sub b hb).imp (fun h => h.1) id⟩ hpp
    rw [← hll, hp3.length_eq] at this
    exact this
  have hlt' : ((i : Int) < (l.length : Int)) := by omega
  have hwi := wrap_succ (i := i) (by omega)
  have hkp : siz w2 ≤ siz w3 := kz3
  obtain ⟨g, c', e, hg1, hg2, _, _, _, hcel⟩ := Sh.Own.at o2 (by omega)
  injection e with e1 _ e2
  subst e1 e2
  have hgF : ∀ b, b = g → ¬ (F b ∧ b < siz w) := fun b hb e => by have := e.2; omega
  have en2 : EnAt w2 g (i * 5) l[i] := fun j hj => by
    have hb : (i + 1) * 5 ≤ l.length * 5 := Nat.mul_le_mul_right _ hlt
    rw [hcel _ (by omega)]
    exact flat_get (enc := encE) encE_len (List.getElem?_eq_getElem hlt) hj
  have en3 : EnAt w3 g (i * 5) l[i] := en2.keep st3.keep (hgF g rfl)
  have b3 : blk w3 (siz w) = some (.cells #[.int .i64 a, .int .i64 b] 41) := st3.keep.blk (k2.blk b1 fun e => e) fun e => by have := e.2; omega
  simp only [stp, Nat.reduceAdd, Int.reduceLT, Int.reduceLE, Int.reduceEq, Int.reduceNe, ne_eq, bne_self_eq_false, beq_self_eq_true, hlt']
  refine jn1 (fun y w' => ∃ (es2 : List En) (F2 : Nat → Prop), y = .int .i64 (((i + 1 : Nat) : Int) - ((l.take (i + 1)).filter fun e => !(dropB a b e)).length) ∧ CS w' c room es2 F2 ∧ St F' F2 w3 w' ∧ es2.Perm (((l.take (i + 1)).filter fun e => !(dropB a b e)) ++ l.drop (i + 1))) (fun J1 hJ1 => ?_) ?_
  case refine_2 =>
    rintro y w4 ⟨es2, F2, rfl, h4, st4, hp4⟩ _j
    try simp only [stp, Nat.reduceAdd, Int.reduceLT, Int.reduceLE, Int.reduceEq, Int.reduceNe, ne_eq, bne_self_eq_false, beq_self_eq_true, hwi]
    exact hJ (l.length - (i + 1)) _ _ _ (by omega) ⟨i + 1, es2, F2, rfl, rfl, by omega, rfl, h4, st3.trans st4, hp4⟩
  have htk : ((l.take (i + 1)).filter fun e => !(dropB a b e)) = ((l.take i).filter fun e => !(dropB a b e)) ++ (if dropB a b l[i] = true then [] else [l[i]]) := by
    rw [List.take_add_one, List.getElem?_eq_getElem hlt, List.filter_append]
    congr 1
    simp only [Option.toList_some, List.filter_cons, List.filter_nil]
    cases dropB a b l[i] <;> rfl
  have hdr : l.drop i = l[i] :: l.drop (i + 1) := List.drop_eq_getElem_cons hlt
  rw [hdr] at hp3
  rw [htk] at hJ1
  rw [ixE hlt]
  rw [ld_en en3]
  try simp only [stp, Nat.reduceAdd, Int.reduceLT, Int.reduceLE, Int.reduceEq, Int.reduceNe, ne_eq, bne_self_eq_false, beq_self_eq_true]
  generalize hw4 : w3.alloc _ = w4
  have b4 : blk w4 (siz w3) = some z5 := by rw [← hw4]; exact blk_alloc_new
  have k4 : K0 w3 w4 := by rw [← hw4]; exact (K0.refl w3).alloc _
  refine st_tmp b4 fun w5 k5 en => ?_
  have k35 : K0 w3 w5 := k4.trans' k5 fun b hb e => by omega
  have kz5 := k35.size
  have ht7 := cel_lt' en.cs.1
  obtain ⟨lc3, hc3, hFc3, hl3⟩ := h3
  have hl5 : LS w5 lc3 room es' (fun b => F' b ∧ b < siz w3) := hl3.ltF.keep k35 fun _ _ e => e
  have hc5 := k35.cel hc3 fun e => e
  have b5 := k35.blk b3 fun e => e
  have kd : K0 w5 w5.drew := (K0.refl w5).drew
  refine ⟨fun w' => Keep (fun b => F' b ∧ b < siz w3) w5.drew w', Keep.refl _ _, ?_⟩
  obtain ⟨c0, c1, c2, c3, c4⟩ := en.cs
  rw [Nat.zero_add] at c1 c2 c3 c4
  have stay : ∀ w', Keep (fun b => F' b ∧ b < siz w3) w5.drew w' → ∀ o v, cel w5 (siz w3) o = some v → cel w' (siz w3) o = some v := fun w' k o v hv => k.cel (kd.cel hv fun e => e) fun e => by have := e.2; omega
  have nodrop : ∀ w', K0 w5.drew w' → dropB a b l[i] = false → J1 (.int .i64 ((i : Int) - ((l.take i).filter fun e => !(dropB a b e)).length)) w' := fun w' k hd => by
    have hk : K0 w3 w' := k35.trans (kd.trans k)
    refine hJ1 _ _ ⟨es', F', ?_, ⟨lc3, hk.cel hc3 fun e => e, hFc3, hl3.keep hk fun _ _ e => e⟩, St.of0 hk, ?_⟩
    · rw [hd]; congr 1; simp; omega
    · rw [hd]; simpa using hp3
  simp only [stp, Nat.reduceAdd, Int.reduceLT, Int.reduceLE, Int.reduceEq, Int.reduceNe, ne_eq, bne_self_eq_false, beq_self_eq_true]
  refine hldb (fun w' k => stay w' k 3 _ c3) ?_
  cases hdty : l[i].2.2.2.1
  · simp only [stp, Nat.reduceAdd, Int.reduceLT, Int.reduceLE, Int.reduceEq, Int.reduceNe, ne_eq, bne_self_eq_false, beq_self_eq_true]
    refine hldS (fun w' k => k.blk (kd.blk b5 fun e => e) fun e => by have := e.2; have h7 := gF (siz w) (Nat.le_refl _) (by omega); exact h7 e.1) ?_
    try simp only [stp, Nat.reduceAdd, Int.reduceLT, Int.reduceLE, Int.reduceEq, Int.reduceNe, ne_eq, bne_self_eq_false, beq_self_eq_true]
    refine hldC (fun w' k => stay w' k 0 _ c0) ?_
    refine has_c fun w6 k6 => ⟨k6.none, ?_⟩
    by_cases hh : hasP a b l[i].1
    · have hdb : dropB a b l[i] = true := by unfold dropB; rw [hdty]; simp [hh]
      simp only [stp, Nat.reduceAdd, Int.reduceLT, Int.reduceLE, Int.reduceEq, Int.reduceNe, ne_eq, bne_self_eq_false, beq_self_eq_true, hh]
      have k56 : K0 w5 w6 := kd.trans k6
      refine all_c (k56.cel hc5 fun e => e) ⟨k6.none, ?_⟩
      try simp only [stp, Nat.reduceAdd, Int.reduceLT, Int.reduceLE, Int.reduceEq, Int.reduceNe, ne_eq, bne_self_eq_false, beq_self_eq_true]
      refine hldC (fun w' k => stay w' k 0 _ c0) ?_
      have hpp : (pins es').Perm ((l[i], pin l[i]) :: pins (((l.take i).filter fun e => !(dropB a b e)) ++ l.drop (i + 1))) := by
        have := (hp3.trans List.perm_middle).map (fun e => (e, pin e))
        rw [List.map_cons] at this
        exact this
      refine gDelete_hit (hl5.gs.keep0 k56) hpp fun w7 h7 k7 => ⟨(show Keep _ w5.drew w6 from k6.none).trans k7, ?_⟩
      have hadd : IntKind.i64.wrap ((i : Int) - ((l.take i).filter fun e => !(dropB a b e)).length + 1) = (((i + 1 : Nat) : Int) - ((l.take i).filter fun e => !(dropB a b e)).length) := by
        rw [wrap_id (by omega) (by omega)]; omega
      try simp only [stp, Nat.reduceAdd, Int.reduceLT, Int.reduceLE, Int.reduceEq, Int.reduceNe, ne_eq, bne_self_eq_false, beq_self_eq_true, hadd]
      have k37 : Keep (fun b => F' b ∧ b < siz w3) w3 w7 := (k35.trans k56).none.trans k7
      refine hJ1 _ _ ⟨((l.take i).filter fun e => !(dropB a b e)) ++ l.drop (i + 1), fun b => F' b ∧ b < siz w3, ?_, ⟨lc3, k37.cel hc3 fun e => hFc3 e.1, fun e => hFc3 e.1, h7.ls⟩, ⟨k37.mono fun b _ hb => hb.1, fun b hb => .inl hb.1⟩, ?_⟩
      · rw [hdb]; congr 1; simp
      · rw [hdb]; simp
    · have hdb : dropB a b l[i] = false := by unfold dropB; rw [hdty]; simp [hh]
      simp only [stp, Nat.reduceAdd, Int.reduceLT, Int.reduceLE, Int.reduceEq, Int.reduceNe, ne_eq, bne_self_eq_false, beq_self_eq_true, hh]
      exact nodrop _ k6 hdb
  · have hdb : dropB a b l[i] = false := by unfold dropB; rw [hdty]; rfl
    simp only [stp, Nat.reduceAdd, Int.reduceLT, Int.reduceLE, Int.reduceEq, Int.reduceNe, ne_eq, bne_self_eq_false, beq_self_eq_true]
    exact nodrop _ (K0.refl _) hdb
end
end Go.Proofs.Ytjfookddoaemfaa
