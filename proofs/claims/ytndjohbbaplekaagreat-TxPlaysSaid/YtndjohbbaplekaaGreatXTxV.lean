/- A transaction beside the document's: an image at its place, a lock raised. Conditions: as each says. -/
import Derived.Test.YtndjohbbaplekaaGreatXTxP
import Derived.Test.YtndjohbbaplekaaGreatXTxR
set_option linter.unusedSimpArgs false
set_option linter.unusedVariables false
namespace Go.Proofs.YtndjohbbaplekaaGreatX
open Go.Sh Go.Proofs.YtndjohbbaplekaaGreatX.Mi
set_option maxRecDepth 100000
/-- An image at its place: the first one of a block stays, or the last one. -/
def putL (x : Im) (last : Bool) : List Im → List Im
  | [] => [x]
  | p :: l => if p.1 < x.1 then p :: putL x last l else if p.1 = x.1 then (if last then x :: l else p :: l) else x :: p :: l
theorem putL_at {x : Im} {last : Bool} : ∀ {l : List Im} {k : Nat}, k ≤ l.length → (∀ p ∈ l.take k, p.1 < x.1) → putL x last l = l.take k ++ putL x last (l.drop k)
  | l, 0, _, _ => by simp
  | [], k + 1, h, _ => by simp at h
  | p :: l, k + 1, h, hp => by
    have h1 : p.1 < x.1 := hp p (by simp)
    rw [putL, if_pos h1, putL_at (l := l) (k := k) (by simpa using h) fun q hq => hp q (by simp [hq])]; rfl
theorem putL_len (x : Im) (last : Bool) : ∀ l : List Im, (putL x last l).length ≤ l.length + 1
  | [] => by simp [putL]
  | p :: l => by
    have := putL_len x last l
    rw [putL]
    split
    · simp only [List.length_cons]; omega
    · split
      · split <;> simp
      · simp
section
variable {w w' : World} {Q : Value → World → Prop} {B : Nat}
theorem im_at {l : List Im} {i : Nat} {pa : Option Addr} {ca : Nat} (h : Rd 3 w (.slice pa l.length ca) l.length (flat BkImages.enc l)) (hi : i < l.length) : ∃ g o, pa = some ⟨g, o, none⟩ ∧
    Sh.cel w g (o + i * 3) = some (.int .i64 l[i].1) ∧ Sh.cel w g (o + i * 3 + 1) = some (.int .u64 l[i].2.1) ∧ Sh.cel w g (o + i * 3 + 2) = some (.string l[i].2.2) := by
  obtain ⟨g, o, c, e, _, hc⟩ := h.at (by omega)
  injection e with e1 _ e2
  obtain ⟨q0, q1, q2⟩ := BkImages.cells_at hc (List.getElem?_eq_getElem hi)
  exact ⟨g, o, e1, q0, q1, q2⟩
theorem put_c {v : Value} {l : List Im} {x : Im} {last : Bool} (ho : Own w B 138 3 v l.length (flat BkImages.enc l)) (hB : B ≤ siz w) (hl : l.length ≤ 1000)
    (hq : ∀ w' v', Own w' B 138 3 v' (putL x last l).length (flat BkImages.enc (putL x last l)) → K0 w w' → Q v' w') :
    callS Tryz.prog 82 #[v, .agg #[.int .i64 x.1, .int .u64 x.2.1, .string x.2.2], .bool last] Q w := by
  refine ref82 ?_
  unfold S82
  rw [act_box]
  generalize hw1 : w.alloc _ = w1
  have b1 : blk w1 (siz w) = some (.cells #[.int .i64 x.1, .int .u64 x.2.1, .string x.2.2] 138) := by rw [← hw1]; exact blk_alloc_new
  have k1 : K0 w w1 := by rw [← hw1]; exact (K0.refl w).alloc _
  obtain ⟨pa, ca, hv⟩ := ho.form
  refine lp1 (fun mm y w' => K0 w1 w' ∧ ∃ k : Nat, y = .int .i64 (k : Int) ∧ k ≤ l.length ∧ mm = l.length - k ∧ ∀ p ∈ l.take k, p.1 < x.1) l.length ⟨K0.refl _, 0, rfl, Nat.zero_le _, rfl, fun p hp => by simp at hp⟩ ?_
  rintro mm y w2 ⟨k2, k, rfl, hk, rfl, hlo⟩ J hJ _j
  have kd := (K0.refl w2).drew
  have k02 := k1.trans k2
  have kdd := kd.drew
  have b2 := k2.blk b1 id
  have d0 : Sh.cel w2 (siz w) 0 = some (.int .i64 x.1) := cel_b b2 0
  have ho2 := ho.keep k02 fun _ _ => id
  have hwk := wrap_succ (i := k) (by omega)
  have s2 := k02.size
  -- the new row
  have nrow : ∀ {u : World} {J1 : Cur 1} {p1 p2 : Option Addr} {c1 c2 m : Nat} {rest : List Im}, K0 w2 u → Rd 3 w2 (.slice p1 k c1) k (flat BkImages.enc (l.take k)) → Rd 3 w2 (.slice p2 m c2) m (flat BkImages.enc rest) → m = rest.length → rest.length ≤ 1000 →
      (∀ u' v', Own u' B 138 3 v' (l.take k ++ x :: rest).length (flat BkImages.enc (l.take k ++ x :: rest)) → K0 w2 u' → J1 v' u') →
      (act Tryz.prog (Builtin.append_ #[131, 131] 131 #[(.slice none 0 0), .slice p1 k c1]) (fun t44 w_35 => 
        rd Tryz.prog (Instr.loadAt 138 (.pointer (some ⟨siz w, 0, none⟩))) (fun t45 => 
        act Tryz.prog (Instr.buildSlice 131 1 #[(0, t45)]) (fun t46 w_36 => 
        act Tryz.prog (Builtin.append_ #[131, 131] 131 #[t44, t46]) (fun t47 w_37 => 
        act Tryz.prog (Builtin.append_ #[131, 131] 131 #[t47, .slice p2 m c2]) (fun t52 w_38 => 
        J1 t52 w_38) w_37) w_36) w_35) w_35) u) ∧ (rd Tryz.prog (Instr.loadAt 138 (.pointer (some ⟨siz w, 0, none⟩))) (fun t45_1 => 
        (act Tryz.prog (Builtin.append_ #[131, 131] 131 #[(.slice none 0 0), .slice p1 k c1]) (fun t44_1 w_39 => 
        act Tryz.prog (Instr.buildSlice 131 1 #[(0, t45_1)]) (fun t46_1 w_40 => 
        act Tryz.prog (Builtin.append_ #[131, 131] 131 #[t44_1, t46_1]) (fun t47_1 w_41 => 
        act Tryz.prog (Builtin.append_ #[131, 131] 131 #[t47_1, .slice p2 m c2]) (fun t52_1 w_42 => 
        J1 t52_1 w_42) w_41) w_40) w_39) u) ∧ (act Tryz.prog (Instr.buildSlice 131 1 #[(0, t45_1)]) (fun t46_2 w_43 => 
        act Tryz.prog (Builtin.append_ #[131, 131] 131 #[(.slice none 0 0), .slice p1 k c1]) (fun t44_2 w_44 => 
        act Tryz.prog (Builtin.append_ #[131, 131] 131 #[t44_2, t46_2]) (fun t47_2 w_45 => 
        act Tryz.prog (Builtin.append_ #[131, 131] 131 #[t47_2, .slice p2 m c2]) (fun t52_2 w_46 => 
        J1 t52_2 w_46) w_45) w_44) w_43) u)) u) := fun {u J1 p1 p2 c1 c2 m rest} ku r1 r2 hm hr hK => by
    subst hm
    have ltk : (l.take k).length = k := by rw [List.length_take]; omega
    have ld : ∀ {u' : World}, K0 w2 u' → Sh.cel u' (siz w) 0 = some (.int .i64 x.1) ∧ Sh.cel u' (siz w) 1 = some (.int .u64 x.2.1) ∧ Sh.cel u' (siz w) 2 = some (.string x.2.2) := fun {u'} k' => by
      have := k'.blk b2 id
      exact ⟨cel_b this 0, cel_b this 1, cel_b this 2⟩
    have r1' : ∀ {u' : World}, K0 w2 u' → Rd 3 u' (.slice p1 k c1) (l.take k).length (flat BkImages.enc (l.take k)) := fun {u'} k' => by rw [ltk]; exact r1.keep0 k'
    have newr : ∀ {u' : World}, Rd 3 (u'.alloc (.cells #[.int .i64 x.1, .int .u64 x.2.1, .string x.2.2] 138)) (.slice (some ⟨siz u', 0, none⟩) 1 1) [x].length (flat BkImages.enc [x]) := fun {u'} =>
      ⟨rfl, .inr ⟨siz u', 0, 1, rfl, Nat.le_refl _, fun j hj => by rw [Nat.zero_add, cel_alloc_new, flat_one]; exact List.getElem?_toArray⟩⟩
    have su := ku.size
    have fin : ∀ {u' : World} {y : Value}, Own u' (siz w2) 138 3 y (l.take k ++ [x] ++ rest).length (flat BkImages.enc (l.take k ++ [x] ++ rest)) → K0 w2 u' → J1 y u' := fun {u' y} o k' => by
      have := o.le (base' := B) (by omega)
      rw [List.append_assoc] at this
      exact hK _ _ this k'
    refine ⟨?_, ?_⟩
    · refine RowIm.app0 (l := l.take k) (r1' ku) (by omega) fun u1 v1 o1 j1 => ?_
      have j1 := ku.trans j1
      have o1 := o1.le (base' := siz w2) su
      obtain ⟨c0, c1', c2'⟩ := ld j1
      simp only [stp, Nat.reduceAdd, Int.reduceLT, Int.reduceLE, Int.reduceEq, Int.reduceNe, ne_eq, bne_self_eq_false, beq_self_eq_true, stm, c0, c1', c2', Option.isSome_some, Option.getD_some]
      have ja := (K0.refl u1).alloc (.cells #[.int .i64 x.1, .int .u64 x.2.1, .string x.2.2] 138)
      refine RowIm.app2 (o1.keep ja fun _ _ => id) (j1.trans ja) newr (by rw [ltk]; simp; omega) fun u2 v2 o2 j2 => ?_
      refine RowIm.app2 o2 j2 (r2.keep0 j2) (by rw [List.length_append, ltk]; simp; omega) fun u3 v3 o3 j3 => ?_
      exact fin o3 j3
    · obtain ⟨c0, c1', c2'⟩ := ld ku
      simp only [stp, Nat.reduceAdd, Int.reduceLT, Int.reduceLE, Int.reduceEq, Int.reduceNe, ne_eq, bne_self_eq_false, beq_self_eq_true, stm, c0, c1', c2', Option.isSome_some, Option.getD_some]
      refine ⟨?_, ?_⟩
      · refine RowIm.app0 (l := l.take k) (r1' ku) (by omega) fun u1 v1 o1 j1 => ?_
        have j1 := ku.trans j1
        have o1 := o1.le (base' := siz w2) su
        try simp only [stp, Nat.reduceAdd, Int.reduceLT, Int.reduceLE, Int.reduceEq, Int.reduceNe, ne_eq, bne_self_eq_false, beq_self_eq_true, stm]
        have ja := (K0.refl u1).alloc (.cells #[.int .i64 x.1, .int .u64 x.2.1, .string x.2.2] 138)
        refine RowIm.app2 (o1.keep ja fun _ _ => id) (j1.trans ja) newr (by rw [ltk]; simp; omega) fun u2 v2 o2 j2 => ?_
        refine RowIm.app2 o2 j2 (r2.keep0 j2) (by rw [List.length_append, ltk]; simp; omega) fun u3 v3 o3 j3 => ?_
        exact fin o3 j3
      · have ja := (K0.refl u).alloc (.cells #[.int .i64 x.1, .int .u64 x.2.1, .string x.2.2] 138)
        have nr := newr (u' := u)
        generalize u.alloc (.cells #[.int .i64 x.1, .int .u64 x.2.1, .string x.2.2] 138) = ua at ja nr
        have ka := ku.trans ja
        refine RowIm.app0 (l := l.take k) (r1' ka) (by omega) fun u1 v1 o1 j1 => ?_
        have o1 := o1.le (base' := siz w2) ka.size
        refine RowIm.app2 o1 (ka.trans j1) (nr.keep0 j1) (by rw [ltk]; simp; omega) fun u2 v2 o2 j2 => ?_
        refine RowIm.app2 o2 j2 (r2.keep0 j2) (by rw [List.length_append, ltk]; simp; omega) fun u3 v3 o3 j3 => ?_
        exact fin o3 j3
  have hpl := putL_at (x := x) (last := last) hk hlo
  have ho2d := ho2.keep kdd fun _ _ => id
  have kddd := kdd.drew
  have ho3d := ho2.keep kddd fun _ _ => id
  have k2d := (k02.trans kdd)
  have own_ : ∀ {L : List Im}, putL x last l = L → ∀ {u' : World} {y : Value}, Own u' B 138 3 y L.length (flat BkImages.enc L) → K0 w2 u' → Q y u' := fun {L} e {u' y} o k' => by
    subst e
    exact hq _ _ o (k02.trans k')
  subst hv
  by_cases hlt : k < l.length
  · have hlt' : ((k : Int) < (l.length : Int)) := by omega
    obtain ⟨g, o, rfl, p0, p1, p2⟩ := im_at ho2.rd hlt
    have hdr : l.drop k = l[k] :: l.drop (k + 1) := List.drop_eq_getElem_cons hlt
    rw [hdr, putL] at hpl
    by_cases h1 : l[k].1 < x.1
    · simp only [stp, Nat.reduceAdd, Int.reduceLT, Int.reduceLE, Int.reduceEq, Int.reduceNe, ne_eq, bne_self_eq_false, beq_self_eq_true, stm, hlt', ix_131 hlt, cel_drew, p0, d0, h1, hwk, Option.isSome_some, Option.getD_some]
      refine hJ (l.length - (k + 1)) _ _ (by omega) ⟨k2.trans kd, k + 1, rfl, by omega, rfl, fun p hp => ?_⟩
      rw [List.take_add_one, List.getElem?_eq_getElem hlt, Option.toList_some] at hp
      rcases List.mem_append.1 hp with hp | hp
      · exact hlo p hp
      · simp at hp; subst hp; exact h1
    rw [if_neg h1] at hpl
    by_cases h2 : l[k].1 = x.1
    · rw [if_pos h2] at hpl
      cases last
      · simp only [stp, Nat.reduceAdd, Int.reduceLT, Int.reduceLE, Int.reduceEq, Int.reduceNe, ne_eq, bne_self_eq_false, beq_self_eq_true, stm, hlt', ix_131 hlt, cel_drew, p0, d0, h1, h2, hwk, Int.lt_irrefl, Option.isSome_some, Option.getD_some]
        rw [if_neg (by simp), ← hdr, List.take_append_drop] at hpl
        exact own_ hpl ho2d kdd
      · rw [if_pos rfl] at hpl
        simp only [stp, Nat.reduceAdd, Int.reduceLT, Int.reduceLE, Int.reduceEq, Int.reduceNe, ne_eq, bne_self_eq_false, beq_self_eq_true, stm, hlt', ix_131 hlt, cel_drew, p0, d0, h1, h2, hwk, Int.lt_irrefl, Option.isSome_some, Option.getD_some]
        refine jn1 (fun y u' => Own u' B 138 3 y (l.take k ++ x :: l.drop (k + 1)).length (flat BkImages.enc (l.take k ++ x :: l.drop (k + 1))) ∧ K0 w2 u') (fun J1 hJ1 => ?_) ?_
        · obtain ⟨q1, c1, _, _, e1, _, r1, _⟩ := RowIm.cut ho3d hk
          obtain ⟨_, _, q2, c2, _, e2, _, r2⟩ := RowIm.cut ho3d (k := k + 1) hlt
          rw [e1, e2]
          exact nrow kddd r1 r2 (by rw [List.length_drop]) (by rw [List.length_drop]; omega) fun u' v' o' k' => hJ1 _ _ ⟨o', k'⟩
        · rintro y u' ⟨o', k'⟩ _j
          exact own_ hpl o' k'
    · rw [if_neg h2] at hpl
      simp only [stp, Nat.reduceAdd, Int.reduceLT, Int.reduceLE, Int.reduceEq, Int.reduceNe, ne_eq, bne_self_eq_false, beq_self_eq_true, stm, hlt', ix_131 hlt, cel_drew, p0, d0, h1, h2, hwk, Option.isSome_some, Option.getD_some]
      rw [← hdr] at hpl
      refine jn1 (fun y u' => Own u' B 138 3 y (l.take k ++ x :: l.drop k).length (flat BkImages.enc (l.take k ++ x :: l.drop k)) ∧ K0 w2 u') (fun J1 hJ1 => ?_) ?_
      · obtain ⟨q1, c1, q2, c2, e1, e2, r1, r2⟩ := RowIm.cut ho3d hk
        rw [e1, e2]
        exact nrow kddd r1 r2 (by rw [List.length_drop]) (by rw [List.length_drop]; omega) fun u' v' o' k' => hJ1 _ _ ⟨o', k'⟩
      · rintro y u' ⟨o', k'⟩ _j
        exact own_ hpl o' k'
  · have hlt' : ¬ ((k : Int) < (l.length : Int)) := by omega
    have hkl : l.drop k = [] := List.drop_eq_nil_of_le (by omega)
    rw [hkl, putL] at hpl
    simp only [stp, Nat.reduceAdd, Int.reduceLT, Int.reduceLE, Int.reduceEq, Int.reduceNe, ne_eq, bne_self_eq_false, beq_self_eq_true, stm, hlt', hwk, cel_drew]
    refine jn1 (fun y u' => Own u' B 138 3 y (l.take k ++ x :: l.drop k).length (flat BkImages.enc (l.take k ++ x :: l.drop k)) ∧ K0 w2 u') (fun J1 hJ1 => ?_) ?_
    · obtain ⟨q1, c1, q2, c2, e1, e2, r1, r2⟩ := RowIm.cut ho3d hk
      rw [e1, e2]
      exact nrow kddd r1 r2 (by rw [List.length_drop]) (by rw [List.length_drop]; omega) fun u' v' o' k' => hJ1 _ _ ⟨o', k'⟩
    · rintro y u' ⟨o', k'⟩ _j
      rw [hkl] at o'
      exact own_ hpl o' k'
theorem rraise_c {lm : List (Pt Int)} {v : Value} {k : I3} (ho : RM w B v lm) (hB : B ≤ siz w) (hc : Canon lm) (hm : okM lm) (hl : lm.length ≤ 900)
    (hq : ∀ w' v' l', RM w' B v' l' → Canon l' → (∀ x, valB l' x = ask1 (valB lm) k x) → K0 w w' → Q v' w') :
    callS Tryz.prog 86 #[v, .agg #[.int .i64 k.1, .int .i64 k.2.1, .int .i64 k.2.2]] Q w := by
  refine ref86 ?_
  unfold S86
  rw [act_box]
  generalize hw1 : w.alloc _ = w1
  have b1 : blk w1 (siz w) = some (.cells #[.int .i64 k.1, .int .i64 k.2.1, .int .i64 k.2.2] 143) := by rw [← hw1]; exact blk_alloc_new
  have k1 : K0 w w1 := by rw [← hw1]; exact (K0.refl w).alloc _
  refine rlocks_c (RM.keep0 ho k1) (by omega) fun w2 v2 o2 k2 => ?_
  have b2 := k2.blk b1 id
  have d0 : Sh.cel w2 (siz w) 0 = some (.int .i64 k.1) := cel_b b2 0
  have d1 : Sh.cel w2 (siz w) 1 = some (.int .i64 k.2.1) := cel_b b2 1
  have d2 : Sh.cel w2 (siz w) 2 = some (.int .i64 k.2.2) := cel_b b2 2
  have k02 := k1.trans k2
  have hal := asLocks_len lm
  simp only [stp, Nat.reduceAdd, Int.reduceLT, Int.reduceLE, Int.reduceEq, Int.reduceNe, ne_eq, bne_self_eq_false, beq_self_eq_true, stm, d0, d1, d2, Option.isSome_some, Option.getD_some]
  refine pu_109 o2 (by intro u hu; simp only [List.mem_cons, List.not_mem_nil, or_false] at hu; rcases hu with rfl | rfl | rfl <;> exact one_int) (by omega) k2.size fun v3 w3 o3 k3 r3 => ?_
  have k13 : K0 w1 w3 := k2.trans' k3 fun g hg e => by have := (o2.lt e).1; omega
  have r : Rd 3 w3 v3 (asLocks lm ++ [k]).length (flat enc3 (asLocks lm ++ [k])) := by
    rw [List.length_append, List.length_singleton, flat_append, flat_one]
    exact o3.rd
  refine rnorm_c r (by rw [List.length_append, hal, List.length_singleton]; omega) fun w4 v4 l4 o4 hc4 hv4 _ k4 => ?_
  refine hq _ _ l4 (o4.le (Nat.le_trans hB (k1.trans k13).size)) hc4 (fun x => ?_) ((k1.trans k13).trans k4)
  rw [hv4, askF_snoc, askF_asLocks hc hm]
end
end Go.Proofs.YtndjohbbaplekaaGreatX
