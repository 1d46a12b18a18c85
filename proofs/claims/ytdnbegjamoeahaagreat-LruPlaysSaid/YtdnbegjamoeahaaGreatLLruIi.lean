/- The cache of last uses, keys int, values int: what each of its functions does. Conditions: the cache lies in memory as 'Rep' says. -/
import Derived.Test.YtdnbegjamoeahaaGreatLT
import Derived.Test.YtdnbegjamoeahaaGreatLShL
import Derived.Test.YtdnbegjamoeahaaGreatLLruB
set_option linter.unusedSimpArgs false
set_option linter.unusedVariables false
namespace Go.Proofs.YtdnbegjamoeahaaGreatL.Lii
open Go.Sh Go.Sh.Lru

set_option maxRecDepth 100000
section
variable {B : Nat} {w : World} {c mb room : Nat} {L : List Nd} {Q : Value → World → Prop}

theorem find_hit {n : Nd} (h : Rep isI64 B w c mb room L) (hn : n ∈ L) (hq : Q (.pointer (some ⟨n.b, 0, none⟩)) w) : callS Tryz.prog 115 #[.pointer (some ⟨c, 0, none⟩), n.k] Q w := by
  obtain ⟨l, hl, hp⟩ := h.kv
  refine ref115 ?_
  unfold S115
  simp only [stp, Nat.reduceAdd, Int.reduceLT, Int.reduceLE, Int.reduceEq, Int.reduceNe, ne_eq, bne_self_eq_false, beq_self_eq_true, h.m, Option.isSome_some, Option.getD_some]
  rw [rd_eq (lu_31 hl (h.okKv hp) (h.okk n hn) false), h.kvHit hp hn]
  exact hq

theorem find_miss {k : Value} (h : Rep isI64 B w c mb room L) (hk : isI64 k) (hn : ∀ n ∈ L, n.k ≠ k) (hq : Q (.pointer none) w) : callS Tryz.prog 115 #[.pointer (some ⟨c, 0, none⟩), k] Q w := by
  obtain ⟨l, hl, hp⟩ := h.kv
  refine ref115 ?_
  unfold S115
  simp only [stp, Nat.reduceAdd, Int.reduceLT, Int.reduceLE, Int.reduceEq, Int.reduceNe, ne_eq, bne_self_eq_false, beq_self_eq_true, h.m, Option.isSome_some, Option.getD_some]
  rw [rd_eq (lu_31 hl (h.okKv hp) hk false), h.kvMiss hp hn]
  exact hq

theorem room_c (h : Rep isI64 B w c mb room L) (hq : Q (.int .i64 room) w) : callS Tryz.prog 29 #[.pointer (some ⟨c, 0, none⟩)] Q w := by
  refine ref29 ?_
  unfold S29
  simp only [stp, Nat.reduceAdd, Int.reduceLT, Int.reduceLE, Int.reduceEq, Int.reduceNe, ne_eq, bne_self_eq_false, beq_self_eq_true, h.rm, Option.isSome_some, Option.getD_some]
  exact hq

theorem len_c (h : Rep isI64 B w c mb room L) (hq : Q (.int .i64 L.length) w) : callS Tryz.prog 28 #[.pointer (some ⟨c, 0, none⟩)] Q w := by
  obtain ⟨l, hl, hp⟩ := h.kv
  refine ref28 ?_
  unfold S28
  simp only [stp, Nat.reduceAdd, Int.reduceLT, Int.reduceLE, Int.reduceEq, Int.reduceNe, ne_eq, bne_self_eq_false, beq_self_eq_true, h.m, Option.isSome_some, Option.getD_some]
  rw [rd_eq (lm_31 hl), hp.length_eq, List.length_map]
  exact hq

theorem off_c {p q : Pl} {n : Nat} (hn : (cel w n 3) = some (ptr p)) (hp : (cel w n 4) = some (ptr q)) (fp : fre w p.1 = true) (fq : fre w q.1 = true) (cp : (cel w p.1 (p.2 + 4)).isSome = true)
    (cq : (cel w q.1 (q.2 + 3)).isSome = true) (hq : Q (.tuple #[]) (offW w p q)) : callS Tryz.prog 118 #[.pointer (some ⟨n, 0, none⟩)] Q w := by
  refine ref118 ?_
  unfold S118
  have cq' : (cel (sto w.drew p.1 (p.2 + 4) (ptr q)) q.1 (q.2 + 3)).isSome = true := by
    rw [cel_sto (by rw [cel_drew]; exact cp)]
    split
    · rfl
    · exact cq
  have e1 : one (ptr q) = true := rfl
  have e2 : one (ptr p) = true := rfl
  simp only [stp, Nat.reduceAdd, Int.reduceLT, Int.reduceLE, Int.reduceEq, Int.reduceNe, ne_eq, bne_self_eq_false, beq_self_eq_true, cel_drew, hn, hp, Option.isSome_some, Option.getD_some, Nat.zero_add]
  simp only [ptr] at *
  simp only [stp, Nat.reduceAdd, Int.reduceLT, Int.reduceLE, Int.reduceEq, Int.reduceNe, ne_eq, bne_self_eq_false, beq_self_eq_true, cel_drew, fre_drew, fre_sto, fp, fq, cp, cq', e1, e2]
  exact hq

theorem first_c {f x : Pl} (hf : cel w c 5 = some (ptr f)) (hx0 : x.2 = 0) (hxc : x.1 ≠ c) (fc : fre w c = true) (fx : fre w x.1 = true) (ff : fre w f.1 = true) (c3 : (cel w x.1 3).isSome = true) (c4 : (cel w x.1 4).isSome = true)
    (hcf : (cel w f.1 (f.2 + 3)).isSome = true) (hfx : f.1 ≠ x.1) (hq : Q (.tuple #[]) (fstW w (c, 1) x f)) : callS Tryz.prog 119 #[.pointer (some ⟨c, 0, none⟩), .pointer (some ⟨x.1, 0, none⟩)] Q w := by
  refine ref119 ?_
  unfold S119
  obtain ⟨x, x0⟩ := x
  simp only at hx0 hxc fx c3 c4 hfx
  subst hx0
  have e1 : one (ptr f) = true := rfl
  simp only [fstW, ptr, Nat.zero_add] at *
  have d1 : (cel (sto w.drew x 3 (.pointer (some ⟨c, 1, none⟩))) x 4).isSome = true := by rw [cel_sto_ne (by omega)]; exact c4
  simp only [stp, Nat.reduceAdd, Int.reduceLT, Int.reduceLE, Int.reduceEq, Int.reduceNe, ne_eq, bne_self_eq_false, beq_self_eq_true, cel_drew, fre_drew, fre_sto, hf, fx, c3, d1, Option.isSome_some, Option.getD_some, Nat.zero_add, Nat.reduceAdd]
  have g3 : cel (sto (sto w.drew x 3 (.pointer (some ⟨c, 1, none⟩))) x 4 (.pointer (some ⟨f.1, f.2, none⟩))) x 3 = some (.pointer (some ⟨c, 1, none⟩)) := by
    rw [cel_sto_ne (by omega), cel_sto_same (by rw [cel_drew]; exact c3)]
  have g4 : cel (sto (sto w.drew x 3 (.pointer (some ⟨c, 1, none⟩))) x 4 (.pointer (some ⟨f.1, f.2, none⟩))) x 4 = some (.pointer (some ⟨f.1, f.2, none⟩)) := cel_sto_same d1
  simp only [g3, g4, stp, Nat.reduceAdd, Int.reduceLT, Int.reduceLE, Int.reduceEq, Int.reduceNe, ne_eq, bne_self_eq_false, beq_self_eq_true, cel_drew, fre_drew, fre_sto, fx, Option.isSome_some, Option.getD_some, Nat.reduceAdd]
  have k5 : (cel (sto (sto w.drew x 3 (.pointer (some ⟨c, 1, none⟩))) x 4 (.pointer (some ⟨f.1, f.2, none⟩))) c 5).isSome = true := by
    rw [cel_sto_ne (fun e => hxc e.1.symm), cel_sto_ne (fun e => hxc e.1.symm), cel_drew, hf]; rfl
  have k3 : (cel (sto (sto (sto w.drew x 3 (.pointer (some ⟨c, 1, none⟩))) x 4 (.pointer (some ⟨f.1, f.2, none⟩))).drew c 5 (.pointer (some ⟨x, 0, none⟩))) f.1 (f.2 + 3)).isSome = true := by
    rw [cel_sto (by rw [cel_drew]; exact k5)]
    split
    · rfl
    · rw [cel_drew, cel_sto_ne (fun e => hfx e.1), cel_sto_ne (fun e => hfx e.1)]; exact hcf
  simp only [stp, Nat.reduceAdd, Int.reduceLT, Int.reduceLE, Int.reduceEq, Int.reduceNe, ne_eq, bne_self_eq_false, beq_self_eq_true, cel_drew, fre_drew, fre_sto, fc, ff, k5, k3]
  exact hq

/-- The last one that has no pin; nil: there is none. -/
theorem idle_c (h : Rep isI64 B w c mb room L) (hq1 : ∀ A n C, L = A ++ n :: C → n.p = 0 → (∀ m ∈ C, m.p ≠ 0) → Q (.pointer (some ⟨n.b, 0, none⟩)) w) (hq2 : (∀ m ∈ L, m.p ≠ 0) → Q (.pointer none) w) :
    callS Tryz.prog 117 #[.pointer (some ⟨c, 0, none⟩)] Q w := by
  refine ref117 ?_
  unfold S117
  obtain ⟨i, x, hix⟩ := ends ((c, 1) : Pl) (L.map Nd.pl)
  have hl := (Rep.link (A := L) (C := []) (by simpa using h) hix (y := (c, 1)) (r := []) rfl).2
  simp only [ptr] at hl
  simp only [stp, Nat.reduceAdd, Int.reduceLT, Int.reduceLE, Int.reduceEq, Int.reduceNe, ne_eq, bne_self_eq_false, beq_self_eq_true] at hl ⊢
  simp only [hl, Option.isSome_some, Option.getD_some, stp, Nat.reduceAdd, Int.reduceLT, Int.reduceLE, Int.reduceEq, Int.reduceNe, ne_eq, bne_self_eq_false, beq_self_eq_true]
  refine lp1 (fun m v w' => w' = w ∧ ∃ A C i y, L = A ++ C ∧ A.length = m ∧ (∀ n ∈ C, n.p ≠ 0) ∧ ((c, 1) : Pl) :: A.map Nd.pl = i ++ [y] ∧ v = .pointer (some ⟨y.1, y.2, none⟩)) L.length ⟨rfl, L, [], i, x, by simp, rfl, by simp, hix, rfl⟩ ?_
  rintro m v w' ⟨rfl, A, C, i, y, rfl, hm, hC, hi, rfl⟩ J hJ _
  have my : y ∈ ((c, 1) : Pl) :: (A ++ C).map Nd.pl := by
    have : y ∈ ((c, 1) : Pl) :: A.map Nd.pl := by rw [hi]; simp
    simp only [List.mem_cons, List.map_append, List.mem_append] at this ⊢
    rcases this with h | h
    · exact .inl h
    · exact .inr (.inl h)
  have fy := h.pl_fre my
  have fc := h.fc
  simp only [stp, Nat.reduceAdd, Int.reduceLT, Int.reduceLE, Int.reduceEq, Int.reduceNe, ne_eq, bne_self_eq_false, beq_self_eq_true, fy, fc]
  rcases List.eq_nil_or_concat A with rfl | ⟨A0, n, rfl⟩
  · have : y = (c, 1) := by
      have h1 : [((c, 1) : Pl)] = i ++ [y] := by simpa using hi
      have := congrArg List.getLast? h1
      simpa using this.symm
    subst this
    simp only [and_self, not_true_eq_false, decide_false, stp, Nat.reduceAdd, Int.reduceLT, Int.reduceLE, Int.reduceEq, Int.reduceNe, ne_eq, bne_self_eq_false, beq_self_eq_true]
    exact hq2 (by simpa using hC)
  · have hy : y = n.pl := by
      rw [List.concat_eq_append, List.map_append, ← List.cons_append] at hi
      have := (List.append_inj' hi rfl).2
      simpa using this.symm
    subst hy
    have hn : n ∈ A0.concat n ++ C := by simp
    have hnn := h.node n hn
    have hnc : ¬ (n.b = c ∧ (0 : Nat) = 1) := by omega
    simp only [Nd.pl, hnc, not_false_eq_true, decide_true, stp, Nat.reduceAdd, Int.reduceLT, Int.reduceLE, Int.reduceEq, Int.reduceNe, ne_eq, bne_self_eq_false, beq_self_eq_true, hnn.p, Option.isSome_some, Option.getD_some]
    by_cases hp : n.p = 0
    · have : ((n.p : Int) = 0) := by omega
      simp only [this, decide_true, stp, Nat.reduceAdd, Int.reduceLT, Int.reduceLE, Int.reduceEq, Int.reduceNe, ne_eq, bne_self_eq_false, beq_self_eq_true]
      exact hq1 A0 n C (by simp) hp hC
    · have : ¬ ((n.p : Int) = 0) := by omega
      obtain ⟨i', x', hix'⟩ := ends ((c, 1) : Pl) (A0.map Nd.pl)
      obtain ⟨z, rz, hz⟩ := begins ((c, 1) : Pl) (C.map Nd.pl)
      have hl := (Rep.link (A := A0) (C := n :: C) (by simpa using h) hix' (y := n.pl) (r := C.map Nd.pl ++ [(c, 1)]) (by simp)).2
      simp only [ptr, Nd.pl, Nat.zero_add] at hl
      simp only [this, decide_false, stp, Nat.reduceAdd, Int.reduceLT, Int.reduceLE, Int.reduceEq, Int.reduceNe, ne_eq, bne_self_eq_false, beq_self_eq_true, hl, Option.isSome_some, Option.getD_some]
      refine hJ A0.length _ _ (by simp at hm; omega) ⟨rfl, A0, n :: C, i', x', by simp, rfl, ?_, hix', rfl⟩
      intro k hk
      rcases List.mem_cons.1 hk with rfl | hk
      · exact hp
      · exact hC k hk

theorem seg_cyc {A C : List Nd} {n : Nd} {p q : Pl} {i r : List Pl} (hi : ((c, 1) : Pl) :: A.map Nd.pl = i ++ [p]) (hq : C.map Nd.pl ++ [((c, 1) : Pl)] = q :: r) :
    i ++ p :: q :: r = ((c, 1) : Pl) :: ((A ++ C).map Nd.pl ++ [(c, 1)]) := by
  have : i ++ p :: q :: r = (i ++ [p]) ++ (q :: r) := by simp
  rw [this, ← hi, ← hq]; simp

theorem use_c {A C : List Nd} {n : Nd} (h : Rep isI64 B w c mb room (A ++ n :: C)) (hq : ∀ w', Rep isI64 B w' c mb room (n :: (A ++ C)) → Keep (foot c mb (A ++ n :: C)) w w' → siz w' = siz w → Q (.tuple #[]) w') :
    callS Tryz.prog 116 #[.pointer (some ⟨c, 0, none⟩), .pointer (some ⟨n.b, 0, none⟩)] Q w := by
  obtain ⟨p, q, i, r, hi, hqr, hs, hap, h1, h2, h3, h4, l1, l2⟩ := h.around
  obtain ⟨mp', mq⟩ := beside (n := n) hi hqr
  have hs' := seg_off hap hs h1 h2 h3 h4
  obtain ⟨f, rf, hf⟩ := begins ((c, 1) : Pl) ((A ++ C).map Nd.pl)
  have hs2 := hs'
  rw [seg_cyc (n := n) hi hqr, hf] at hs2
  have mf : f ∈ ((c, 1) : Pl) :: (A ++ n :: C).map Nd.pl := by
    have : f ∈ (A ++ C).map Nd.pl ++ [((c, 1) : Pl)] := by rw [hf]; simp
    simp only [List.mem_cons, List.map_append, List.map_cons, List.mem_append, List.not_mem_nil, or_false] at this ⊢
    rcases this with (h | h) | h
    · exact .inr (.inl h)
    · exact .inr (.inr (.inr h))
    · exact .inl h
  have mn : n.pl ∈ ((c, 1) : Pl) :: (A ++ n :: C).map Nd.pl := by simp
  have hnb := h.nb
  have s1 : ∀ {w : World} {b o b' o' : Nat} {v : Value}, (cel w b' o').isSome = true → (cel (sto w b o v) b' o').isSome = true := by
    intro w b o b' o' v hc
    by_cases e : b' = b ∧ o' = o
    · obtain ⟨rfl, rfl⟩ := e; rw [cel_sto_same hc]; rfl
    · rw [cel_sto_ne e]; exact hc
  refine ref116 ?_
  unfold S116
  refine off_c (p := p) (q := q) l1.2 (by have := l2.1; simpa only [Nd.pl, Nat.zero_add] using this) (h.pl_fre mp') (h.pl_fre mq) (by rw [l1.1]; rfl) (by rw [l2.2]; rfl) ?_
  have hcf : f.1 ≠ n.b := fun e => by
    have : f ∈ (A ++ C).map Nd.pl ++ [((c, 1) : Pl)] := by rw [hf]; simp
    simp only [List.mem_append, List.mem_map, List.mem_cons, List.not_mem_nil, or_false] at this
    rcases this with ⟨m, hm, rfl⟩ | rfl
    · exact hnb.2.1 m (by simpa using hm) e
    · exact hnb.1 e.symm
  refine first_c (f := f) (x := n.pl) hs2.1.1 rfl hnb.1 (by rw [fre_off]; exact h.fc) (by rw [fre_off]; exact h.pl_fre mn) (by rw [fre_off]; exact h.pl_fre mf)
    (s1 (s1 (by rw [cel_drew]; have := l1.2; simp only [Nd.pl] at this ⊢; rw [show (3 : Nat) = 0 + 3 from rfl, this]; rfl))) (s1 (s1 (by rw [cel_drew]; have := l2.1; simp only [Nd.pl] at this ⊢; rw [show (4 : Nat) = 0 + 4 from rfl, this]; rfl)))
    (by rw [hs2.1.2]; rfl) hcf ?_
  refine hq _ (h.use hi hqr hs' hf) ?_ ?_
  · refine (keep_off (.inl (pl_foot mp')) (.inl (pl_foot mq))).trans ?_
    exact keep_fst (.inl (.inl rfl)) (.inl (pl_foot mn)) (.inl (pl_foot mf))
  · rw [fstW, siz_sto, siz_sto, siz_drew, siz_sto, siz_sto, siz_drew, offW, siz_sto, siz_sto, siz_drew]

theorem one_ok {k : Value} (h : isI64 k) : one k = true := by obtain ⟨_, rfl⟩ := h; rfl

theorem peek_hit {n : Nd} (h : Rep isI64 B w c mb room L) (hn : n ∈ L) (hq : Q (.tuple #[n.v, .bool true]) w) : callS Tryz.prog 23 #[.pointer (some ⟨c, 0, none⟩), n.k] Q w := by
  refine ref23 ?_
  unfold S23
  refine find_hit h hn ?_
  simp only [stp, Nat.reduceAdd, Int.reduceLT, Int.reduceLE, Int.reduceEq, Int.reduceNe, ne_eq, bne_self_eq_false, beq_self_eq_true, (h.node n hn).v, Option.isSome_some, Option.getD_some]
  exact hq
theorem peek_miss {k : Value} (h : Rep isI64 B w c mb room L) (hk : isI64 k) (hn : ∀ n ∈ L, n.k ≠ k) (hq : Q (.tuple #[(.int .i64 0), .bool false]) w) : callS Tryz.prog 23 #[.pointer (some ⟨c, 0, none⟩), k] Q w := by
  refine ref23 ?_
  unfold S23
  refine find_miss h hk hn ?_
  simp only [stp, Nat.reduceAdd, Int.reduceLT, Int.reduceLE, Int.reduceEq, Int.reduceNe, ne_eq, bne_self_eq_false, beq_self_eq_true]
  exact hq

theorem put_old {A C : List Nd} {n : Nd} {v : Value} (h : Rep isI64 B w c mb room (A ++ n :: C)) (hv : one v = true)
    (hq : ∀ w', Rep isI64 B w' c mb room ({ n with v } :: (A ++ C)) → Keep (foot c mb (A ++ n :: C)) w w' → Q (.tuple #[(.int .i64 0), (.int .i64 0), .bool false, .bool true]) w') :
    callS Tryz.prog 16 #[.pointer (some ⟨c, 0, none⟩), n.k, v] Q w := by
  refine ref16 ?_
  unfold S16
  simp only [stp, Nat.reduceAdd, Int.reduceLT, Int.reduceLE, Int.reduceEq, Int.reduceNe, ne_eq, bne_self_eq_false, beq_self_eq_true]
  generalize hw1 : w.alloc _ = w1
  have h1 : Rep isI64 B w1 c mb room (A ++ n :: C) := hw1 ▸ h.alloc _
  have g0 : cel w1 (siz w) 0 = some (.int .i64 0) := by rw [← hw1, cel_alloc_new]; rfl
  have g1 : cel w1 (siz w) 1 = some (.int .i64 0) := by rw [← hw1, cel_alloc_new]; rfl
  have k1 : Keep (foot c mb (A ++ n :: C)) w w1 := hw1 ▸ (Keep.refl _ w).alloc _
  have gn : ¬ foot c mb (A ++ n :: C) (siz w) := fun e => by have := h.lt e; omega
  refine find_hit h1 (n := n) (by simp) ?_
  have hn := h1.node n (by simp)
  simp only [stp, Nat.reduceAdd, Int.reduceLT, Int.reduceLE, Int.reduceEq, Int.reduceNe, ne_eq, bne_self_eq_false, beq_self_eq_true, hn.v, Option.isSome_some, hv, hn.fre]
  have h2 := h1.setV (v := v) hv
  refine use_c (n := { n with v }) h2 fun w3 h3 k3 _ => ?_
  have hb : ∀ b, foot c mb (A ++ { n with v } :: C) b → foot c mb (A ++ n :: C) b := fun b hb => by
    rcases hb with e | e | ⟨m, hm, e⟩
    · exact .inl e
    · exact .inr (.inl e)
    · rcases List.mem_append.1 hm with hm | hm
      · exact .inr (.inr ⟨m, by simp [hm], e⟩)
      · rcases List.mem_cons.1 hm with rfl | hm
        · exact .inr (.inr ⟨n, by simp, e⟩)
        · exact .inr (.inr ⟨m, by simp [hm], e⟩)
  have k13 : Keep (foot c mb (A ++ n :: C)) w1 w3 := (((Keep.refl _ w1).sto (.inl (.inr (.inr ⟨n, by simp, rfl⟩))) _ _)).trans (k3.mono fun b _ => hb b)
  have g0' := k13.cel g0 gn
  have g1' := k13.cel g1 gn
  simp only [stp, Nat.reduceAdd, Int.reduceLT, Int.reduceLE, Int.reduceEq, Int.reduceNe, ne_eq, bne_self_eq_false, beq_self_eq_true, cel_drew, g0', g1', Option.isSome_some, Option.getD_some]
  exact hq _ h3.drew ((k1.trans k13).drew)

/-- A key that is not there. -/
theorem put_miss {k v : Value} (h : Rep isI64 B w c mb room L) (hB : B ≤ siz w) (hk : isI64 k) (hv : one v = true) (hn : ∀ n ∈ L, n.k ≠ k)
    (hq0 : ∀ w', (room = 0 ∨ (room ≤ L.length ∧ ∀ m ∈ L, m.p ≠ 0)) → Rep isI64 B w' c mb room L → Keep (foot c mb L) w w' → Q (.tuple #[(.int .i64 0), (.int .i64 0), .bool false, .bool false]) w')
    (hqE : ∀ A n C, L = A ++ n :: C → n.p = 0 → (∀ m ∈ C, m.p ≠ 0) → room ≤ L.length → ∀ w' b, siz w ≤ b → Rep isI64 B w' c mb room (⟨b, k, v, 0⟩ :: (A ++ C)) → Keep (foot c mb L) w w' → Q (.tuple #[n.k, n.v, .bool true, .bool true]) w')
    (hqN : L.length < room → ∀ w' b, siz w ≤ b → Rep isI64 B w' c mb room (⟨b, k, v, 0⟩ :: L) → Keep (foot c mb L) w w' → Q (.tuple #[(.int .i64 0), (.int .i64 0), .bool false, .bool true]) w') :
    callS Tryz.prog 16 #[.pointer (some ⟨c, 0, none⟩), k, v] Q w := by
  refine ref16 ?_
  unfold S16
  simp only [stp, Nat.reduceAdd, Int.reduceLT, Int.reduceLE, Int.reduceEq, Int.reduceNe, ne_eq, bne_self_eq_false, beq_self_eq_true]
  generalize hw1 : w.alloc _ = w1
  have h1 : Rep isI64 B w1 c mb room L := hw1 ▸ h.alloc _
  have g0 : cel w1 (siz w) 0 = some (.int .i64 0) := by rw [← hw1, cel_alloc_new]; rfl
  have g1 : cel w1 (siz w) 1 = some (.int .i64 0) := by rw [← hw1, cel_alloc_new]; rfl
  have gf : fre w1 (siz w) = true := by rw [← hw1, fre_alloc_new]
  have s1 : siz w1 = siz w + 1 := by rw [← hw1, siz_alloc]
  have k1 : Keep (foot c mb L) w w1 := hw1 ▸ (Keep.refl _ w).alloc _
  have gn : ¬ foot c mb L (siz w) := fun e => by have := h.lt e; omega
  refine find_miss h1 hk hn ?_
  simp only [stp, Nat.reduceAdd, Int.reduceLT, Int.reduceLE, Int.reduceEq, Int.reduceNe, ne_eq, bne_self_eq_false, beq_self_eq_true]
  refine room_c h1 ?_
  simp only [stp, Nat.reduceAdd, Int.reduceLT, Int.reduceLE, Int.reduceEq, Int.reduceNe, ne_eq, bne_self_eq_false, beq_self_eq_true]
  by_cases hr0 : room = 0
  · have : (room : Int) = 0 := by omega
    simp only [this, decide_true, stp, Nat.reduceAdd, Int.reduceLT, Int.reduceLE, Int.reduceEq, Int.reduceNe, ne_eq, bne_self_eq_false, beq_self_eq_true, g0, g1, Option.isSome_some, Option.getD_some, cel_drew]
    exact hq0 _ (.inl hr0) h1.drew k1.drew
  have hr0' : ¬ ((room : Int) = 0) := by omega
  simp only [hr0', decide_false, stp, Nat.reduceAdd, Int.reduceLT, Int.reduceLE, Int.reduceEq, Int.reduceNe, ne_eq, bne_self_eq_false, beq_self_eq_true]
  refine jn1 (fun x w' => ∃ (L' : List Nd) (zk zv : Value) (out : Bool), x = .bool out ∧ Rep isI64 B w' c mb room L' ∧ L'.length < room ∧ (∀ n ∈ L', n ∈ L) ∧ cel w' (siz w) 0 = some zk ∧ cel w' (siz w) 1 = some zv ∧
      Keep (foot c mb L) w w' ∧ siz w < siz w' ∧ ∀ w' b, siz w ≤ b → Rep isI64 B w' c mb room (⟨b, k, v, 0⟩ :: L') → Keep (foot c mb L) w w' → Q (.tuple #[zk, zv, .bool out, .bool true]) w') (fun J hJ => ?_) ?_
  · obtain ⟨l, hl, hp⟩ := h1.kv
    simp only [stp, Nat.reduceAdd, Int.reduceLT, Int.reduceLE, Int.reduceEq, Int.reduceNe, ne_eq, bne_self_eq_false, beq_self_eq_true, h1.m, h1.rm, Option.isSome_some, Option.getD_some, cel_drew]
    rw [rd_eq (lm_31 (w := w1.drew) hl)]
    simp only [stp, Nat.reduceAdd, Int.reduceLT, Int.reduceLE, Int.reduceEq, Int.reduceNe, ne_eq, bne_self_eq_false, beq_self_eq_true, h1.m, h1.rm, Option.isSome_some, Option.getD_some, cel_drew, hp.length_eq, List.length_map]
    by_cases hfull : room ≤ L.length
    · have : (room : Int) ≤ (L.length : Int) := by omega
      simp only [this, decide_true, stp, Nat.reduceAdd, Int.reduceLT, Int.reduceLE, Int.reduceEq, Int.reduceNe, ne_eq, bne_self_eq_false, beq_self_eq_true]
      refine idle_c h1.drew (fun A n C hL hn0 hC => ?_) (fun hall => ?_)
      · subst hL
        obtain ⟨p, q, i, r, hi, hqr, hs, hap, a1, a2, a3, a4, l1, l2⟩ := h1.drew.around
        obtain ⟨mp', mq⟩ := beside (n := n) hi hqr
        have hs' := seg_off hap hs a1 a2 a3 a4
        simp only [stp, Nat.reduceAdd, Int.reduceLT, Int.reduceLE, Int.reduceEq, Int.reduceNe, ne_eq, bne_self_eq_false, beq_self_eq_true]
        refine off_c (p := p) (q := q) l1.2 (by have := l2.1; simpa only [Nd.pl, Nat.zero_add] using this) (h1.drew.pl_fre mp') (h1.drew.pl_fre mq) (by rw [l1.1]; rfl) (by rw [l2.2]; rfl) ?_
        have hnn := h1.drew.node n (by simp)
        have hnb := h1.nb
        have hst := off_still (w := w1.drew) mp' mq
        have e0 : cel (offW w1.drew p q) n.b 0 = some n.k := by rw [hst _ _ ⟨fun e => hnb.1 e.1, by omega⟩]; exact hnn.k
        have e1 : cel (offW w1.drew p q) n.b 1 = some n.v := by rw [hst _ _ ⟨fun e => hnb.1 e.1, by omega⟩]; exact hnn.v
        have em : cel (offW w1.drew p q) c 0 = some (.map (some mb)) := by rw [hst _ _ ⟨by omega, by omega⟩]; exact h1.drew.m
        simp only [stp, Nat.reduceAdd, Int.reduceLT, Int.reduceLE, Int.reduceEq, Int.reduceNe, ne_eq, bne_self_eq_false, beq_self_eq_true, cel_drew, e0, em, Option.isSome_some, Option.getD_some]
        have hmp : mp (offW w1.drew p q) mb = some l := by rw [mp_off (h1.mb_pl mp') (h1.mb_pl mq)]; exact hl
        refine md_31 (w := (offW w1.drew p q).drew) hmp (h1.okKv hp) (h1.okk n (by simp)) fun w2 hm2 => ?_
        have hm2' : MapTo (offW w1.drew p q) w2 mb (adel n.k l) := ⟨hm2.os, hm2.tape, hm2.output, hm2.size, hm2.map, hm2.block⟩
        have h2 := h1.drew.del hi hqr hs' hp hm2'
        have hnm : n.b ≠ mb := fun e => (h1.mb_ne (h1.node n (by simp)).fre) e.symm
        have f0 : cel w2 n.b 0 = some n.k := by rw [cel, hm2.block _ hnm]; exact e0
        have f1 : cel w2 n.b 1 = some n.v := by rw [cel, hm2.block _ hnm]; exact e1
        have kk : Keep (foot c mb (A ++ n :: C)) w1 w2 := by
          have ka : Keep (foot c mb (A ++ n :: C)) w1 (offW w1.drew p q) := (Keep.refl _ w1).drew.trans (keep_off (.inl (pl_foot mp')) (.inl (pl_foot mq)))
          have kb := hm2'.keep.mono (F' := foot c mb (A ++ n :: C)) (fun b _ e => .inr (.inl e))
          exact ka.trans kb
        have gf2 := kk.fre gf gn
        have gg0 := kk.cel g0 gn
        have gg1 := kk.cel g1 gn
        have hgn : n.b ≠ siz w := fun e => gn (.inr (.inr ⟨n, by simp, e.symm⟩))
        refine jn1 (fun x w' => x = .bool true ∧ J (.bool true) w') (fun J1 hJ1 => ?_) (fun x w' ⟨hx, hj⟩ _ => by rw [hx]; exact hj)
        have on := hnn.ok
        have ov := hnn.ov
        have gg1' : cel (sto w2.drew (siz w) 0 n.k) (siz w) 1 = some (.int .i64 0) := by rw [cel_sto_ne (by omega), cel_drew]; exact gg1
        have f1s : cel (sto w2.drew (siz w) 0 n.k) n.b 1 = some n.v := by rw [cel_sto_ne (fun e => hgn e.1), cel_drew]; exact f1
        simp only [stp, Nat.reduceAdd, Int.reduceLT, Int.reduceLE, Int.reduceEq, Int.reduceNe, ne_eq, bne_self_eq_false, beq_self_eq_true, cel_drew, f0, f1, f1s, fre_drew, fre_sto, gf2, gg0, gg1', on, ov, Option.isSome_some, Option.getD_some]
        have ksto : Keep (fun b => b = siz w) w2 (sto (sto w2.drew (siz w) 0 n.k) (siz w) 1 n.v) := ((Keep.refl (fun b => b = siz w) w2).drew.sto (b := siz w) (.inl rfl) 0 n.k).sto (b := siz w) (.inl rfl) 1 n.v
        have hsub : ∀ m ∈ A ++ C, m ∈ A ++ n :: C := fun m hm => by rcases List.mem_append.1 hm with h | h <;> simp [h]
        have fin : J (.bool true) (sto (sto w2.drew (siz w) 0 n.k) (siz w) 1 n.v) := by
         refine hJ _ _ ⟨A ++ C, n.k, n.v, true, rfl, h2.keep ksto (fun b hb e => gn (by
            subst e
            rcases hb with e | e | ⟨m, hm, e⟩
            · exact .inl e
            · exact .inr (.inl e)
            · exact .inr (.inr ⟨m, hsub m hm, e⟩))), ?_, hsub, ?_, ?_, ?_, ?_, fun w' b hb hr hkp => hqE A n C rfl hn0 hC hfull w' b hb hr hkp⟩
         · have := h.len; simp only [List.length_append, List.length_cons] at this ⊢; omega
         · rw [cel_sto_ne (by omega), cel_sto_same (by rw [cel_drew, gg0]; rfl)]
         · rw [cel_sto_same (by rw [gg1']; rfl)]
         · exact (k1.trans kk).trans' ksto (fun b hb e => absurd e (by omega))
         · have := kk.size; have := ksto.size; omega
        exact ⟨hJ1 _ _ ⟨rfl, fin⟩, hJ1 _ _ ⟨rfl, fin⟩⟩
      · simp only [stp, Nat.reduceAdd, Int.reduceLT, Int.reduceLE, Int.reduceEq, Int.reduceNe, ne_eq, bne_self_eq_false, beq_self_eq_true, g0, g1, Option.isSome_some, Option.getD_some, cel_drew]
        exact hq0 _ (.inr ⟨hfull, hall⟩) h1.drew.drew k1.drew.drew
    · have : ¬ ((room : Int) ≤ (L.length : Int)) := by omega
      simp only [this, decide_false, stp, Nat.reduceAdd, Int.reduceLT, Int.reduceLE, Int.reduceEq, Int.reduceNe, ne_eq, bne_self_eq_false, beq_self_eq_true]
      exact hJ _ _ ⟨L, (.int .i64 0), (.int .i64 0), false, rfl, h1.drew, by omega, fun _ h => h, g0, g1, k1.drew, by rw [siz_drew]; omega, fun w' b hb hr hkp => hqN (by omega) w' b hb hr hkp⟩
  · rintro x w2 ⟨L', zk, zv, out, rfl, h2, hlen, hsub, z0, z1, k2, s2, hfin⟩ _
    have ok1 := one_ok hk
    simp only [stp, Nat.reduceAdd, Int.reduceLT, Int.reduceLE, Int.reduceEq, Int.reduceNe, ne_eq, bne_self_eq_false, beq_self_eq_true, ok1, hv]
    generalize hw3 : w2.alloc _ = w3
    have h3 : Rep isI64 B w3 c mb room L' := hw3 ▸ h2.alloc _
    have x0 : cel w3 (siz w2) 0 = some k := by rw [← hw3, cel_alloc_new]; rfl
    have x1 : cel w3 (siz w2) 1 = some v := by rw [← hw3, cel_alloc_new]; rfl
    have x2 : cel w3 (siz w2) 2 = some (.int .i64 ((0 : Nat) : Int)) := by rw [← hw3, cel_alloc_new]; rfl
    have x3 : cel w3 (siz w2) 3 = some (.pointer none) := by rw [← hw3, cel_alloc_new]; rfl
    have x4 : cel w3 (siz w2) 4 = some (.pointer none) := by rw [← hw3, cel_alloc_new]; rfl
    have xf : fre w3 (siz w2) = true := by rw [← hw3, fre_alloc_new]
    have y0 : cel w3 (siz w) 0 = some zk := by rw [← hw3, cel_alloc_old s2]; exact z0
    have y1 : cel w3 (siz w) 1 = some zv := by rw [← hw3, cel_alloc_old s2]; exact z1
    have k3 : Keep (foot c mb L) w w3 := hw3 ▸ k2.alloc _
    have s3 : siz w3 = siz w2 + 1 := by rw [← hw3, siz_alloc]
    have xn : ¬ foot c mb L' (siz w2) := fun e => by have := h2.lt e; omega
    obtain ⟨l, hl, hp⟩ := h3.kv
    simp only [stp, Nat.reduceAdd, Int.reduceLT, Int.reduceLE, Int.reduceEq, Int.reduceNe, ne_eq, bne_self_eq_false, beq_self_eq_true, h3.m, Option.isSome_some, Option.getD_some]
    refine mu_31 hl (h3.okKv hp) hk fun w4 hm4 => ?_
    obtain ⟨f, rf, hf⟩ := begins ((c, 1) : Pl) (L'.map Nd.pl)
    let nd : Nd := ⟨siz w2, k, v, 0⟩
    have hnode : Lru.Node w3 nd := ⟨x0, x1, x2, xf, ok1, hv⟩
    have h5 := h3.add (x := nd) hp hf xn (by have := k2.size; simp only [nd]; omega) hnode (by rw [show nd.b = siz w2 from rfl, x3]; rfl) (by rw [show nd.b = siz w2 from rfl, x4]; rfl) (fun n hn' => hn n (hsub n hn')) hk hlen hm4
    have fm : foot c mb L' f.1 ∧ f.1 ≠ mb := by
      have hf' : f ∈ ((c, 1) : Pl) :: L'.map Nd.pl := by
        have : f ∈ L'.map Nd.pl ++ [((c, 1) : Pl)] := by rw [hf]; simp
        simp only [List.mem_cons, List.mem_append, List.not_mem_nil, or_false] at this ⊢
        exact this.symm
      exact ⟨pl_foot hf', (h3.mb_pl hf').symm⟩
    have xm : siz w2 ≠ mb := fun e => xn (.inr (.inl e))
    have xc : siz w2 ≠ c := fun e => xn (.inl e)
    have cm : c ≠ mb := (h3.mb_pl (x := (c, 1)) (by simp)).symm
    have c4e : ∀ b o, b ≠ mb → cel w4 b o = cel w3 b o := fun b o hb => by rw [cel, hm4.block b hb]; rfl
    have f4e : ∀ b, b ≠ mb → fre w4 b = fre w3 b := fun b hb => by rw [fre, hm4.block b hb]; rfl
    have hlk := (Rep.link (A := []) (C := L') (by simpa using h3) (i := []) (x := (c, 1)) rfl hf)
    have hfx : f.1 ≠ siz w2 := fun e => xn (e ▸ fm.1)
    have hff : fre w3 f.1 = true := by
      have hf' : f ∈ ((c, 1) : Pl) :: L'.map Nd.pl := by
        have : f ∈ L'.map Nd.pl ++ [((c, 1) : Pl)] := by rw [hf]; simp
        simp only [List.mem_cons, List.mem_append, List.not_mem_nil, or_false] at this ⊢
        exact this.symm
      exact h3.pl_fre hf'
    refine first_c (f := f) (x := nd.pl) (by rw [c4e _ _ cm]; exact hlk.1) rfl xc (by rw [f4e _ cm]; exact h3.fc) (by rw [show nd.pl.1 = siz w2 from rfl, f4e _ xm]; exact xf) (by rw [f4e _ fm.2]; exact hff)
      (by rw [show nd.pl.1 = siz w2 from rfl, c4e _ _ xm, x3]; rfl) (by rw [show nd.pl.1 = siz w2 from rfl, c4e _ _ xm, x4]; rfl) (by rw [c4e _ _ fm.2, hlk.2]; rfl) hfx ?_
    have kf : Keep (fun b => foot c mb L' b ∨ b = siz w2) w3 (fstW w4 (c, 1) nd.pl f) := by
      refine (hm4.keep.mono (F' := fun b => foot c mb L' b ∨ b = siz w2) (fun b _ e => .inl (.inr (.inl e)))).trans ?_
      exact keep_fst (.inl (.inl (.inl rfl))) (.inl (.inr rfl)) (.inl (.inl fm.1))
    have gL' : ¬ (foot c mb L' (siz w) ∨ siz w = siz w2) := by
      rintro (e | e)
      · rcases e with e | e | ⟨m, hm, e⟩
        · exact gn (.inl e)
        · exact gn (.inr (.inl e))
        · exact gn (.inr (.inr ⟨m, hsub m hm, e⟩))
      · omega
    have q0 := kf.cel y0 gL'
    have q1 := kf.cel y1 gL'
    simp only [stp, Nat.reduceAdd, Int.reduceLT, Int.reduceLE, Int.reduceEq, Int.reduceNe, ne_eq, bne_self_eq_false, beq_self_eq_true, cel_drew, q0, q1, Option.isSome_some, Option.getD_some]
    refine hfin _ (siz w2) (by have := k2.size; omega) h5.drew (Keep.drew ?_)
    refine k3.trans' kf (fun b hb e => ?_)
    rcases e with e | e
    · rcases e with e | e | ⟨m, hm, e⟩
      · exact .inl e
      · exact .inr (.inl e)
      · exact .inr (.inr ⟨m, hsub m hm, e⟩)
    · have := k2.size; omega

def clampR (r : Int) : Nat := (min (max r 0) 100000).toNat

theorem new_c {r : Int} (hB : B ≤ siz w) (hq : ∀ w', Rep isI64 B w' (siz w + 1) (siz w) (clampR r) [] → Keep (fun _ => False) w w' → Q (.pointer (some ⟨siz w + 1, 0, none⟩)) w') :
    callS Tryz.prog 13 #[.int .i64 r] Q w := by
  refine ref13 ?_
  unfold S13
  simp only [stp, Nat.reduceAdd, Int.reduceLT, Int.reduceLE, Int.reduceEq, Int.reduceNe, ne_eq, bne_self_eq_false, beq_self_eq_true, siz_alloc]
  generalize hw1 : (w.alloc _).alloc _ = w1
  have hb : blk w1 (siz w) = some (.map #[] 0) := by rw [← hw1, blk_alloc_old (by rw [siz_alloc]; omega), blk_alloc_new]
  have hc : ∀ i, cel w1 (siz w + 1) i = (#[.map (some (siz w)), (.int .i64 0), (.int .i64 0), .int .i64 0, .pointer none, .pointer none, .int .i64 (min (max r 0) 100000)] : Array Value)[i]? := fun i => by
    rw [← hw1, ← siz_alloc (w := w) (o := .map #[] 0), cel_alloc_new]
  have hf : fre w1 (siz w + 1) = true := by rw [← hw1, ← siz_alloc (w := w) (o := .map #[] 0), fre_alloc_new]
  have k1 : Keep (fun _ => False) w w1 := hw1 ▸ ((Keep.refl _ w).alloc _).alloc _
  have c4 : (cel w1 (siz w + 1) 4).isSome = true := by rw [hc]; rfl
  have c5 : (cel w1 (siz w + 1) 5).isSome = true := by rw [hc]; rfl
  have c5' : (cel (sto w1.drew (siz w + 1) 4 (.pointer (some ⟨siz w + 1, 1, none⟩))) (siz w + 1) 5).isSome = true := by rw [cel_sto_ne (by omega), cel_drew]; exact c5
  simp only [stp, Nat.reduceAdd, Int.reduceLT, Int.reduceLE, Int.reduceEq, Int.reduceNe, ne_eq, bne_self_eq_false, beq_self_eq_true, cel_drew, fre_drew, fre_sto, hf, c4, c5']
  refine hq _ ?_ ?_
  · have hce : ∀ i, i ≠ 4 → i ≠ 5 → cel (sto (sto w1.drew (siz w + 1) 4 (.pointer (some ⟨siz w + 1, 1, none⟩))) (siz w + 1) 5 (.pointer (some ⟨siz w + 1, 1, none⟩))) (siz w + 1) i = cel w1 (siz w + 1) i := fun i h4 h5 => by
      rw [cel_sto_ne (by omega), cel_sto_ne (by omega), cel_drew]
    refine ⟨⟨by omega, hB, by simp⟩, by rw [hce 0 (by omega) (by omega), hc]; rfl, ?_, by rw [fre_sto, fre_sto, fre_drew]; exact hf, ⟨⟨?_, ?_⟩, trivial⟩, by simp, ⟨[], ?_, by simp⟩, by simp, by simp, by simp, by simp, by unfold clampR; omega⟩
    · rw [hce 6 (by omega) (by omega), hc]
      show some (Value.int .i64 _) = _
      unfold clampR
      rw [Int.toNat_of_nonneg (by omega)]
    · rw [cel_sto_same c5']; rfl
    · rw [cel_sto_ne (by omega), cel_sto_same (by rw [cel_drew]; exact c4)]; rfl
    · rw [mp_sto (by omega), mp_sto (by omega)]; show mp w1 _ = _; rw [mp, hb]; rfl
  · exact (k1.drew.sto (.inr (by omega)) _ _).sto (.inr (by omega)) _ _
end
end Go.Proofs.YtdnbegjamoeahaaGreatL.Lii
