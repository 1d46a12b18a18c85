/- The cache of last uses, keys int, values entries: what each of its functions does. Conditions: the cache lies in memory as 'Rep' says. -/
import Derived.Test.YtjfookddoaemfaaT
import Derived.Test.YtjfookddoaemfaaShL
import Derived.Test.YtjfookddoaemfaaKeep
import Derived.Test.YtjfookddoaemfaaLrvB
set_option linter.unusedSimpArgs false
set_option linter.unusedVariables false
namespace Go.Proofs.Ytjfookddoaemfaa.Lv
open Go.Sh Go.Sh.Lrv
set_option maxRecDepth 100000
section
variable {B : Nat} {w : World} {c mb room : Nat} {L : List Nd} {Q : Value → World → Prop}

theorem find_hit {n : Nd} (h : Rep isI64 B w c mb room L) (hn : n ∈ L) (hq : Q (.pointer (some ⟨n.b, 0, none⟩)) w) : callS Try.prog 43 #[.pointer (some ⟨c, 0, none⟩), n.k] Q w := by
  obtain ⟨l, hl, hp⟩ := h.kv
  refine ref43 ?_
  unfold S43
  simp only [stp, Nat.reduceAdd, Int.reduceLT, Int.reduceLE, Int.reduceEq, Int.reduceNe, ne_eq, bne_self_eq_false, beq_self_eq_true, h.m, Option.isSome_some, Option.getD_some]
  rw [rd_eq (lu_76 hl (h.okKv hp) (h.okk n hn) false), h.kvHit hp hn]
  exact hq

theorem find_miss {k : Value} (h : Rep isI64 B w c mb room L) (hk : isI64 k) (hn : ∀ n ∈ L, n.k ≠ k) (hq : Q (.pointer none) w) : callS Try.prog 43 #[.pointer (some ⟨c, 0, none⟩), k] Q w := by
  obtain ⟨l, hl, hp⟩ := h.kv
  refine ref43 ?_
  unfold S43
  simp only [stp, Nat.reduceAdd, Int.reduceLT, Int.reduceLE, Int.reduceEq, Int.reduceNe, ne_eq, bne_self_eq_false, beq_self_eq_true, h.m, Option.isSome_some, Option.getD_some]
  rw [rd_eq (lu_76 hl (h.okKv hp) hk false), h.kvMiss hp hn]
  exact hq

theorem room_c (h : Rep isI64 B w c mb room L) (hq : Q (.int .i64 room) w) : callS Try.prog 21 #[.pointer (some ⟨c, 0, none⟩)] Q w := by
  refine ref21 ?_
  unfold S21
  simp only [stp, Nat.reduceAdd, Int.reduceLT, Int.reduceLE, Int.reduceEq, Int.reduceNe, ne_eq, bne_self_eq_false, beq_self_eq_true, h.rm, Option.isSome_some, Option.getD_some]
  exact hq

theorem len_c (h : Rep isI64 B w c mb room L) (hq : Q (.int .i64 L.length) w) : callS Try.prog 29 #[.pointer (some ⟨c, 0, none⟩)] Q w := by
  obtain ⟨l, hl, hp⟩ := h.kv
  refine ref29 ?_
  unfold S29
  simp only [stp, Nat.reduceAdd, Int.reduceLT, Int.reduceLE, Int.reduceEq, Int.reduceNe, ne_eq, bne_self_eq_false, beq_self_eq_true, h.m, Option.isSome_some, Option.getD_some]
  rw [rd_eq (lm_76 hl), hp.length_eq, List.length_map]
  exact hq

theorem off_c {p q : Pl} {n : Nat} (hn : (cel w n 7) = some (ptr p)) (hp : (cel w n 8) = some (ptr q)) (fp : fre w p.1 = true) (fq : fre w q.1 = true) (cp : (cel w p.1 (p.2 + 8)).isSome = true)
    (cq : (cel w q.1 (q.2 + 7)).isSome = true) (hq : Q (.tuple #[]) (offW w p q)) : callS Try.prog 46 #[.pointer (some ⟨n, 0, none⟩)] Q w := by
  refine ref46 ?_
  unfold S46
  have cq' : (cel (sto w.drew p.1 (p.2 + 8) (ptr q)) q.1 (q.2 + 7)).isSome = true := by
    rw [cel_sto (by rw [cel_drew]; exact cp)]
    split
    · rfl
    · exact cq
  have e1 : one (ptr q) = true := rfl
  have e2 : one (ptr p) = true := rfl
  simp only [stp, Nat.reduceAdd, Int.reduceLT, Int.reduceLE, Int.reduceEq, Int.reduceNe, ne_eq, bne_self_eq_false, beq_self_eq_true, cel_drew, hn, hp, Option.isSome_some, Option.getD_some, Nat.zero_add]
  simp only [ptr] at *
  simp only [stp, Nat.reduceAdd, Int.reduceLT, Int.reduceLE, Int.reduceEq, Int.reduceNe, ne_eq, bne_self_eq_false, beq_self_eq_true, cel_drew, fre_drew, fre_sto, fp, fq, cp, cq', e1, e2]
  exact hq

theorem first_c {f x : Pl} (hf : cel w c 9 = some (ptr f)) (hx0 : x.2 = 0) (hxc : x.1 ≠ c) (fc : fre w c = true) (fx : fre w x.1 = true) (ff : fre w f.1 = true) (c3 : (cel w x.1 7).isSome = true) (c4 : (cel w x.1 8).isSome = true)
    (hcf : (cel w f.1 (f.2 + 7)).isSome = true) (hfx : f.1 ≠ x.1) (hq : Q (.tuple #[]) (fstW w (c, 1) x f)) : callS Try.prog 47 #[.pointer (some ⟨c, 0, none⟩), .pointer (some ⟨x.1, 0, none⟩)] Q w := by
  refine ref47 ?_
  unfold S47
  obtain ⟨x, x0⟩ := x
  simp only at hx0 hxc fx c3 c4 hfx
  subst hx0
  have e1 : one (ptr f) = true := rfl
  simp only [fstW, ptr, Nat.zero_add] at *
  have d1 : (cel (sto w.drew x 7 (.pointer (some ⟨c, 1, none⟩))) x 8).isSome = true := by rw [cel_sto_ne (by omega)]; exact c4
  simp only [stp, Nat.reduceAdd, Int.reduceLT, Int.reduceLE, Int.reduceEq, Int.reduceNe, ne_eq, bne_self_eq_false, beq_self_eq_true, cel_drew, fre_drew, fre_sto, hf, fx, c3, d1, Option.isSome_some, Option.getD_some, Nat.zero_add, Nat.reduceAdd]
  have g3 : cel (sto (sto w.drew x 7 (.pointer (some ⟨c, 1, none⟩))) x 8 (.pointer (some ⟨f.1, f.2, none⟩))) x 7 = some (.pointer (some ⟨c, 1, none⟩)) := by
    rw [cel_sto_ne (by omega), cel_sto_same (by rw [cel_drew]; exact c3)]
  have g4 : cel (sto (sto w.drew x 7 (.pointer (some ⟨c, 1, none⟩))) x 8 (.pointer (some ⟨f.1, f.2, none⟩))) x 8 = some (.pointer (some ⟨f.1, f.2, none⟩)) := cel_sto_same d1
  simp only [g3, g4, stp, Nat.reduceAdd, Int.reduceLT, Int.reduceLE, Int.reduceEq, Int.reduceNe, ne_eq, bne_self_eq_false, beq_self_eq_true, cel_drew, fre_drew, fre_sto, fx, Option.isSome_some, Option.getD_some, Nat.reduceAdd]
  have k5 : (cel (sto (sto w.drew x 7 (.pointer (some ⟨c, 1, none⟩))) x 8 (.pointer (some ⟨f.1, f.2, none⟩))) c 9).isSome = true := by
    rw [cel_sto_ne (fun e => hxc e.1.symm), cel_sto_ne (fun e => hxc e.1.symm), cel_drew, hf]; rfl
  have k3 : (cel (sto (sto (sto w.drew x 7 (.pointer (some ⟨c, 1, none⟩))) x 8 (.pointer (some ⟨f.1, f.2, none⟩))).drew c 9 (.pointer (some ⟨x, 0, none⟩))) f.1 (f.2 + 7)).isSome = true := by
    rw [cel_sto (by rw [cel_drew]; exact k5)]
    split
    · rfl
    · rw [cel_drew, cel_sto_ne (fun e => hfx e.1), cel_sto_ne (fun e => hfx e.1)]; exact hcf
  simp only [stp, Nat.reduceAdd, Int.reduceLT, Int.reduceLE, Int.reduceEq, Int.reduceNe, ne_eq, bne_self_eq_false, beq_self_eq_true, cel_drew, fre_drew, fre_sto, fc, ff, k5, k3]
  exact hq

/-- The last one that has no pin; nil: there is none. -/
theorem idle_c (h : Rep isI64 B w c mb room L) (hq1 : ∀ A n C, L = A ++ n :: C → n.p = 0 → (∀ m ∈ C, m.p ≠ 0) → Q (.pointer (some ⟨n.b, 0, none⟩)) w) (hq2 : (∀ m ∈ L, m.p ≠ 0) → Q (.pointer none) w) :
    callS Try.prog 45 #[.pointer (some ⟨c, 0, none⟩)] Q w := by
  refine ref45 ?_
  unfold S45
  obtain ⟨i, x, hix⟩ := ends ((c, 1) : Pl) (L.map Nd.pl)
  have hl := (Rep.link (A := L) (C := []) (by simpa using h) hix (y := (c, 1)) (r := []) rfl).2
  simp only [ptr] at hl
  simp only [stp, Nat.reduceAdd, Int.reduceLT, Int.reduceLE, Int.reduceEq, Int.reduceNe, ne_eq, bne_self_eq_false, beq_self_eq_true] at hl ⊢
  simp only [hl, Option.isSome_some, Option.getD_some, stp, Nat.reduceAdd, Int.reduceLT, Int.reduceLE, Int.reduceEq, Int.reduceNe, ne_eq, bne_self_eq_false, beq_self_eq_true]
  refine lp1 (fun m v w' => w' = w ∧ ∃ A C i y, L = A ++ C ∧ A.length = m ∧ (∀ n ∈ C, n.p ≠ 0) ∧ ((c, 1) : Pl) :: A.map Nd.pl = i ++ [y] ∧ v = .pointer (some ⟨y.1, y.2, none⟩)) L.length ⟨rfl, L, [], i, x, by simp, rfl, by simp, hix, rfl⟩ ?_
  rintro m v w' ⟨rfl, A, C, i, y, rfl, hm, hC, hi, rfl⟩ J hJ _
  have my : y ∈ ((c, 1) : Pl) :: (A ++ C).map Nd.pl := by
    have : y ∈ ((c, 1) : Pl) :: A.map Nd.pl := by rw [hi]; simp
    simp only [List.mem_cons, List.map_append, List.mem_append] at this ⊢
    rcases this with h | h
    · exact .inl h
    · exact .inr (.inl h)
  have fy := h.pl_fre my
  have fc := h.fc
  simp only [stp, Nat.reduceAdd, Int.reduceLT, Int.reduceLE, Int.reduceEq, Int.reduceNe, ne_eq, bne_self_eq_false, beq_self_eq_true, fy, fc]
  rcases List.eq_nil_or_concat A with rfl | ⟨A0, n, rfl⟩
  · have : y = (c, 1) := by
      have h1 : [((c, 1) : Pl)] = i ++ [y] := by simpa using hi
      have := congrArg List.getLast? h1
      simpa using this.symm
    subst this
    simp only [and_self, not_true_eq_false, decide_false, stp, Nat.reduceAdd, Int.reduceLT, Int.reduceLE, Int.reduceEq, Int.reduceNe, ne_eq, bne_self_eq_false, beq_self_eq_true]
    exact hq2 (by simpa using hC)
  · have hy : y = n.pl := by
      rw [List.concat_eq_append, List.map_append, ← List.cons_append] at hi
      have := (List.append_inj' hi rfl).2
      simpa using this.symm
    subst hy
    have hn : n ∈ A0.concat n ++ C := by simp
    have hnn := h.node n hn
    have hnc : ¬ (n.b = c ∧ (0 : Nat) = 1) := by omega
    simp only [Nd.pl, hnc, not_false_eq_true, decide_true, stp, Nat.reduceAdd, Int.reduceLT, Int.reduceLE, Int.reduceEq, Int.reduceNe, ne_eq, bne_self_eq_false, beq_self_eq_true, hnn.p, Option.isSome_some, Option.getD_some]
    by_cases hp : n.p = 0
    · have : ((n.p : Int) = 0) := by omega
      simp only [this, decide_true, stp, Nat.reduceAdd, Int.reduceLT, Int.reduceLE, Int.reduceEq, Int.reduceNe, ne_eq, bne_self_eq_false, beq_self_eq_true]
      exact hq1 A0 n C (by simp) hp hC
    · have : ¬ ((n.p : Int) = 0) := by omega
      obtain ⟨i', x', hix'⟩ := ends ((c, 1) : Pl) (A0.map Nd.pl)
      obtain ⟨z, rz, hz⟩ := begins ((c, 1) : Pl) (C.map Nd.pl)
      have hl := (Rep.link (A := A0) (C := n :: C) (by simpa using h) hix' (y := n.pl) (r := C.map Nd.pl ++ [(c, 1)]) (by simp)).2
      simp only [ptr, Nd.pl, Nat.zero_add] at hl
      simp only [this, decide_false, stp, Nat.reduceAdd, Int.reduceLT, Int.reduceLE, Int.reduceEq, Int.reduceNe, ne_eq, bne_self_eq_false, beq_self_eq_true, hl, Option.isSome_some, Option.getD_some]
      refine hJ A0.length _ _ (by simp at hm; omega) ⟨rfl, A0, n :: C, i', x', by simp, rfl, ?_, hix', rfl⟩
      intro k hk
      rcases List.mem_cons.1 hk with rfl | hk
      · exact hp
      · exact hC k hk

theorem seg_cyc {A C : List Nd} {n : Nd} {p q : Pl} {i r : List Pl} (hi : ((c, 1) : Pl) :: A.map Nd.pl = i ++ [p]) (hq : C.map Nd.pl ++ [((c, 1) : Pl)] = q :: r) :
    i ++ p :: q :: r = ((c, 1) : Pl) :: ((A ++ C).map Nd.pl ++ [(c, 1)]) := by
  have : i ++ p :: q :: r = (i ++ [p]) ++ (q :: r) := by simp
  rw [this, ← hi, ← hq]; simp

theorem use_d {A C : List Nd} {n : Nd} (h : Rep isI64 B w c mb room (A ++ n :: C)) (hq : ∀ w', Rep isI64 B w' c mb room (n :: (A ++ C)) → Keep (fun b => foot c mb (A ++ n :: C) b ∧ b ≠ mb) w w' → siz w' = siz w → Q (.tuple #[]) w') :
    callS Try.prog 44 #[.pointer (some ⟨c, 0, none⟩), .pointer (some ⟨n.b, 0, none⟩)] Q w := by
  obtain ⟨p, q, i, r, hi, hqr, hs, hap, h1, h2, h3, h4, l1, l2⟩ := h.around
  obtain ⟨mp', mq⟩ := beside (n := n) hi hqr
  have hs' := seg_off hap hs h1 h2 h3 h4
  obtain ⟨f, rf, hf⟩ := begins ((c, 1) : Pl) ((A ++ C).map Nd.pl)
  have hs2 := hs'
  rw [seg_cyc (n := n) hi hqr, hf] at hs2
  have mf : f ∈ ((c, 1) : Pl) :: (A ++ n :: C).map Nd.pl := by
    have : f ∈ (A ++ C).map Nd.pl ++ [((c, 1) : Pl)] := by rw [hf]; simp
    simp only [List.mem_cons, List.map_append, List.map_cons, List.mem_append, List.not_mem_nil, or_false] at this ⊢
    rcases this with (h | h) | h
    · exact .inr (.inl h)
    · exact .inr (.inr (.inr h))
    · exact .inl h
  have mn : n.pl ∈ ((c, 1) : Pl) :: (A ++ n :: C).map Nd.pl := by simp
  have hnb := h.nb
  have s1 : ∀ {w : World} {b o b' o' : Nat} {v : Value}, (cel w b' o').isSome = true → (cel (sto w b o v) b' o').isSome = true := by
    intro w b o b' o' v hc
    by_cases e : b' = b ∧ o' = o
    · obtain ⟨rfl, rfl⟩ := e; rw [cel_sto_same hc]; rfl
    · rw [cel_sto_ne e]; exact hc
  refine ref44 ?_
  unfold S44
  refine off_c (p := p) (q := q) l1.2 (by have := l2.1; simpa only [Nd.pl, Nat.zero_add] using this) (h.pl_fre mp') (h.pl_fre mq) (by rw [l1.1]; rfl) (by rw [l2.2]; rfl) ?_
  have hcf : f.1 ≠ n.b := fun e => by
    have : f ∈ (A ++ C).map Nd.pl ++ [((c, 1) : Pl)] := by rw [hf]; simp
    simp only [List.mem_append, List.mem_map, List.mem_cons, List.not_mem_nil, or_false] at this
    rcases this with ⟨m, hm, rfl⟩ | rfl
    · exact hnb.2.1 m (by simpa using hm) e
    · exact hnb.1 e.symm
  refine first_c (f := f) (x := n.pl) hs2.1.1 rfl hnb.1 (by rw [fre_off]; exact h.fc) (by rw [fre_off]; exact h.pl_fre mn) (by rw [fre_off]; exact h.pl_fre mf)
    (s1 (s1 (by rw [cel_drew]; have := l1.2; simp only [Nd.pl] at this ⊢; rw [show (7 : Nat) = 0 + 7 from rfl, this]; rfl))) (s1 (s1 (by rw [cel_drew]; have := l2.1; simp only [Nd.pl] at this ⊢; rw [show (8 : Nat) = 0 + 8 from rfl, this]; rfl)))
    (by rw [hs2.1.2]; rfl) hcf ?_
  refine hq _ (h.use hi hqr hs' hf) ?_ ?_
  · refine (keep_off (.inl ⟨pl_foot mp', fun e => h.mb_pl mp' e.symm⟩) (.inl ⟨pl_foot mq, fun e => h.mb_pl mq e.symm⟩)).trans ?_
    exact keep_fst (.inl ⟨.inl rfl, fun e => h.mb_pl (x := (c, 1)) (by simp) e.symm⟩) (.inl ⟨pl_foot mn, fun e => h.mb_pl mn e.symm⟩) (.inl ⟨pl_foot mf, fun e => h.mb_pl mf e.symm⟩)
  · rw [fstW, siz_sto, siz_sto, siz_drew, siz_sto, siz_sto, siz_drew, offW, siz_sto, siz_sto, siz_drew]

theorem use_c {A C : List Nd} {n : Nd} (h : Rep isI64 B w c mb room (A ++ n :: C)) (hq : ∀ w', Rep isI64 B w' c mb room (n :: (A ++ C)) → Keep (foot c mb (A ++ n :: C)) w w' → siz w' = siz w → Q (.tuple #[]) w') :
    callS Try.prog 44 #[.pointer (some ⟨c, 0, none⟩), .pointer (some ⟨n.b, 0, none⟩)] Q w :=
  use_d h fun w' h' k s => hq w' h' (k.mono fun b _ hb => hb.1) s

theorem one_ok {k : Value} (h : isI64 k) : one k = true := by obtain ⟨_, rfl⟩ := h; rfl


def clampR (r : Int) : Nat := (min (max r 0) 100000).toNat
abbrev vE (e : En) : Value := .agg #[.int .i64 e.1, .int .u64 e.2.1, .string e.2.2.1, .bool e.2.2.2.1, .int .u64 e.2.2.2.2]
def e0 : En := (0, 0, ⟨#[]⟩, false, 0)
def EnAt (w : World) (b o : Nat) (e : En) : Prop := ∀ j, j < 5 → cel w b (o + j) = (encE e)[j]?
theorem EnAt.cs {b o : Nat} {e : En} (h : EnAt w b o e) : cel w b o = some (.int .i64 e.1) ∧ cel w b (o + 1) = some (.int .u64 e.2.1) ∧ cel w b (o + 2) = some (.string e.2.2.1) ∧ cel w b (o + 3) = some (.bool e.2.2.2.1) ∧ cel w b (o + 4) = some (.int .u64 e.2.2.2.2) :=
  ⟨h 0 (by omega), h 1 (by omega), h 2 (by omega), h 3 (by omega), h 4 (by omega)⟩
theorem EnAt.keep {w' : World} {F : Nat → Prop} {b o : Nat} {e : En} (h : EnAt w b o e) (k : Keep F w w') (hF : ¬ F b) : EnAt w' b o e := fun j hj => by
  have := h j hj
  rw [List.getElem?_eq_getElem (show j < (encE e).length from hj)] at this ⊢
  exact k.cel this hF
theorem EnAt.is {b o : Nat} {e : En} (h : EnAt w b o e) (j : Nat) (hj : j < 5) : (cel w b (o + j)).isSome = true := by
  rw [h j hj, List.getElem?_eq_getElem (show j < (encE e).length from hj)]; rfl
theorem ld_en {b o : Nat} {e : En} {k : Value → Prop} (h : EnAt w b o e) : rd Try.prog (Instr.loadAt 49 (.pointer (some ⟨b, o, none⟩))) k w = k (vE e) := by
  obtain ⟨c0, c1, c2, c3, c4⟩ := h.cs
  rw [ld_49 (by rw [c0]; rfl) (by rw [c1]; rfl) (by rw [c2]; rfl) (by rw [c3]; rfl) (by rw [c4]; rfl), c0, c1, c2, c3, c4]; rfl
theorem ldr_en {b o : Nat} {e : En} {k : Value → Prop} (h : EnAt w b o e) : rd Try.prog (resL 49 (.pointer (some ⟨b, o, none⟩))) k w = k (vE e) := by
  rw [show resL 49 (.pointer (some ⟨b, o, none⟩)) = Instr.loadAt 49 (.pointer (some ⟨b, o, none⟩)) from rfl]
  exact ld_en h
theorem st_en {b o : Nat} {e : En} {k : Value → World → Prop} (h : ∀ j, j < 5 → (cel w b (o + j)).isSome = true) (hf : fre w b = true) : act Try.prog (thenU (Instr.storeAt 49 (.pointer (some ⟨b, o, none⟩)) (vE e))) k w = k undef (stoL w b o (encE e)) := by
  rw [st_49 one_int one_int one_str one_bool one_int (show (cel w b o).isSome = true from h 0 (by omega)) (h 1 (by omega)) (h 2 (by omega)) (h 3 (by omega)) (h 4 (by omega)) hf]; rfl
theorem enAt_sto {b o : Nat} {e : En} (h : ∀ j, j < 5 → (cel w b (o + j)).isSome = true) : EnAt (stoL w b o (encE e)) b o e := fun j hj => by
  rw [cel_stoL (encE e) h, if_pos ⟨rfl, by omega, by rw [encE_len]; omega⟩, Nat.add_sub_cancel_left]
theorem enAt_new {b : Nat} {e : En} {tt : TypeId} (h : blk w b = some (.cells (encE e).toArray tt)) : EnAt w b 0 e := fun j hj => by
  rw [cel_b h, Nat.zero_add, List.getElem?_toArray]
/-- The end of a function whose first result is an entry in a variable of its own. -/
theorem fin_en {g : Nat} {e : En} {k : Value → World → Prop} {w0 : World} {F : Nat → Prop} (h : ∀ j, j < 5 → (cel w g (0 + j)).isSome = true) (hf : fre w g = true) (hg : siz w0 ≤ g) (hk : Keep F w0 w) (hq : ∀ w', Keep F w0 w' → Keep (fun b => b = g) w w' → EnAt w' g 0 e → k undef w') :
    act Try.prog (thenU (Instr.storeAt 49 (.pointer (some ⟨g, 0, none⟩)) (vE e))) k w := by
  rw [st_en h hf]
  exact hq _ (Keep.stoL _ 0 hk (.inr hg)) (Keep.stoL _ 0 (Keep.refl _ _) (.inl rfl)) (enAt_sto h)
theorem peek_hit {n : Nd} (h : Rep isI64 B w c mb room L) (hn : n ∈ L) (hq : ∀ w', K0 w w' → Q (.tuple #[vE n.v, .bool true]) w') : callS Try.prog 22 #[.pointer (some ⟨c, 0, none⟩), n.k] Q w := by
  refine ref22 ?_
  unfold S22
  rw [al_49]
  generalize hw1 : w.alloc (.cells #[.int .i64 0, .int .u64 0, .string ⟨#[]⟩, .bool false, .int .u64 0] 49) = w1
  have b1 : blk w1 (siz w) = some (.cells (encE e0).toArray 49) := by rw [← hw1]; exact blk_alloc_new
  have k1 : K0 w w1 := by rw [← hw1]; exact (K0.refl w).alloc _
  have h1 := h.keep0 k1
  refine find_hit h1 hn ?_
  have hn1 := h1.node n hn
  have hv : EnAt w1 n.b 1 n.v := hn1.v
  simp only [stp, Nat.reduceAdd, Int.reduceLT, Int.reduceLE, Int.reduceEq, Int.reduceNe, ne_eq, bne_self_eq_false, beq_self_eq_true]
  rw [ld_en hv]
  refine fin_en (w0 := w) ((enAt_new b1).is) (fre_b b1) (Nat.le_refl _) k1 fun w2 k2 k12 e2 => ?_
  rw [ldr_en e2]
  exact hq _ k2
theorem peek_miss {k : Value} (h : Rep isI64 B w c mb room L) (hk : isI64 k) (hn : ∀ n ∈ L, n.k ≠ k) (hq : ∀ w', K0 w w' → Q (.tuple #[vE e0, .bool false]) w') : callS Try.prog 22 #[.pointer (some ⟨c, 0, none⟩), k] Q w := by
  refine ref22 ?_
  unfold S22
  rw [al_49]
  generalize hw1 : w.alloc (.cells #[.int .i64 0, .int .u64 0, .string ⟨#[]⟩, .bool false, .int .u64 0] 49) = w1
  have b1 : blk w1 (siz w) = some (.cells (encE e0).toArray 49) := by rw [← hw1]; exact blk_alloc_new
  have k1 : K0 w w1 := by rw [← hw1]; exact (K0.refl w).alloc _
  have h1 := h.keep0 k1
  have s1 := k1.size
  refine find_miss h1 hk hn ?_
  simp only [stp, Nat.reduceAdd, Int.reduceLT, Int.reduceLE, Int.reduceEq, Int.reduceNe, ne_eq, bne_self_eq_false, beq_self_eq_true]
  have b2 : blk (w1.alloc (.cells #[.int .i64 0, .int .u64 0, .string ⟨#[]⟩, .bool false, .int .u64 0] 49)) (siz w1) = some (.cells (encE e0).toArray 49) := blk_alloc_new
  have k2 : K0 w1 (w1.alloc (.cells #[.int .i64 0, .int .u64 0, .string ⟨#[]⟩, .bool false, .int .u64 0] 49)) := (K0.refl w1).alloc _
  generalize w1.alloc (.cells #[.int .i64 0, .int .u64 0, .string ⟨#[]⟩, .bool false, .int .u64 0] 49) = w2 at b2 k2
  have b1' := k2.blk b1 (by exact fun h => h)
  rw [ld_en (enAt_new b2)]
  refine fin_en (w0 := w) ((enAt_new b1').is) (fre_b b1') (Nat.le_refl _) (k1.trans k2) fun w3 k3 k23 e3 => ?_
  rw [ldr_en e3]
  exact hq _ k3
end
end Go.Proofs.Ytjfookddoaemfaa.Lv
