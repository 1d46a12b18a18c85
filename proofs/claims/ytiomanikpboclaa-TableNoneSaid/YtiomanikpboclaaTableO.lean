/- The table of locks: a lock is asked for. Conditions: as each says. -/
import Derived.Test.YtiomanikpboclaaTableN
set_option linter.unusedSimpArgs false
set_option linter.unusedVariables false
namespace Go.Proofs.Ytiomanikpboclaa
open Go.Sh Go.Proofs.Ytiomanikpboclaa.Mi
set_option maxRecDepth 100000
section
variable {w w' : World} {Q : Value → World → Prop} {B t : Nat} {s : TS}
/-- What a node holds is another function of the blocks. -/
def TS.turn (s : TS) (i : Nat) (f : Int → Option Int) : TS := { s with hs := s.hs.set i (canonL f) }
def TS.raise (s : TS) (i : Nat) (a b md : Int) : TS := s.turn i (updM (bl s i) (a, b) md)
theorem bl_turn {i : Nat} {f : Int → Option Int} (hi : i < s.hs.length) (hf : Sup f) (o : Nat) (x : Int) : bl (s.turn i f) o x = if o = i then f x else bl s o x := by
  unfold bl TS.turn
  by_cases h : o = i
  · subst h
    rw [List.getElem?_set_self hi, if_pos rfl]
    exact canonL_val hf x
  · rw [List.getElem?_set_ne (Ne.symm h), if_neg h]
theorem sup_upd {f : Int → Option Int} {a b md : Int} (hf : Sup f) (h0 : 0 ≤ a) (h1 : b ≤ 4096) : Sup (updM f (a, b) md) := fun x hx => by
  unfold updM at hx
  by_cases h : hasB (a, b) x
  · have := h.2
    dsimp only at this
    omega
  · rw [if_neg h] at hx
    exact hf x hx
theorem TLr.sup {ms : List Nat} {wv : Value} (h : TLr w B t s ms wv) (i : Nat) : Sup (bl s i) := by
  unfold bl
  by_cases hi : i < 17
  · obtain ⟨m, l, _, e2, _, _, hd⟩ := h.node hi
    rw [e2]
    exact sup_val hd
  · rw [List.getElem?_eq_none (by rw [h.hn]; omega)]
    exact fun x hx => absurd rfl hx
theorem TL.sup (h : TL w B t s) (i : Nat) : Sup (bl s i) := by obtain ⟨_, _, h⟩ := h; exact h.sup i
theorem traise_c {i : Nat} {a b md : Int} {ms : List Nat} {wv : Value} {m : Nat} (h : TLr w B t s ms wv) (hi : ms[i]? = some m) (ha : 0 ≤ a) (hb : b ≤ 4096)
    (hq : ∀ w', TLr w' B t (s.raise i a b md) ms wv → Keep (fun b => b = m) w w' → Q (.tuple #[]) w') :
    callS Try.prog 25 #[.pointer (some ⟨m, 0, none⟩), .agg #[.int .i64 a, .int .i64 b, .int .i64 md]] Q w := by
  have hlt : i < 17 := by rw [← h.n]; exact (List.getElem?_eq_some_iff.1 hi).1
  obtain ⟨m0, l, e1, e2, _, hm, hd⟩ := h.node hlt
  rw [hi] at e1
  injection e1 with e1
  subst e1
  have hl := canon_len (n := 4096) hm.canon hd
  refine raise_c hm (by omega) fun w1 l1 hm1 hv1 k1 => ?_
  have hs : Sup (updM (bl s i) (a, b) md) := sup_upd (h.sup i) ha hb
  have hbl : bl s i = valB l := by unfold bl; rw [e2]; rfl
  have hd1 : Bd 4096 l1 := bd_of_val hm1.canon fun x hx => by
    rw [hv1, ← hbl]
    refine Classical.byContradiction fun hne => ?_
    have := hs x hne
    omega
  have e : canonL (updM (bl s i) (a, b) md) = l1 := canonL_eq hm1.canon hd1 fun x => by rw [hv1, hbl]
  refine hq w1 ?_ k1
  have := h.turn hi k1 hm1 hd1
  unfold TS.raise TS.turn
  rw [e]
  exact this
/-- All of a lock is held. -/
def hasP (s : TS) (i : Nat) (a b md : Int) : Prop := ∀ x, hasB (a, b) x → ∃ v, bl s i x = some v ∧ cov v md
theorem has_need {f : Int → Option Int} {a b md : Int} (hm : md = 1 ∨ md = 2) : (∀ x, needF (askF [(a, b, md)] x) (f x) = none) ↔ ∀ x, hasB (a, b) x → ∃ v, f x = some v ∧ cov v md := by
  have hA : ∀ x, askF [(a, b, md)] x = if hasB (a, b) x then some md else none := fun x => by
    show ask1 (fun _ => none) (a, b, md) x = _
    unfold ask1
    rw [if_pos (show isM (a, b, md) from hm)]
    rfl
  constructor
  · intro h x hx
    have := h x
    rw [hA, if_pos hx] at this
    cases hf : f x with
    | none => rw [hf] at this; cases this
    | some v =>
      rw [hf, needF_some] at this
      by_cases hc : cov v md
      · exact ⟨v, rfl, hc⟩
      · rw [if_neg hc] at this; cases this
  · intro h x
    rw [hA]
    by_cases hx : hasB (a, b) x
    · obtain ⟨v, hv, hc⟩ := h x hx
      rw [if_pos hx, hv, needF_some, if_pos hc]
    · rw [if_neg hx]
      cases f x <;> rfl
theorem rd_lockA {g : Nat} {a b md : Int} (h : blk w g = some (.cells #[.int .i64 a, .int .i64 b, .int .i64 md] 31)) : Rd 3 w (.slice (some ⟨g, 0, none⟩) 1 1) 1 (flat enc3 [(a, b, md)]) :=
  ⟨rfl, .inr ⟨g, 0, 1, rfl, Nat.le_refl _, fun j hj => by rw [Nat.zero_add, cel_b h, List.getElem?_toArray]; rfl⟩⟩
theorem hld_pm {S : World → Prop} {k : Value → Prop} {g o : Nat} {v : Value} (h : ∀ w', S w' → cel w' g o = some v) (hk : k v) : hld Try.prog S (Instr.loadAt 46 (.pointer (some ⟨g, o, none⟩))) k :=
  hld_of _ (fun w' hS => rl_46 (h w' hS)) hk
/-- A request is right: of a node that there is, of a lock that can be asked for. -/
def rightA (s : TS) (node a b md : Int) : Prop := (1 ≤ node ∧ node ≤ s.nodes) ∧ rightL (a, b, md)
def freeP (s : TS) (node a b md : Int) : Prop := ¬ hindF s (claimsF s s.ws) node a b md < b
def TS.wait (s : TS) (node a b md : Int) : TS := { s with ws := s.ws ++ [(s.last + 1, node, a, b, md)], last := s.last + 1 }
theorem ask_c {node : Int} {a b md : Int} (h : TL w B t s) (hok : WsOk s.ws) (hwn : WsN s) (hla : 0 ≤ s.last ∧ s.last ≤ 1000000000) (hB : B ≤ siz w)
    (q0 : ∀ w', ¬ rightA s node a b md → K0 w w' → Q (.tuple #[.int .i64 0, .bool false, .int .i64 1]) w')
    (q1 : ∀ w' (i : Nat), node = (i : Int) → rightA s node a b md → hasP s i a b md → TL w' B t s → KO B tp w w' → Q (.tuple #[.int .i64 0, .bool true, .int .i64 0]) w')
    (q2 : ∀ w' (i : Nat), node = (i : Int) → rightA s node a b md → ¬ hasP s i a b md → freeP s node a b md → TL w' B t (s.raise i a b md) → KO B tp w w' → Q (.tuple #[.int .i64 0, .bool true, .int .i64 0]) w')
    (q3 : ∀ w' (i : Nat), node = (i : Int) → rightA s node a b md → ¬ hasP s i a b md → ¬ freeP s node a b md → deadP s i a b md → TL w' B t s → KO B tp w w' → Q (.tuple #[.int .i64 0, .bool false, .int .i64 33]) w')
    (q4 : ∀ w' (i : Nat), node = (i : Int) → rightA s node a b md → ¬ hasP s i a b md → ¬ freeP s node a b md → ¬ deadP s i a b md → 1000 ≤ s.ws.length → TL w' B t s → KO B tp w w' → Q (.tuple #[.int .i64 0, .bool false, .int .i64 10]) w')
    (q5 : ∀ w' (i : Nat), node = (i : Int) → rightA s node a b md → ¬ hasP s i a b md → ¬ freeP s node a b md → ¬ deadP s i a b md → s.ws.length < 1000 → TL w' B t (s.wait node a b md) → KO B tp w w' → Q (.tuple #[.int .i64 (s.last + 1), .bool false, .int .i64 0]) w') :
    callS Try.prog 10 #[.pointer (some ⟨t, 0, none⟩), .int .i64 node, .agg #[.int .i64 a, .int .i64 b, .int .i64 md]] Q w := by
  refine ref10 ?_
  unfold S10
  have hTL := h
  obtain ⟨ms, wv, h⟩ := h
  simp only [act_box, agg_cells]
  have b1 : blk (w.alloc (.cells #[.int .i64 a, .int .i64 b, .int .i64 md] 31)) (siz w) = some (.cells #[.int .i64 a, .int .i64 b, .int .i64 md] 31) := blk_alloc_new
  have k1 : K0 w (w.alloc (.cells #[.int .i64 a, .int .i64 b, .int .i64 md] 31)) := (K0.refl w).alloc _
  generalize w.alloc (.cells #[.int .i64 a, .int .i64 b, .int .i64 md] 31) = w1 at b1 k1
  have hlk : ∀ {w'}, K0 w1 w' → blk w' (siz w) = some (.cells #[.int .i64 a, .int .i64 b, .int .i64 md] 31) := fun k => k.blk b1 (by exact fun h => h)
  have hcl : ∀ {w'}, K0 w1 w' → cel w' (siz w) 0 = some (.int .i64 a) ∧ cel w' (siz w) 1 = some (.int .i64 b) ∧ cel w' (siz w) 2 = some (.int .i64 md) := fun k => by
    refine ⟨?_, ?_, ?_⟩ <;> (rw [cel_b (hlk k)]; rfl)
  refine is_c (h.keep0 k1).c0 ?_
  by_cases hnd : 1 ≤ node ∧ node ≤ s.nodes
  case neg =>
    rw [decide_eq_false hnd]
    simp only [stp, Nat.reduceAdd, Int.reduceLT, Int.reduceLE, Int.reduceEq, Int.reduceNe, ne_eq, bne_self_eq_false, beq_self_eq_true]
    exact q0 _ (fun h => hnd h.1) k1
  rw [decide_eq_true hnd]
  obtain ⟨x0, x1, x2⟩ := hcl (K0.refl w1)
  simp only [stp, Nat.reduceAdd, Int.reduceLT, Int.reduceLE, Int.reduceEq, Int.reduceNe, ne_eq, bne_self_eq_false, beq_self_eq_true, stm, x0, x1, x2]
  refine right_c fun w2 k2 => ?_
  by_cases hr : rightL (a, b, md)
  case neg =>
    rw [decide_eq_false hr]
    simp only [stp, Nat.reduceAdd, Int.reduceLT, Int.reduceLE, Int.reduceEq, Int.reduceNe, ne_eq, bne_self_eq_false, beq_self_eq_true]
    exact q0 _ (fun h => hr h.2) (k1.trans k2)
  rw [decide_eq_true hr]
  have hra : rightA s node a b md := ⟨hnd, hr⟩
  obtain ⟨i, rfl⟩ : ∃ i : Nat, node = (i : Int) := ⟨node.toNat, by omega⟩
  have hlt : i < 17 := by have := h.nn.2; omega
  have kk2 := k1.trans k2
  have h2 := h.keep0 kk2
  obtain ⟨m, l, e1, e2, e3, hm, hd⟩ := h2.node hlt
  have hl := canon_len (n := 4096) hm.canon hd
  have hbl : bl s i = valB l := by unfold bl; rw [e2]; rfl
  simp only [stp, Nat.reduceAdd, Int.reduceLT, Int.reduceLE, Int.reduceEq, Int.reduceNe, ne_eq, bne_self_eq_false, beq_self_eq_true, stm]
  have k2d : K0 w w2.drew := kk2.drew
  refine ⟨fun w' => cel w' t (1 + i) = some (.pointer (some ⟨m, 0, none⟩)) ∧ blk w' (siz w) = some (.cells #[.int .i64 a, .int .i64 b, .int .i64 md] 31), ⟨e3, hlk k2.drew⟩, ?_⟩
  rw [ixa hlt]
  refine hld_pm (fun w' hS => hS.1) (hld_lock (fun w' hS => hS.2) ?_)
  simp only [stp, Nat.reduceAdd, Int.reduceLT, Int.reduceLE, Int.reduceEq, Int.reduceNe, ne_eq, bne_self_eq_false, beq_self_eq_true, stm]
  have k3 : K0 w2.drew (w2.drew.alloc (.cells #[.int .i64 a, .int .i64 b, .int .i64 md] 31)) := (K0.refl _).alloc _
  have b3 : blk (w2.drew.alloc (.cells #[.int .i64 a, .int .i64 b, .int .i64 md] 31)) (siz w2) = some (.cells #[.int .i64 a, .int .i64 b, .int .i64 md] 31) := blk_alloc_new
  generalize w2.drew.alloc (.cells #[.int .i64 a, .int .i64 b, .int .i64 md] 31) = w3 at k3 b3
  have k3 : K0 w2 w3 := ((K0.refl w2).drew).trans k3
  refine ⟨⟨k3.cel e3 (by exact fun h => h), k3.blk (hlk k2) (by exact fun h => h)⟩, ?_⟩
  refine mhas_c (.inr ⟨m, rfl, hm.keep0 k3⟩) (by omega) (rd_lockA b3) (by simp) fun w4 r hr4 k4 => ?_
  have k4 : K0 w3 w4 := k4.old'
  refine ⟨⟨k4.cel (k3.cel e3 (by exact fun h => h)) (by exact fun h => h), k4.blk (k3.blk (hlk k2) (by exact fun h => h)) (by exact fun h => h)⟩, ?_⟩
  have k24 := k3.trans k4
  have k04 := kk2.trans k24
  have hhas : r = true ↔ hasP s i a b md := by
    rw [hr4, has_need hr.2.2]
    unfold hasP
    rw [hbl]
  cases r with
  | true =>
    simp only [stp, Nat.reduceAdd, Int.reduceLT, Int.reduceLE, Int.reduceEq, Int.reduceNe, ne_eq, bne_self_eq_false, beq_self_eq_true]
    exact q1 _ i rfl hra (hhas.1 rfl) (hTL.keep0 k04) (KO.of0 k04)
  | false =>
    have hnh : ¬ hasP s i a b md := fun h => by have := hhas.2 h; cases this
    obtain ⟨x0, x1, x2⟩ := hcl (k2.trans k24)
    simp only [stp, Nat.reduceAdd, Int.reduceLT, Int.reduceLE, Int.reduceEq, Int.reduceNe, ne_eq, bne_self_eq_false, beq_self_eq_true, stm, x0, x1, x2]
    refine free_c (hTL.keep0 k04) hok fun w5 k5 => ?_
    have k05 := k04.trans k5
    have h5 := h.keep0 k05
    obtain ⟨x0, x1, x2⟩ := hcl ((k2.trans k24).trans k5)
    by_cases hf : hindF s (claimsF s s.ws) i a b md < b
    case neg =>
      rw [decide_eq_false hf]
      obtain ⟨m', l', e1', e2', e3', hm', hd'⟩ := h5.node hlt
      simp only [stp, Nat.reduceAdd, Int.reduceLT, Int.reduceLE, Int.reduceEq, Int.reduceNe, ne_eq, bne_self_eq_false, beq_self_eq_true, stm, x0, x1, x2]
      rw [ixa hlt]
      simp only [stp, Nat.reduceAdd, Int.reduceLT, Int.reduceLE, Int.reduceEq, Int.reduceNe, ne_eq, bne_self_eq_false, beq_self_eq_true, stm, e3']
      have k5d : K0 w w5.drew := k05.drew
      refine traise_c (h.keep0 k5d) e1' hr.1.1 hr.2.1 fun w6 h6 k6 => ?_
      exact q2 _ i rfl hra hnh hf ⟨_, _, h6⟩ ((KO.of0 k5d).trans ((h.keep0 k5d).ko e1' k6))
    rw [decide_eq_true hf]
    simp only [stp, Nat.reduceAdd, Int.reduceLT, Int.reduceLE, Int.reduceEq, Int.reduceNe, ne_eq, bne_self_eq_false, beq_self_eq_true, stm, x0, x1, x2]
    refine dead_c (hTL.keep0 k05) hok hwn (by omega) (by omega) fun w6 r hr6 k6 => ?_
    have k06 := k05.trans k6
    have h6 := h.keep0 k06
    cases r with
    | true =>
      simp only [stp, Nat.reduceAdd, Int.reduceLT, Int.reduceLE, Int.reduceEq, Int.reduceNe, ne_eq, bne_self_eq_false, beq_self_eq_true]
      exact q3 _ i rfl hra hnh (fun h => h hf) (hr6.1 rfl) (hTL.keep0 k06) (KO.of0 k06)
    | false =>
      have hnd' : ¬ deadP s i a b md := fun h => by have := hr6.2 h; cases this
      have hwr := h6.wr
      obtain ⟨pa, ca, rfl⟩ := hwr.form
      have c18 := h6.c18
      by_cases hfull : 1000 ≤ s.ws.length
      · have hge : (1000 : Int) ≤ (s.ws.length : Int) := by omega
        simp only [stp, Nat.reduceAdd, Int.reduceLT, Int.reduceLE, Int.reduceEq, Int.reduceNe, ne_eq, bne_self_eq_false, beq_self_eq_true, stm, c18, hge]
        exact q4 _ i rfl hra hnh (fun h => h hf) hnd' hfull (hTL.keep0 k06) (KO.of0 k06)
      have hge : ¬ (1000 : Int) ≤ (s.ws.length : Int) := by omega
      have c19 : cel w6 t 19 = some (.int .i64 s.last) := by
        rw [cel_b h6.b]
        unfold tcells
        rw [List.getElem?_toArray, show (19 : Nat) = 18 + 1 from rfl, List.getElem?_cons_succ, List.getElem?_append_right (by simp [ptrs, h6.n])]
        simp [ptrs, h6.n]
      have hwl : IntKind.i64.wrap (s.last + 1) = s.last + 1 := wrap_id (by omega) (by omega)
      simp only [stp, Nat.reduceAdd, Int.reduceLT, Int.reduceLE, Int.reduceEq, Int.reduceNe, ne_eq, bne_self_eq_false, beq_self_eq_true, stm, c18, hge, c19, hwl]
      rw [st_3 one_int (by rw [c19]; rfl) (fre_b h6.b)]
      have bs := blk_sto (o := 19) (v := .int .i64 (s.last + 1)) h6.b
      have hset : (tcells s.nodes (ptrs ms) (.slice pa s.ws.length ca) s.last).setIfInBounds 19 (.int .i64 (s.last + 1)) = tcells s.nodes (ptrs ms) (.slice pa s.ws.length ca) (s.last + 1) := by
        unfold tcells
        rw [List.setIfInBounds_toArray, show (19 : Nat) = 18 + 1 from rfl, List.set_cons_succ, List.set_append_right _ _ (by simp [ptrs, h6.n])]
        simp [ptrs, h6.n]
      rw [hset] at bs
      have ks : Keep (fun b => b = t) w6 (sto w6 t 19 (.int .i64 (s.last + 1))) := (Keep.refl (fun b => b = t) w6).sto (.inl rfl) _ _
      have os : Own (sto w6 t 19 (.int .i64 (s.last + 1))) B 36 5 (.slice pa s.ws.length ca) s.ws.length (flat enc5 s.ws) := own_keepT hwr ks fun g cs hg e => ne_of_ty hg h6.b (by decide) e
      have hlt1 : siz w < siz w1 := blk_lt b1
      have htw : t < siz w := blk_lt h.b
      have hs1 : blk (sto w6 t 19 (.int .i64 (s.last + 1))) (siz w) = some (.cells #[.int .i64 a, .int .i64 b, .int .i64 md] 31) := ks.blk (hlk (((k2.trans k24).trans k5).trans k6)) (by show ¬ siz w = t; omega)
      have s06 := k06.size
      have sks := ks.size
      generalize sto w6 t 19 (.int .i64 (s.last + 1)) = w7 at bs ks os hs1 sks
      have y0 : cel w7 (siz w) 0 = some (.int .i64 a) := by rw [cel_b hs1]; rfl
      have y1 : cel w7 (siz w) 1 = some (.int .i64 b) := by rw [cel_b hs1]; rfl
      have y2 : cel w7 (siz w) 2 = some (.int .i64 md) := by rw [cel_b hs1]; rfl
      have z18 : cel w7 t 18 = some (.slice pa s.ws.length ca) := by
        rw [cel_b bs]
        unfold tcells
        rw [List.getElem?_toArray, show (18 : Nat) = 17 + 1 from rfl, List.getElem?_cons_succ, List.getElem?_append_right (by simp [ptrs, h6.n])]
        simp [ptrs, h6.n]
      have z19 : cel w7 t 19 = some (.int .i64 (s.last + 1)) := by
        rw [cel_b bs]
        unfold tcells
        rw [List.getElem?_toArray, show (19 : Nat) = 18 + 1 from rfl, List.getElem?_cons_succ, List.getElem?_append_right (by simp [ptrs, h6.n])]
        simp [ptrs, h6.n]
      refine jn0 (fun w' => TL w' B t (s.wait i a b md) ∧ KO B tp w w') (fun J hJ => ?_) ?_
      · simp only [stp, Nat.reduceAdd, Int.reduceLT, Int.reduceLE, Int.reduceEq, Int.reduceNe, ne_eq, bne_self_eq_false, beq_self_eq_true, stm, y0, y1, y2, z18, z19]
        have za : cel (w7.drew.alloc (.cells #[.int .i64 (s.last + 1), .int .i64 i, .int .i64 a, .int .i64 b, .int .i64 md] 36)) t 18 = some (.slice pa s.ws.length ca) := (((K0.refl w7).drew).alloc _).cel z18 (by exact fun h => h)
        simp only [stp, Nat.reduceAdd, Int.reduceLT, Int.reduceLE, Int.reduceEq, Int.reduceNe, ne_eq, bne_self_eq_false, beq_self_eq_true, stm, za, and_self]
        have hB7 : B ≤ siz w7.drew := by show B ≤ siz w7; omega
        refine pu_32 (w := w7.drew) (os.keep ((K0.refl w7).drew) fun _ _ e => e) (by intro u hu; simp only [List.mem_cons, List.not_mem_nil, or_false] at hu; rcases hu with rfl | rfl | rfl | rfl | rfl <;> exact one_int) (by omega) hB7 fun v8 w8 o8 k8 hr => ?_
        have k8 : Keep (fun b => (Value.slice pa s.ws.length ca).ownBlock = some b) w7 w8 := (((Keep.refl _ w7).drew).trans k8)
        have nt : ¬ (Value.slice pa s.ws.length ca).ownBlock = some t := fun e => by
          obtain ⟨_, cs, hc⟩ := own_ty os e
          exact ne_of_ty hc bs (by decide) rfl
        have b8 := k8.blk bs nt
        have i8 : (cel w8 t 18).isSome = true := by rw [k8.cel z18 nt]; rfl
        obtain ⟨p8, c8, rfl⟩ := o8.form
        rw [st_32 one_slice i8 (fre_b b8)]
        have b9 := blk_sto (o := 18) (v := .slice p8 (s.ws.length + 1) c8) b8
        have hset9 : (tcells s.nodes (ptrs ms) (.slice pa s.ws.length ca) (s.last + 1)).setIfInBounds 18 (.slice p8 (s.ws.length + 1) c8) = tcells s.nodes (ptrs ms) (.slice p8 (s.ws.length + 1) c8) (s.last + 1) := by
          unfold tcells
          rw [List.setIfInBounds_toArray, show (18 : Nat) = 17 + 1 from rfl, List.set_cons_succ, List.set_append_right _ _ (by simp [ptrs, h6.n])]
          simp [ptrs, h6.n]
        rw [hset9] at b9
        have k9 : Keep (fun b => b = t) w8 (sto w8 t 18 (.slice p8 (s.ws.length + 1) c8)) := (Keep.refl (fun b => b = t) w8).sto (.inl rfl) _ _
        have o9 := own_keepT o8 k9 fun g cs hg e => ne_of_ty hg b8 (by decide) e
        have kall : Keep (fun b => b = t ∨ (Value.slice pa s.ws.length ca).ownBlock = some b) w6 (sto w8 t 18 (.slice p8 (s.ws.length + 1) c8)) := ((ks.mono fun b _ e => .inl e).trans (k8.mono fun b _ e => .inr e)).trans (k9.mono fun b _ e => .inl e)
        refine hJ _ ⟨⟨ms, _, h6.rest (ws' := s.ws ++ [(s.last + 1, (i : Int), a, b, md)]) kall b9 ?_⟩, (KO.of0 k06).trans (h6.ko1 kall)⟩
        rw [List.length_append, flat_append, flat_one]
        exact o9
      · rintro w8 ⟨h8, k8⟩ _j
        obtain ⟨ms8, wv8, h8⟩ := id h8
        have z19 : cel w8 t 19 = some (.int .i64 (s.last + 1)) := by
          rw [cel_b h8.b]
          unfold tcells
          rw [List.getElem?_toArray, show (19 : Nat) = 18 + 1 from rfl, List.getElem?_cons_succ, List.getElem?_append_right (by simp [ptrs, h8.n])]
          simp [ptrs, h8.n, TS.wait]
        simp only [stp, Nat.reduceAdd, Int.reduceLT, Int.reduceLE, Int.reduceEq, Int.reduceNe, ne_eq, bne_self_eq_false, beq_self_eq_true, stm, z19]
        exact q5 _ i rfl hra hnh (fun h => h hf) hnd' (by omega) ⟨_, _, h8⟩ k8
end
end Go.Proofs.Ytiomanikpboclaa
