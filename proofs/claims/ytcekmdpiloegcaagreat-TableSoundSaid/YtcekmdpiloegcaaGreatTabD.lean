/- The table of locks: a lock is asked for. Conditions: as each says. -/
import Derived.Test.YtcekmdpiloegcaaGreatTabC
set_option linter.unusedSimpArgs false
set_option linter.unusedVariables false
namespace Go.Proofs.YtcekmdpiloegcaaGreat
open Go.Sh Go.Proofs.YtcekmdpiloegcaaGreat.Mi
set_option maxRecDepth 100000
section
variable {w w' : World} {Q : Value → World → Prop} {B t : Nat} {s : TS}
/-- What a node holds is another function of the blocks. -/
def TS.turn (s : TS) (i : Nat) (f : Int → Option Int) : TS := { s with hs := s.hs.set i (canonL f) }
def TS.raise (s : TS) (i : Nat) (a b md : Int) : TS := s.turn i (updM (bl s i) (a, b) md)
theorem bl_turn {i : Nat} {f : Int → Option Int} (hi : i < s.hs.length) (hf : Sup f) (o : Nat) (x : Int) : bl (s.turn i f) o x = if o = i then f x else bl s o x := by
  unfold bl TS.turn
  by_cases h : o = i
  · subst h
    rw [List.getElem?_set_self hi, if_pos rfl]
    exact canonL_val hf x
  · rw [List.getElem?_set_ne (Ne.symm h), if_neg h]
theorem sup_upd {f : Int → Option Int} {a b md : Int} (hf : Sup f) (h0 : 0 ≤ a) (h1 : b ≤ 4096) : Sup (updM f (a, b) md) := fun x hx => by
  unfold updM at hx
  by_cases h : hasB (a, b) x
  · have := h.2
    dsimp only at this
    omega
  · rw [if_neg h] at hx
    exact hf x hx
theorem TLr.sup {ms : List Nat} {wv : Value} (h : TLr w B t s ms wv) (i : Nat) : Sup (bl s i) := by
  unfold bl
  by_cases hi : i < 17
  · obtain ⟨m, l, _, e2, _, _, hd⟩ := h.node hi
    rw [e2]
    exact sup_val hd
  · rw [List.getElem?_eq_none (by rw [h.hn]; omega)]
    exact fun x hx => absurd rfl hx
theorem TL.sup (h : TL w B t s) (i : Nat) : Sup (bl s i) := by obtain ⟨_, _, h⟩ := h; exact h.sup i
theorem traise_c {i : Nat} {a b md : Int} {ms : List Nat} {wv : Value} {m : Nat} (h : TLr w B t s ms wv) (hi : ms[i]? = some m) (ha : 0 ≤ a) (hb : b ≤ 4096)
    (hq : ∀ w', TLr w' B t (s.raise i a b md) ms wv → Keep (fun b => b = m) w w' → Q (.tuple #[]) w') :
    callS Tryz.prog 20 #[.pointer (some ⟨m, 0, none⟩), .agg #[.int .i64 a, .int .i64 b, .int .i64 md]] Q w := by
  have hlt : i < 17 := by rw [← h.n]; exact (List.getElem?_eq_some_iff.1 hi).1
  obtain ⟨m0, l, e1, e2, _, hm, hd⟩ := h.node hlt
  rw [hi] at e1
  injection e1 with e1
  subst e1
  have hl := canon_len (n := 4096) hm.canon hd
  refine raise_c hm (by omega) fun w1 l1 hm1 hv1 k1 => ?_
  have hs : Sup (updM (bl s i) (a, b) md) := sup_upd (h.sup i) ha hb
  have hbl : bl s i = valB l := by unfold bl; rw [e2]; rfl
  have hd1 : Bd 4096 l1 := bd_of_val hm1.canon fun x hx => by
    rw [hv1, ← hbl]
    refine Classical.byContradiction fun hne => ?_
    have := hs x hne
    omega
  have e : canonL (updM (bl s i) (a, b) md) = l1 := canonL_eq hm1.canon hd1 fun x => by rw [hv1, hbl]
  refine hq w1 ?_ k1
  have := h.turn hi k1 hm1 hd1
  unfold TS.raise TS.turn
  rw [e]
  exact this
/-- All of a lock is held. -/
def hasP (s : TS) (i : Nat) (a b md : Int) : Prop := ∀ x, hasB (a, b) x → ∃ v, bl s i x = some v ∧ cov v md
theorem has_need {f : Int → Option Int} {a b md : Int} (hm : md = 1 ∨ md = 2) : (∀ x, needF (askF [(a, b, md)] x) (f x) = none) ↔ ∀ x, hasB (a, b) x → ∃ v, f x = some v ∧ cov v md := by
  have hA : ∀ x, askF [(a, b, md)] x = if hasB (a, b) x then some md else none := fun x => by
    show ask1 (fun _ => none) (a, b, md) x = _
    unfold ask1
    rw [if_pos (show isM (a, b, md) from hm)]
    rfl
  constructor
  · intro h x hx
    have := h x
    rw [hA, if_pos hx] at this
    cases hf : f x with
    | none => rw [hf] at this; cases this
    | some v =>
      rw [hf, needF_some] at this
      by_cases hc : cov v md
      · exact ⟨v, rfl, hc⟩
      · rw [if_neg hc] at this; cases this
  · intro h x
    rw [hA]
    by_cases hx : hasB (a, b) x
    · obtain ⟨v, hv, hc⟩ := h x hx
      rw [if_pos hx, hv, needF_some, if_pos hc]
    · rw [if_neg hx]
      cases f x <;> rfl
theorem rd_lockA {g : Nat} {a b md : Int} (h : blk w g = some (.cells #[.int .i64 a, .int .i64 b, .int .i64 md] 29)) : Rd 3 w (.slice (some ⟨g, 0, none⟩) 1 1) 1 (flat enc3 [(a, b, md)]) :=
  ⟨rfl, .inr ⟨g, 0, 1, rfl, Nat.le_refl _, fun j hj => by rw [Nat.zero_add, cel_b h, List.getElem?_toArray]; rfl⟩⟩
theorem hld_pm {S : World → Prop} {k : Value → Prop} {g o : Nat} {v : Value} (h : ∀ w', S w' → cel w' g o = some v) (hk : k v) : hld Tryz.prog S (Instr.loadAt 51 (.pointer (some ⟨g, o, none⟩))) k :=
  hld_of _ (fun w' hS => rl_51 (h w' hS)) hk
/-- A request is right: of a node that there is, of a lock that can be asked for. -/
def rightA (s : TS) (node a b md : Int) : Prop := (1 ≤ node ∧ node ≤ s.nodes) ∧ rightL (a, b, md)
def freeP (s : TS) (node a b md : Int) : Prop := ¬ hindF s (claimsF s s.ws) node a b md < b
def TS.wait (s : TS) (node a b md : Int) : TS := { s with ws := s.ws ++ [(s.last + 1, node, a, b, md)], last := s.last + 1 }
theorem ask_c {node : Int} {a b md : Int} (h : TL w B t s) (hok : WsOk s.ws) (hwn : WsN s) (hla : 0 ≤ s.last ∧ s.last ≤ 1000000000) (hB : B ≤ siz w)
    (q0 : ∀ w', ¬ rightA s node a b md → K0 w w' → Q (.tuple #[.int .i64 0, .bool false, .int .i64 1]) w')
    (q1 : ∀ w' (i : Nat), node = (i : Int) → rightA s node a b md → hasP s i a b md → TL w' B t s → KO B tp w w' → Q (.tuple #[.int .i64 0, .bool true, .int .i64 0]) w')
    (q2 : ∀ w' (i : Nat), node = (i : Int) → rightA s node a b md → ¬ hasP s i a b md → freeP s node a b md → TL w' B t (s.raise i a b md) → KO B tp w w' → Q (.tuple #[.int .i64 0, .bool true, .int .i64 0]) w')
    (q3 : ∀ w' (i : Nat), node = (i : Int) → rightA s node a b md → ¬ hasP s i a b md → ¬ freeP s node a b md → deadP s i a b md → TL w' B t s → KO B tp w w' → Q (.tuple #[.int .i64 0, .bool false, .int .i64 33]) w')
    (q4 : ∀ w' (i : Nat), node = (i : Int) → rightA s node a b md → ¬ hasP s i a b md → ¬ freeP s node a b md → ¬ deadP s i a b md → 1000 ≤ s.ws.length → TL w' B t s → KO B tp w w' → Q (.tuple #[.int .i64 0, .bool false, .int .i64 10]) w')
    (q5 : ∀ w' (i : Nat), node = (i : Int) → rightA s node a b md → ¬ hasP s i a b md → ¬ freeP s node a b md → ¬ deadP s i a b md → s.ws.length < 1000 → TL w' B t (s.wait node a b md) → KO B tp w w' → Q (.tuple #[.int .i64 (s.last + 1), .bool false, .int .i64 0]) w') :
    callS Tryz.prog 6 #[.pointer (some ⟨t, 0, none⟩), .int .i64 node, .agg #[.int .i64 a, .int .i64 b, .int .i64 md]] Q w := by
  refine ref6 ?_
  unfold S6
  have hTL := h
  obtain ⟨ms, wv, h⟩ := h
  simp only [act_box, agg_cells]
  have b1 : blk (w.alloc (.cells #[.int .i64 a, .int .i64 b, .int .i64 md] 29)) (siz w) = some (.cells #[.int .i64 a, .int .i64 b, .int .i64 md] 29) := blk_alloc_new
  have k1 : K0 w (w.alloc (.cells #[.int .i64 a, .int .i64 b, .int .i64 md] 29)) := (K0.refl w).alloc _
  generalize w.alloc (.cells #[.int .i64 a, .int .i64 b, .int .i64 md] 29) = w1 at b1 k1
  have hlk : ∀ {w'}, K0 w1 w' → blk w' (siz w) = some (.cells #[.int .i64 a, .int .i64 b, .int .i64 md] 29) := fun k => k.blk b1 (by exact fun h => h)
  have hcl : ∀ {w'}, K0 w1 w' → cel w' (siz w) 0 = some (.int .i64 a) ∧ cel w' (siz w) 1 = some (.int .i64 b) ∧ cel w' (siz w) 2 = some (.int .i64 md) := fun k => by
    refine ⟨?_, ?_, ?_⟩ <;> (rw [cel_b (hlk k)]; rfl)
  refine is_c (h.keep0 k1).c0 ?_
  by_cases hnd : 1 ≤ node ∧ node ≤ s.nodes
  case neg =>
    rw [decide_eq_false hnd]
    simp only [stp, Nat.reduceAdd, Int.reduceLT, Int.reduceLE, Int.reduceEq, Int.reduceNe, ne_eq, bne_self_eq_false, beq_self_eq_true]
    exact q0 _ (fun h => hnd h.1) k1
  rw [decide_eq_true hnd]
  obtain ⟨x0, x1, x2⟩ := hcl (K0.refl w1)
  simp only [stp, Nat.reduceAdd, Int.reduceLT, Int.reduceLE, Int.reduceEq, Int.reduceNe, ne_eq, bne_self_eq_false, beq_self_eq_true, stm, x0, x1, x2]
  refine right_c fun w2 k2 => ?_
  by_cases hr : rightL (a, b, md)
  case neg =>
    rw [decide_eq_false hr]
    simp only [stp, Nat.reduceAdd, Int.reduceLT, Int.reduceLE, Int.reduceEq, Int.reduceNe, ne_eq, bne_self_eq_false, beq_self_eq_true]
    exact q0 _ (fun h => hr h.2) (k1.trans k2)
  rw [decide_eq_true hr]
  have hra : rightA s node a b md := ⟨hnd, hr⟩
  obtain ⟨i, rfl⟩ : ∃ i : Nat, node = (i : Int) := ⟨node.toNat, by omega⟩
  have hlt : i < 17 := by have := h.nn.2; omega
  have kk2 := k1.trans k2
  have h2 := h.keep0 kk2
  obtain ⟨m, l, e1, e2, e3, hm, hd⟩ := h2.node hlt
  have hl := canon_len (n := 4096) hm.canon hd
  have hbl : bl s i = valB l := by unfold bl; rw [e2]; rfl
  simp only [stp, Nat.reduceAdd, Int.reduceLT, Int.reduceLE, Int.reduceEq, Int.reduceNe, ne_eq, bne_self_eq_false, beq_self_eq_true, stm]
  have k2d : K0 w w2.drew := kk2.drew
  refine ⟨fun w' => cel w' t (1 + i) = some (.pointer (some ⟨m, 0, none⟩)) ∧ blk w' (siz w) = some (.cells #[.int .i64 a, .int .i64 b, .int .i64 md] 29), ⟨e3, hlk k2.drew⟩, ?_⟩
  rw [ixa hlt]
  refine hld_pm (fun w' hS => hS.1) (hld_lock (fun w' hS => hS.2) ?_)
  simp only [stp, Nat.reduceAdd, Int.reduceLT, Int.reduceLE, Int.reduceEq, Int.reduceNe, ne_eq, bne_self_eq_false, beq_self_eq_true, stm]
  have k3 : K0 w2.drew (w2.drew.alloc (.cells #[.int .i64 a, .int .i64 b, .int .i64 md] 29)) := (K0.refl _).alloc _
  have b3 : blk (w2.drew.alloc (.cells #[.int .i64 a, .int .i64 b, .int .i64 md] 29)) (siz w2) = some (.cells #[.int .i64 a, .int .i64 b, .int .i64 md] 29) := blk_alloc_new
  generalize w2.drew.alloc (.cells #[.int .i64 a, .int .i64 b, .int .i64 md] 29) = w3 at k3 b3
  have k3 : K0 w2 w3 := ((K0.refl w2).drew).trans k3
  refine ⟨⟨k3.cel e3 (by exact fun h => h), k3.blk (hlk k2) (by exact fun h => h)⟩, ?_⟩
  refine mhas_c (.inr ⟨m, rfl, hm.keep0 k3⟩) (by omega) (rd_lockA b3) (by simp) fun w4 r hr4 k4 => ?_
  have k4 : K0 w3 w4 := k4.old'
  refine ⟨⟨k4.cel (k3.cel e3 (by exact fun h => h)) (by exact fun h => h), k4.blk (k3.blk (hlk k2) (by exact fun h => h)) (by exact fun h => h)⟩, ?_⟩
  have k24 := k3.trans k4
  have k04 := kk2.trans k24
  have hhas : r = true ↔ hasP s i a b md := by
    rw [hr4, has_need hr.2.2]
    unfold hasP
    rw [hbl]
  cases r with
  | true =>
    simp only [stp, Nat.reduceAdd, Int.reduceLT, Int.reduceLE, Int.reduceEq, Int.reduceNe, ne_eq, bne_self_eq_false, beq_self_eq_true]
    exact q1 _ i rfl hra (hhas.1 rfl) (hTL.keep0 k04) (KO.of0 k04)
  | false =>
    have hnh : ¬ hasP s i a b md := fun h => by have := hhas.2 h; cases this
    obtain ⟨x0, x1, x2⟩ := hcl (k2.trans k24)
    simp only [stp, Nat.reduceAdd, Int.reduceLT, Int.reduceLE, Int.reduceEq, Int.reduceNe, ne_eq, bne_self_eq_false, beq_self_eq_true, stm, x0, x1, x2]
    refine free_c (hTL.keep0 k04) hok fun w5 k5 => ?_
    have k05 := k04.trans k5
    have h5 := h.keep0 k05
    obtain ⟨x0, x1, x2⟩ := hcl ((k2.trans k24).trans k5)
    by_cases hf : hindF s (claimsF s s.ws) i a b md < b
    case neg =>
      rw [decide_eq_false hf]
      obtain ⟨m', l', e1', e2', e3', hm', hd'⟩ := h5.node hlt
      simp only [stp, Nat.reduceAdd, Int.reduceLT, Int.reduceLE, Int.reduceEq, Int.reduceNe, ne_eq, bne_self_eq_false, beq_self_eq_true, stm, x0, x1, x2]
      rw [ixa hlt]
      simp only [stp, Nat.reduceAdd, Int.reduceLT, Int.reduceLE, Int.reduceEq, Int.reduceNe, ne_eq, bne_self_eq_false, beq_self_eq_true, stm, e3']
      have k5d : K0 w w5.drew := k05.drew
      refine traise_c (h.keep0 k5d) e1' hr.1.1 hr.2.1 fun w6 h6 k6 => ?_
      exact q2 _ i rfl hra hnh hf ⟨_, _, h6⟩ ((KO.of0 k5d).trans ((h.keep0 k5d).ko e1' k6))
    rw [decide_eq_true hf]
    simp only [stp, Nat.reduceAdd, Int.reduceLT, Int.reduceLE, Int.reduceEq, Int.reduceNe, ne_eq, bne_self_eq_false, beq_self_eq_true, stm, x0, x1, x2]
    refine dead_c (hTL.keep0 k05) hok hwn (by omega) (by omega) fun w6 r hr6 k6 => ?_
    have k06 := k05.trans k6
    have h6 := h.keep0 k06
    cases r with
    | true =>
      simp only [stp, Nat.reduceAdd, Int.reduceLT, Int.reduceLE, Int.reduceEq, Int.reduceNe, ne_eq, bne_self_eq_false, beq_self_eq_true]
      exact q3 _ i rfl hra hnh (fun h => h hf) (hr6.1 rfl) (hTL.keep0 k06) (KO.of0 k06)
    | false =>
      have hnd' : ¬ deadP s i a b md := fun h => by have := hr6.2 h; cases this
      have hwr := h6.wr
      obtain ⟨pa, ca, rfl⟩ := hwr.form
      have c18 := h6.c18
      by_cases hfull : 1000 ≤ s.ws.length
      · have hge : (1000 : Int) ≤ (s.ws.length : Int) := by omega
        simp only [stp, Nat.reduceAdd, Int.reduceLT, Int.reduceLE, Int.reduceEq, Int.reduceNe, ne_eq, bne_self_eq_false, beq_self_eq_true, stm, c18, hge]
        exact q4 _ i rfl hra hnh (fun h => h hf) hnd' hfull (hTL.keep0 k06) (KO.of0 k06)
      have hge : ¬ (1000 : Int) ≤ (s.ws.length : Int) := by omega
      have c19 : cel w6 t 19 = some (.int .i64 s.last) := by
        rw [cel_b h6.b]
        unfold tcells
        rw [List.getElem?_toArray, show (19 : Nat) = 18 + 1 from rfl, List.getElem?_cons_succ, List.getElem?_append_right (by simp [ptrs, h6.n])]
        simp [ptrs, h6.n]
      have hwl : IntKind.i64.wrap (s.last + 1) = s.last + 1 := wrap_id (by omega) (by omega)
      simp only [stp, Nat.reduceAdd, Int.reduceLT, Int.reduceLE, Int.reduceEq, Int.reduceNe, ne_eq, bne_self_eq_false, beq_self_eq_true, stm, c18, hge, c19, hwl]
      rw [st_3 one_int (by rw [c19]; rfl) (fre_b h6.b)]
      have bs := blk_sto (o := 19) (v := .int .i64 (s.last + 1)) h6.b
      have hset : (tcells s.nodes (ptrs ms) (.slice pa s.ws.length ca) s.last).setIfInBounds 19 (.int .i64 (s.last + 1)) = tcells s.nodes (ptrs ms) (.slice pa s.ws.length ca) (s.last + 1) := by
        unfold tcells
        rw [List.setIfInBounds_toArray, show (19 : Nat) = 18 + 1 from rfl, List.set_cons_succ, List.set_append_right _ _ (by simp [ptrs, h6.n])]
        simp [ptrs, h6.n]
      rw [hset] at bs
      have ks : Keep (fun b => b = t) w6 (sto w6 t 19 (.int .i64 (s.last + 1))) := (Keep.refl (fun b => b = t) w6).sto (.inl rfl) _ _
      have os : Own (sto w6 t 19 (.int .i64 (s.last + 1))) B 50 5 (.slice pa s.ws.length ca) s.ws.length (flat enc5 s.ws) := own_keepT hwr ks fun g cs hg e => ne_of_ty hg h6.b (by decide) e
      have hlt1 : siz w < siz w1 := blk_lt b1
      have htw : t < siz w := blk_lt h.b
      have hs1 : blk (sto w6 t 19 (.int .i64 (s.last + 1))) (siz w) = some (.cells #[.int .i64 a, .int .i64 b, .int .i64 md] 29) := ks.blk (hlk (((k2.trans k24).trans k5).trans k6)) (by show ¬ siz w = t; omega)
      have s06 := k06.size
      have sks := ks.size
      generalize sto w6 t 19 (.int .i64 (s.last + 1)) = w7 at bs ks os hs1 sks
      have y0 : cel w7 (siz w) 0 = some (.int .i64 a) := by rw [cel_b hs1]; rfl
      have y1 : cel w7 (siz w) 1 = some (.int .i64 b) := by rw [cel_b hs1]; rfl
      have y2 : cel w7 (siz w) 2 = some (.int .i64 md) := by rw [cel_b hs1]; rfl
      have z18 : cel w7 t 18 = some (.slice pa s.ws.length ca) := by
        rw [cel_b bs]
        unfold tcells
        rw [List.getElem?_toArray, show (18 : Nat) = 17 + 1 from rfl, List.getElem?_cons_succ, List.getElem?_append_right (by simp [ptrs, h6.n])]
        simp [ptrs, h6.n]
      have z19 : cel w7 t 19 = some (.int .i64 (s.last + 1)) := by
        rw [cel_b bs]
        unfold tcells
        rw [List.getElem?_toArray, show (19 : Nat) = 18 + 1 from rfl, List.getElem?_cons_succ, List.getElem?_append_right (by simp [ptrs, h6.n])]
        simp [ptrs, h6.n]
      refine jn0 (fun w' => TL w' B t (s.wait i a b md) ∧ KO B tp w w') (fun J hJ => ?_) ?_
      · simp only [stp, Nat.reduceAdd, Int.reduceLT, Int.reduceLE, Int.reduceEq, Int.reduceNe, ne_eq, bne_self_eq_false, beq_self_eq_true, stm, y0, y1, y2, z18, z19]
        have za : cel (w7.drew.alloc (.cells #[.int .i64 (s.last + 1), .int .i64 i, .int .i64 a, .int .i64 b, .int .i64 md] 50)) t 18 = some (.slice pa s.ws.length ca) := (((K0.refl w7).drew).alloc _).cel z18 (by exact fun h => h)
        simp only [stp, Nat.reduceAdd, Int.reduceLT, Int.reduceLE, Int.reduceEq, Int.reduceNe, ne_eq, bne_self_eq_false, beq_self_eq_true, stm, za, and_self]
        have hB7 : B ≤ siz w7.drew := by show B ≤ siz w7; omega
        refine pu_35 (w := w7.drew) (os.keep ((K0.refl w7).drew) fun _ _ e => e) (by intro u hu; simp only [List.mem_cons, List.not_mem_nil, or_false] at hu; rcases hu with rfl | rfl | rfl | rfl | rfl <;> exact one_int) (by omega) hB7 fun v8 w8 o8 k8 hr => ?_
        have k8 : Keep (fun b => (Value.slice pa s.ws.length ca).ownBlock = some b) w7 w8 := (((Keep.refl _ w7).drew).trans k8)
        have nt : ¬ (Value.slice pa s.ws.length ca).ownBlock = some t := fun e => by
          obtain ⟨_, cs, hc⟩ := own_ty os e
          exact ne_of_ty hc bs (by decide) rfl
        have b8 := k8.blk bs nt
        have i8 : (cel w8 t 18).isSome = true := by rw [k8.cel z18 nt]; rfl
        obtain ⟨p8, c8, rfl⟩ := o8.form
        rw [st_35 one_slice i8 (fre_b b8)]
        have b9 := blk_sto (o := 18) (v := .slice p8 (s.ws.length + 1) c8) b8
        have hset9 : (tcells s.nodes (ptrs ms) (.slice pa s.ws.length ca) (s.last + 1)).setIfInBounds 18 (.slice p8 (s.ws.length + 1) c8) = tcells s.nodes (ptrs ms) (.slice p8 (s.ws.length + 1) c8) (s.last + 1) := by
          unfold tcells
          rw [List.setIfInBounds_toArray, show (18 : Nat) = 17 + 1 from rfl, List.set_cons_succ, List.set_append_right _ _ (by simp [ptrs, h6.n])]
          simp [ptrs, h6.n]
        rw [hset9] at b9
        have k9 : Keep (fun b => b = t) w8 (sto w8 t 18 (.slice p8 (s.ws.length + 1) c8)) := (Keep.refl (fun b => b = t) w8).sto (.inl rfl) _ _
        have o9 := own_keepT o8 k9 fun g cs hg e => ne_of_ty hg b8 (by decide) e
        have kall : Keep (fun b => b = t ∨ (Value.slice pa s.ws.length ca).ownBlock = some b) w6 (sto w8 t 18 (.slice p8 (s.ws.length + 1) c8)) := ((ks.mono fun b _ e => .inl e).trans (k8.mono fun b _ e => .inr e)).trans (k9.mono fun b _ e => .inl e)
        refine hJ _ ⟨⟨ms, _, h6.rest (ws' := s.ws ++ [(s.last + 1, (i : Int), a, b, md)]) kall b9 ?_⟩, (KO.of0 k06).trans (h6.ko1 kall)⟩
        rw [List.length_append, flat_append, flat_one]
        exact o9
      · rintro w8 ⟨h8, k8⟩ _j
        obtain ⟨ms8, wv8, h8⟩ := id h8
        have z19 : cel w8 t 19 = some (.int .i64 (s.last + 1)) := by
          rw [cel_b h8.b]
          unfold tcells
          rw [List.getElem?_toArray, show (19 : Nat) = 18 + 1 from rfl, List.getElem?_cons_succ, List.getElem?_append_right (by simp [ptrs, h8.n])]
          simp [ptrs, h8.n, TS.wait]
        simp only [stp, Nat.reduceAdd, Int.reduceLT, Int.reduceLE, Int.reduceEq, Int.reduceNe, ne_eq, bne_self_eq_false, beq_self_eq_true, stm, z19]
        exact q5 _ i rfl hra hnh (fun h => h hf) hnd' (by omega) ⟨_, _, h8⟩ k8
end
end Go.Proofs.YtcekmdpiloegcaaGreat
/- The table of locks: what is free is granted. Conditions: as each says. -/
namespace Go.Proofs.YtcekmdpiloegcaaGreat
open Go.Sh Go.Proofs.YtcekmdpiloegcaaGreat.Mi
set_option maxRecDepth 100000
section
variable {w w' : World} {Q : Value → World → Prop} {B t : Nat} {s : TS}
/-- One request is granted, or waits on. (The state, who waits on, what they claim, who is granted.) -/
abbrev GS := TS × List I5 × List I5 × List I5
def claimOf (k : I5) (at' : Int) : I5 := (k.1, k.2.1, k.2.2.1, at' + 1, k.2.2.2.2)
def gr1 (g : GS) (k : I5) : GS :=
  if hindF g.1 g.2.2.1 k.2.1 k.2.2.1 k.2.2.2.1 k.2.2.2.2 < k.2.2.2.1 then
    (g.1, g.2.1 ++ [k], g.2.2.1 ++ [claimOf k (hindF g.1 g.2.2.1 k.2.1 k.2.2.1 k.2.2.2.1 k.2.2.2.2)], g.2.2.2)
  else (g.1.raise k.2.1.toNat k.2.2.1 k.2.2.2.1 k.2.2.2.2, g.2.1, g.2.2.1, g.2.2.2 ++ [k])
def grantG (s : TS) (W : List I5) : GS := W.foldl gr1 (s, [], [], [])
/-- The state behind a grant. -/
def TS.granted (s : TS) : TS := { (grantG s s.ws).1 with ws := (grantG s s.ws).2.1 }
def grantOut (s : TS) : List I5 := (grantG s s.ws).2.2.2
theorem grantG_snoc (s : TS) (W : List I5) (k : I5) : grantG s (W ++ [k]) = gr1 (grantG s W) k := by unfold grantG; rw [List.foldl_append]; rfl
theorem grantG_len (s : TS) : ∀ (n : Nat) (W : List I5), W.length = n → (grantG s W).2.1.length ≤ n ∧ (grantG s W).2.2.1.length ≤ n ∧ (grantG s W).2.2.2.length ≤ n
  | 0, W, h => by rw [List.length_eq_zero_iff.1 h]; exact ⟨Nat.le_refl _, Nat.le_refl _, Nat.le_refl _⟩
  | n + 1, W, h => by
    rcases List.eq_nil_or_concat W with rfl | ⟨V, k, rfl⟩
    · simp at h
    · rw [List.concat_eq_append] at h ⊢
      obtain ⟨h1, h2, h3⟩ := grantG_len s n V (by simpa using h)
      rw [grantG_snoc]
      unfold gr1
      split <;> simp <;> omega
theorem raise_ws (s : TS) (i : Nat) (a b md : Int) : (s.raise i a b md).ws = s.ws ∧ (s.raise i a b md).nodes = s.nodes ∧ (s.raise i a b md).last = s.last := ⟨rfl, rfl, rfl⟩
theorem grantG_ws (s : TS) : ∀ (n : Nat) (W : List I5), W.length = n → (grantG s W).1.ws = s.ws ∧ (grantG s W).1.nodes = s.nodes ∧ (grantG s W).1.last = s.last
  | 0, W, h => by rw [List.length_eq_zero_iff.1 h]; exact ⟨rfl, rfl, rfl⟩
  | n + 1, W, h => by
    rcases List.eq_nil_or_concat W with rfl | ⟨V, k, rfl⟩
    · simp at h
    · rw [List.concat_eq_append] at h ⊢
      obtain ⟨h1, h2, h3⟩ := grantG_ws s n V (by simpa using h)
      rw [grantG_snoc]
      unfold gr1
      split
      · exact ⟨h1, h2, h3⟩
      · exact ⟨h1, h2, h3⟩
/-- Another row of requests turns: the table stands. -/
theorem TLr.keepRow {ms : List Nat} {wv v : Value} {A n : Nat} {xs : List Value} (h : TLr w B t s ms wv) (ho : Own w A 50 5 v n xs) (k : Keep (fun b => v.ownBlock = some b) w w') (hne : ∀ g, wv.ownBlock = some g → v.ownBlock ≠ some g) : TLr w' B t s ms wv :=
  { h with
    b := k.blk h.b fun e => by
      obtain ⟨_, cs, hc⟩ := own_ty ho e
      exact ne_of_ty h.b hc (by decide) rfl
    h := fun i m l h1 h2 => by
      obtain ⟨q1, q2⟩ := h.h i m l h1 h2
      refine ⟨im_keepF q1 k fun b e => ?_, q2⟩
      obtain ⟨_, cs, hc⟩ := own_ty ho e
      exact ⟨_, _, hc, by decide, by decide⟩
    wr := h.wr.keep k fun g hg e => hne g hg e }
/-- Rows that share no block. -/
def Dj (u v : Value) : Prop := ∀ g, u.ownBlock = some g → v.ownBlock ≠ some g
theorem Dj.symm {u v : Value} (h : Dj u v) : Dj v u := fun g h1 h2 => h g h2 h1
theorem Dj.nil (v : Value) : Dj (.slice none 0 0) v := fun g h => by cases h
theorem Dj.grow {u v v' : Value} {n : Nat} (h : Dj u v) (hu : ∀ g, u.ownBlock = some g → g < n) (hr : ∀ g, v'.ownBlock = some g → v.ownBlock = some g ∨ n ≤ g) : Dj u v' := fun g h1 h2 => by
  rcases hr g h2 with e | e
  · exact h g h1 e
  · have := hu g h1; omega
end
end Go.Proofs.YtcekmdpiloegcaaGreat
/- The table of locks: what is free is granted: the walk. Conditions: as each says. -/
namespace Go.Proofs.YtcekmdpiloegcaaGreat
open Go.Sh Go.Proofs.YtcekmdpiloegcaaGreat.Mi
set_option maxRecDepth 100000
section
variable {w w' : World} {Q : Value → World → Prop} {B t : Nat} {s : TS}
theorem hld_wait {S : World → Prop} {k : Value → Prop} {g : Nat} {x0 x1 x2 x3 x4 : Value} (h : ∀ w', S w' → blk w' g = some (.cells #[x0, x1, x2, x3, x4] 50)) (hk : k (.agg #[x0, x1, x2, x3, x4])) : hld Tryz.prog S (Instr.loadAt 50 (.pointer (some ⟨g, 0, none⟩))) k :=
  hld_of _ (fun w' hS => run_of_rd fun _ => by
    have b := h w' hS
    rw [ld_50 (by rw [cel_b b]; rfl) (by rw [cel_b b]; rfl) (by rw [cel_b b]; rfl) (by rw [cel_b b]; rfl) (by rw [cel_b b]; rfl), cel_b b, cel_b b, cel_b b, cel_b b, cel_b b]; rfl) hk
structure GInv (w w' : World) (B t : Nat) (s : TS) (ms : List Nat) (wv : Value) (g : GS) (vo vl vc : Value) : Prop where
  h : TLr w' B t g.1 ms wv
  l : Own w' (siz w) 50 5 vl g.2.1.length (flat enc5 g.2.1)
  c : Own w' (siz w) 50 5 vc g.2.2.1.length (flat enc5 g.2.2.1)
  o : Own w' (siz w) 50 5 vo g.2.2.2.length (flat enc5 g.2.2.2)
  lc : Dj vl vc
  lo : Dj vl vo
  co : Dj vc vo
  k : Keep (fun b => b ∈ ms) w w'
theorem GInv.keep0 {w1 w2 : World} {ms : List Nat} {wv vo vl vc : Value} {g : GS} (h : GInv w w1 B t s ms wv g vo vl vc) (k : K0 w1 w2) : GInv w w2 B t s ms wv g vo vl vc :=
  { h := h.h.keep0 k, l := h.l.keep k fun _ _ e => e, c := h.c.keep k fun _ _ e => e, o := h.o.keep k fun _ _ e => e, lc := h.lc, lo := h.lo, co := h.co, k := h.k.trans k.none }
/-- A row gets one more: what stands. -/
theorem push_wait {A n ty : Nat} {v : Value} {xs : List Value} {k : I5} {J : Value → World → Prop} (ho : Own w A 50 5 v n xs) (hn : n ≤ 1000000) (hA : A ≤ siz w)
    (hk : ∀ v' w', Own w' A 50 5 v' (n + 1) (xs ++ enc5 k) → Keep (fun b => v.ownBlock = some b) w w' → (∀ g, v'.ownBlock = some g → v.ownBlock = some g ∨ siz w ≤ g) → J v' w') :
    act Tryz.prog (Builtin.append_ #[35, 35] ty #[v, .slice (some ⟨siz w, 0, none⟩) 1 1]) J (w.alloc (.cells #[.int .i64 k.1, .int .i64 k.2.1, .int .i64 k.2.2.1, .int .i64 k.2.2.2.1, .int .i64 k.2.2.2.2] 50)) :=
  pu_35 ho (by intro u hu; simp only [List.mem_cons, List.not_mem_nil, or_false] at hu; rcases hu with rfl | rfl | rfl | rfl | rfl <;> exact one_int) (by omega) hA hk
theorem grant_c (h : TL w B t s) (hok : WsOk s.ws) (hwn : WsN s) (hB : B ≤ siz w)
    (hq : ∀ w' v', TL w' B t s.granted → Own w' (siz w) 50 5 v' (grantOut s).length (flat enc5 (grantOut s)) → KO B tp w w' → Q v' w') :
    callS Tryz.prog 26 #[.pointer (some ⟨t, 0, none⟩)] Q w := by
  refine ref26 ?_
  unfold S26
  obtain ⟨ms, wv, h⟩ := h
  have hwr := h.wr
  have hwl : ∀ g, wv.ownBlock = some g → g < siz w := fun g hg => (hwr.lt hg).2
  have htw : t < siz w := blk_lt h.b
  obtain ⟨pa, ca, rfl⟩ := hwr.form
  have c18 := h.c18
  have hW := hok.1
  have hng : ∀ n : Nat, 0 ≤ (grantG s (s.ws.take n)).1.nodes := fun n => by
    rw [(grantG_ws s _ (s.ws.take n) rfl).2.1]
    have := h.nn.1
    omega
  simp only [stp, Nat.reduceAdd, Int.reduceLT, Int.reduceLE, Int.reduceEq, Int.reduceNe, ne_eq, bne_self_eq_false, beq_self_eq_true, stm, c18]
  refine lp4 (fun mm xo xl xc y w' => ∃ i : Nat, y = .int .i64 (i : Int) ∧ i ≤ s.ws.length ∧ mm = s.ws.length - i ∧ GInv w w' B t s ms (.slice pa s.ws.length ca) (grantG s (s.ws.take i)) xo xl xc) s.ws.length
    ⟨0, rfl, Nat.zero_le _, by omega, { h := h, l := Own.nil _ _ _ _, c := Own.nil _ _ _ _, o := Own.nil _ _ _ _, lc := Dj.nil _, lo := Dj.nil _, co := Dj.nil _, k := Keep.refl _ _ }⟩ ?_
  rintro mm xo xl xc y w1 ⟨i, rfl, hi, rfl, g1⟩ J hJ _j
  have hwi := wrap_succ (i := i) (by omega)
  have s01 := g1.k.size
  by_cases hlt : i < s.ws.length
  case neg =>
    have hil : i = s.ws.length := by omega
    have hlt' : ¬ ((i : Int) < (s.ws.length : Int)) := by omega
    subst hil
    rw [List.take_length] at g1
    have c18' := g1.h.c18
    obtain ⟨pl, cl, rfl⟩ := g1.l.form
    simp only [stp, Nat.reduceAdd, Int.reduceLT, Int.reduceLE, Int.reduceEq, Int.reduceNe, ne_eq, bne_self_eq_false, beq_self_eq_true, hlt']
    rw [st_35 one_slice (by rw [c18']; rfl) (fre_b g1.h.b)]
    have b9 := blk_sto (o := 18) (v := .slice pl (grantG s s.ws).2.1.length cl) g1.h.b
    have hset9 : (tcells (grantG s s.ws).1.nodes (ptrs ms) (.slice pa s.ws.length ca) (grantG s s.ws).1.last).setIfInBounds 18 (.slice pl (grantG s s.ws).2.1.length cl) = tcells (grantG s s.ws).1.nodes (ptrs ms) (.slice pl (grantG s s.ws).2.1.length cl) (grantG s s.ws).1.last := by
      unfold tcells
      rw [List.setIfInBounds_toArray, show (18 : Nat) = 17 + 1 from rfl, List.set_cons_succ, List.set_append_right _ _ (by simp [ptrs, g1.h.n])]
      simp [ptrs, g1.h.n]
    rw [hset9] at b9
    have k9 : Keep (fun b => b = t) w1 (sto w1 t 18 (.slice pl (grantG s s.ws).2.1.length cl)) := (Keep.refl (fun b => b = t) w1).sto (.inl rfl) _ _
    have o9 := own_keepT g1.l k9 fun g cs hg e => ne_of_ty hg g1.h.b (by decide) e
    have r9 := own_keepT g1.o k9 fun g cs hg e => ne_of_ty hg g1.h.b (by decide) e
    refine hq _ _ ⟨ms, .slice pl (grantG s s.ws).2.1.length cl, ?_⟩ r9 ?_
    · exact g1.h.rest (ws' := (grantG s s.ws).2.1) (last' := (grantG s s.ws).1.last) (k9.mono fun b _ e => .inl e) b9 (o9.le hB)
    · refine KO.ofB (F := fun b => b ∈ ms ∨ b = t) ((g1.k.mono fun b _ e => .inl e).trans' k9 fun b _ e => .inr e) fun b e => ?_
      rcases e with e | rfl
      · obtain ⟨j, hj, rfl⟩ := List.getElem_of_mem e
        obtain ⟨m0, l0, e1, _, _, hm0, _⟩ := h.node (i := j) (by rw [← h.n]; exact hj)
        rw [List.getElem?_eq_getElem hj] at e1
        injection e1 with e1
        obtain ⟨cs, hb0⟩ := im_blk hm0
        exact ⟨h.Bm _ e, _, by rw [e1]; exact hb0, rfl⟩
      · exact ⟨h.Bt, _, h.b, rfl⟩
  have hlt' : ((i : Int) < (s.ws.length : Int)) := by omega
  obtain ⟨b0, o, rfl, q0, q1, q2, q3, q4⟩ := ws_at (by rw [← (grantG_ws s _ (s.ws.take i) rfl).1]; have := g1.h.wr.rd; rw [(grantG_ws s _ (s.ws.take i) rfl).1] at this ⊢; exact this) hlt
  have hst : grantG s (s.ws.take (i + 1)) = gr1 (grantG s (s.ws.take i)) s.ws[i] := by
    rw [List.take_add_one, List.getElem?_eq_getElem hlt, Option.toList_some, grantG_snoc]
  have hln := grantG_len s _ (s.ws.take i) rfl
  have hle : (s.ws.take i).length ≤ i := by rw [List.length_take]; omega
  have hws := grantG_ws s _ (s.ws.take i) rfl
  have hng := hng i
  obtain ⟨hr1, hr2, hr3⟩ := hok.2 _ (List.getElem_mem hlt)
  have hkn := hwn _ (List.getElem_mem hlt)
  simp only [stp, Nat.reduceAdd, Int.reduceLT, Int.reduceLE, Int.reduceEq, Int.reduceNe, ne_eq, bne_self_eq_false, beq_self_eq_true, hlt']
  refine jn3 (fun xo xl xc w' => GInv w w' B t s ms (.slice (some ⟨b0, o, none⟩) s.ws.length ca) (grantG s (s.ws.take (i + 1))) xo xl xc) (fun J3 hJ3 => ?_) ?_
  · rw [ix_35 hlt]
    simp only [stp, Nat.reduceAdd, Int.reduceLT, Int.reduceLE, Int.reduceEq, Int.reduceNe, ne_eq, bne_self_eq_false, beq_self_eq_true, stm, q0, q1, q2, q3, q4]
    rw [hst] at hJ3
    generalize grantG s (s.ws.take i) = g at *
    generalize hk : s.ws[i] = k at *
    have k2 : K0 w1 (w1.alloc (.cells #[.int .i64 k.1, .int .i64 k.2.1, .int .i64 k.2.2.1, .int .i64 k.2.2.2.1, .int .i64 k.2.2.2.2] 50)) := (K0.refl w1).alloc _
    have b2 : blk (w1.alloc (.cells #[.int .i64 k.1, .int .i64 k.2.1, .int .i64 k.2.2.1, .int .i64 k.2.2.2.1, .int .i64 k.2.2.2.2] 50)) (siz w1) = some (.cells #[.int .i64 k.1, .int .i64 k.2.1, .int .i64 k.2.2.1, .int .i64 k.2.2.2.1, .int .i64 k.2.2.2.2] 50) := blk_alloc_new
    generalize w1.alloc (.cells #[.int .i64 k.1, .int .i64 k.2.1, .int .i64 k.2.2.1, .int .i64 k.2.2.2.1, .int .i64 k.2.2.2.2] 50) = w2 at k2 b2
    have g2 := g1.keep0 k2
    have hnl : xl.ownBlock ≠ some (siz w1) := fun e => by have := (g1.l.lt e).2; omega
    have hnc : xc.ownBlock ≠ some (siz w1) := fun e => by have := (g1.c.lt e).2; omega
    have hno : xo.ownBlock ≠ some (siz w1) := fun e => by have := (g1.o.lt e).2; omega
    obtain ⟨pc, cc, rfl⟩ := g1.c.form
    refine hinders_c (A := g.2.2.1) ⟨_, _, g2.h⟩ g2.c.rd (by omega) fun w3 k3 => ?_
    have g3 := g2.keep0 k3
    have b3 := k3.blk b2 (by exact fun h => h)
    have hf : gr1 g k = if hindF g.1 g.2.2.1 k.2.1 k.2.2.1 k.2.2.2.1 k.2.2.2.2 < k.2.2.2.1 then
      (g.1, g.2.1 ++ [k], g.2.2.1 ++ [claimOf k (hindF g.1 g.2.2.1 k.2.1 k.2.2.1 k.2.2.2.1 k.2.2.2.2)], g.2.2.2)
      else (g.1.raise k.2.1.toNat k.2.2.1 k.2.2.2.1 k.2.2.2.2, g.2.1, g.2.2.1, g.2.2.2 ++ [k]) := rfl
    by_cases hh : hindF g.1 g.2.2.1 k.2.1 k.2.2.1 k.2.2.2.1 k.2.2.2.2 < k.2.2.2.1
    · rw [if_pos hh] at hf
      have hpos := hindF_pos (s := g.1) (A := g.2.2.1) (node := k.2.1) (a := k.2.2.1) (b := k.2.2.2.1) (md := k.2.2.2.2) hr1.1 (by have := hr1.2; have := hr1.1; dsimp only at *; omega)
      have hr2 : k.2.2.2.1 ≤ 4096 := hr2
      generalize hindF g.1 g.2.2.1 k.2.1 k.2.2.1 k.2.2.2.1 k.2.2.2.2 = hv at *
      simp only [stp, Nat.reduceAdd, Int.reduceLT, Int.reduceLE, Int.reduceEq, Int.reduceNe, ne_eq, bne_self_eq_false, beq_self_eq_true, hh]
      refine ⟨fun w' => blk w' (siz w1) = some (.cells #[.int .i64 k.1, .int .i64 k.2.1, .int .i64 k.2.2.1, .int .i64 k.2.2.2.1, .int .i64 k.2.2.2.2] 50), b3, ?_⟩
      refine hld_wait (fun w' hS => hS) ?_
      simp only [stp, Nat.reduceAdd, Int.reduceLT, Int.reduceLE, Int.reduceEq, Int.reduceNe, ne_eq, bne_self_eq_false, beq_self_eq_true, stm]
      have g3d := g3.keep0 ((K0.refl w3).drew)
      refine ⟨(((K0.refl w3).drew).alloc _).blk b3 (by exact fun h => h), ?_⟩
      have s3 := g3d.k.size
      refine push_wait (w := w3.drew) g3d.l (by omega) s3 fun vl w4 ol k4 hrl => ?_
      have b4 : blk w4 (siz w1) = _ := k4.blk (w := w3.drew) b3 hnl
      have c4 := g3d.c.keep k4 fun g hg e => g1.lc g e hg
      have o4 := g3d.o.keep k4 fun g hg e => g1.lo g e hg
      have h4 := g3d.h.keepRow g3d.l k4 fun g hg e => by have := hwl g hg; have := (g3d.l.lt e).1; omega
      have kk4 : Keep (fun b => b ∈ ms) w w4 := g3d.k.trans' k4 fun b hb e => by have := (g3d.l.lt e).1; omega
      have lc4 : Dj vl (.slice pc g.2.2.1.length cc) := (g1.lc.symm.grow (n := siz w3.drew) (fun g hg => (g3d.c.lt hg).2) hrl).symm
      have lo4 : Dj vl xo := (g1.lo.symm.grow (n := siz w3.drew) (fun g hg => (g3d.o.lt hg).2) hrl).symm
      refine ⟨b4, hld_wait (fun w' hS => hS) ?_⟩
      refine claim_c ⟨by omega, by omega⟩ fun w5 k5 => ⟨k5.blk b4 (by exact fun h => h), ?_⟩
      simp only [stp, Nat.reduceAdd, Int.reduceLT, Int.reduceLE, Int.reduceEq, Int.reduceNe, ne_eq, bne_self_eq_false, beq_self_eq_true, stm]
      have b5 := k5.blk b4 (by exact fun h => h)
      refine ⟨((K0.refl w5).alloc _).blk b5 (by exact fun h => h), ?_⟩
      have kk5 := kk4.trans k5.none
      refine push_wait (k := claimOf k hv) (w := w5) (c4.keep k5 fun _ _ e => e) (by omega) kk5.size fun vc w6 oc k6 hrc => ?_
      have c5 := c4.keep k5 fun _ _ e => e
      have b6 : blk w6 (siz w1) = _ := k6.blk b5 hnc
      refine ⟨b6, hJ3 _ _ _ _ ?_⟩
      rw [hf]
      exact {
        h := (h4.keep0 k5).keepRow c5 k6 fun g hg e => by have := hwl g hg; have := (c5.lt e).1; omega
        l := by
          rw [List.length_append, flat_append, flat_one]
          exact (ol.keep k5 fun _ _ e => e).keep k6 fun g hg e => lc4 g hg e
        c := by
          rw [List.length_append, flat_append, flat_one]
          exact oc
        o := (o4.keep k5 fun _ _ e => e).keep k6 fun g hg e => g1.co g e hg
        lc := lc4.grow (n := siz w5) (fun g hg => ((ol.keep k5 fun _ _ e => e).lt hg).2) hrc
        lo := lo4
        co := (g1.co.symm.grow (n := siz w5) (fun g hg => ((o4.keep k5 fun _ _ e => e).lt hg).2) hrc).symm
        k := kk5.trans' k6 fun b hb e => by have := (c5.lt e).1; omega }
    · rw [if_neg hh] at hf
      obtain ⟨u, hu⟩ : ∃ u : Nat, k.2.1 = (u : Int) := ⟨k.2.1.toNat, by omega⟩
      have hu17 : u < 17 := by have := h.nn.2; omega
      obtain ⟨m, l, e1, e2, e3, hm, hd⟩ := g3.h.node hu17
      obtain ⟨z0, z1, z2, z3, z4⟩ := wait_cells b3
      simp only [stp, Nat.reduceAdd, Int.reduceLT, Int.reduceLE, Int.reduceEq, Int.reduceNe, ne_eq, bne_self_eq_false, beq_self_eq_true, stm, hh, z1]
      rw [hu, ixa hu17]
      simp only [stp, Nat.reduceAdd, Int.reduceLT, Int.reduceLE, Int.reduceEq, Int.reduceNe, ne_eq, bne_self_eq_false, beq_self_eq_true, stm, e3, z2, z3, z4]
      have g3d := g3.keep0 ((K0.refl w3).drew)
      refine traise_c (i := u) g3d.h e1 hr1.1 hr2 fun w4 h4 k4 => ?_
      obtain ⟨cs, hmb⟩ := im_blk (hm.keep0 ((K0.refl w3).drew))
      have nw : ∀ g cs, blk w3.drew g = some (.cells cs 50) → ¬ g = m := fun g cs hg e => ne_of_ty hg hmb (by decide) e
      have l4 := own_keepT g3d.l k4 nw
      have c4 := own_keepT g3d.c k4 nw
      have o4 := own_keepT g3d.o k4 nw
      have b4 : blk w4 (siz w1) = _ := k4.blk (w := w3.drew) b3 (nw _ _ b3)
      obtain ⟨z0, z1, z2, z3, z4⟩ := wait_cells b4
      simp only [stp, Nat.reduceAdd, Int.reduceLT, Int.reduceLE, Int.reduceEq, Int.reduceNe, ne_eq, bne_self_eq_false, beq_self_eq_true, stm, z0, z1, z2, z3, z4]
      have kk4 : Keep (fun b => b ∈ ms) w w4 := g3d.k.trans (k4.mono fun b _ e => by subst e; exact List.mem_of_getElem? e1)
      refine push_wait (w := w4) o4 (by omega) kk4.size fun vo w5 oo k5 hro => ?_
      refine hJ3 _ _ _ _ ?_
      rw [hf, hu, show (u : Int).toNat = u from rfl]
      exact {
        h := h4.keepRow o4 k5 fun g hg e => by have := hwl g hg; have := (o4.lt e).1; omega
        l := l4.keep k5 fun g hg e => g1.lo g hg e
        c := c4.keep k5 fun g hg e => g1.co g hg e
        o := by
          rw [List.length_append, flat_append, flat_one]
          exact oo
        lc := g1.lc
        lo := g1.lo.grow (n := siz w4) (fun g hg => (l4.lt hg).2) hro
        co := g1.co.grow (n := siz w4) (fun g hg => (c4.lt hg).2) hro
        k := kk4.trans' k5 fun b hb e => by have := (o4.lt e).1; omega }
  · rintro xo xl xc w2 g2 _j
    simp only [stp, Nat.reduceAdd, Int.reduceLT, Int.reduceLE, Int.reduceEq, Int.reduceNe, ne_eq, bne_self_eq_false, beq_self_eq_true, hwi]
    exact hJ (s.ws.length - (i + 1)) _ _ _ _ _ (by omega) ⟨i + 1, rfl, by omega, rfl, g2⟩
end
end Go.Proofs.YtcekmdpiloegcaaGreat
/- The table of locks: what is given back. Conditions: as each says. -/
namespace Go.Proofs.YtcekmdpiloegcaaGreat
open Go.Sh Go.Proofs.YtcekmdpiloegcaaGreat.Mi
set_option maxRecDepth 100000
section
variable {w w' : World} {Q : Value → World → Prop} {B t : Nat} {s : TS}
/-- What is held behind a release: in the range no more than is kept. -/
def relV (keep : Int) (h : Option Int) (v : Int) : Option Int := if v ≤ keep then h else if keep = 0 then none else some keep
def relF (f : Int → Option Int) (sp : Sp) (keep : Int) (x : Int) : Option Int := if hasB sp x then (match f x with | some v => relV keep (some v) v | none => none) else f x
theorem relF_over (l : List (Pt Int)) (hc : Canon l) (sp : Sp) (keep x : Int) : overB (relV keep) (valB l) (valB (partsL sp l)) x = relF (valB l) sp keep x := by
  unfold overB relF
  rw [partsL_val _ _ hc.1]
  by_cases h : hasB sp x
  · rw [if_pos h, if_pos h]
    cases e : valB l x with
    | none => rfl
    | some v => rfl
  · rw [if_neg h, if_neg h]
theorem sup_rel {f : Int → Option Int} {sp : Sp} {keep : Int} (hf : Sup f) : Sup (relF f sp keep) := fun x hx => by
  refine hf x fun e => hx ?_
  unfold relF
  rw [e]
  split <;> rfl
def TS.release (s : TS) (i : Nat) (a b keep : Int) : TS := s.turn i (relF (bl s i) (a, b) keep)
theorem release_c {node a b keep : Int} (h : TL w B t s) (hok : WsOk s.ws) (hwn : WsN s) (hB : B ≤ siz w)
    (q0 : ∀ w', ¬ ((1 ≤ node ∧ node ≤ s.nodes) ∧ ok (a, b) ∧ (keep = 0 ∨ keep = 1)) → K0 w w' → Q (.tuple #[.slice none 0 0, .int .i64 1]) w')
    (q1 : ∀ w' v' (i : Nat), node = (i : Int) → 1 ≤ i → (i : Int) ≤ s.nodes → ok (a, b) → (keep = 0 ∨ keep = 1) → TL w' B t (s.release i a b keep).granted → Own w' (siz w) 50 5 v' (grantOut (s.release i a b keep)).length (flat enc5 (grantOut (s.release i a b keep))) →
      KO B tp w w' → Q (.tuple #[v', .int .i64 0]) w') :
    callS Tryz.prog 7 #[.pointer (some ⟨t, 0, none⟩), .int .i64 node, .agg #[.int .i64 a, .int .i64 b], .int .i64 keep] Q w := by
  refine ref7 ?_
  unfold S7
  obtain ⟨ms, wv, h⟩ := h
  simp only [act_box, agg_cells]
  have b1 : blk (w.alloc (.cells #[.int .i64 a, .int .i64 b] 27)) (siz w) = some (.cells #[.int .i64 a, .int .i64 b] 27) := blk_alloc_new
  have k1 : K0 w (w.alloc (.cells #[.int .i64 a, .int .i64 b] 27)) := (K0.refl w).alloc _
  have s1 : siz w < siz (w.alloc (.cells #[.int .i64 a, .int .i64 b] 27)) := blk_lt b1
  generalize w.alloc (.cells #[.int .i64 a, .int .i64 b] 27) = w1 at b1 k1 s1
  refine is_c (h.keep0 k1).c0 ?_
  by_cases hnd : 1 ≤ node ∧ node ≤ s.nodes
  case neg =>
    rw [decide_eq_false hnd]
    simp only [stp, Nat.reduceAdd, Int.reduceLT, Int.reduceLE, Int.reduceEq, Int.reduceNe, ne_eq, bne_self_eq_false, beq_self_eq_true]
    exact q0 _ (fun h => hnd h.1) k1
  rw [decide_eq_true hnd]
  have x0 : cel w1 (siz w) 0 = some (.int .i64 a) := by rw [cel_b b1]; rfl
  have x1 : cel w1 (siz w) 1 = some (.int .i64 b) := by rw [cel_b b1]; rfl
  simp only [stp, Nat.reduceAdd, Int.reduceLT, Int.reduceLE, Int.reduceEq, Int.reduceNe, ne_eq, bne_self_eq_false, beq_self_eq_true, stm, x0, x1]
  refine valid_c fun w2 g2 => ?_
  have k2 : K0 w1 w2 := g2.1
  by_cases hok' : ok (a, b)
  case neg =>
    rw [decide_eq_false hok']
    simp only [stp, Nat.reduceAdd, Int.reduceLT, Int.reduceLE, Int.reduceEq, Int.reduceNe, ne_eq, bne_self_eq_false, beq_self_eq_true]
    exact q0 _ (fun h => hok' h.2.1) (k1.trans k2)
  rw [decide_eq_true hok']
  by_cases hkp : keep = 0 ∨ keep = 1
  case neg =>
    have hk0 : ¬ keep = 0 := fun h => hkp (.inl h)
    have hk1 : ¬ keep = 1 := fun h => hkp (.inr h)
    simp only [stp, Nat.reduceAdd, Int.reduceLT, Int.reduceLE, Int.reduceEq, Int.reduceNe, ne_eq, bne_self_eq_false, beq_self_eq_true, hk0, hk1]
    exact q0 _ (fun h => hkp h.2.2) (k1.trans k2)
  have kk2 := k1.trans k2
  obtain ⟨i, rfl⟩ : ∃ i : Nat, node = (i : Int) := ⟨node.toNat, by omega⟩
  have hlt : i < 17 := by have := h.nn.2; omega
  have h2 := h.keep0 kk2
  obtain ⟨m, l, e1, e2, e3, hm, hd⟩ := h2.node hlt
  have hl := canon_len (n := 4096) hm.canon hd
  have hbl : bl s i = valB l := by unfold bl; rw [e2]; rfl
  have y0 : cel w2 (siz w) 0 = some (.int .i64 a) := k2.cel x0 (by exact fun h => h)
  have y1 : cel w2 (siz w) 1 = some (.int .i64 b) := k2.cel x1 (by exact fun h => h)
  have main : ∀ (k : Value → World → Prop), (∀ w' v', TL w' B t (s.release i a b keep).granted → Own w' (siz w) 50 5 v' (grantOut (s.release i a b keep)).length (flat enc5 (grantOut (s.release i a b keep))) → KO B tp w w' → k v' w') →
      ∀ w', (∃ l', TLr w' B t { s with hs := s.hs.set i l' } ms wv ∧ Canon l' ∧ (∀ x, valB l' x = relF (valB l) (a, b) keep x) ∧ Keep (fun b => b = m) w2 w') → callS Tryz.prog 26 #[.pointer (some ⟨t, 0, none⟩)] k w' := by
    rintro k hk w5 ⟨l', h5, hc5, hv5, k5⟩
    have hs5 : ({ s with hs := s.hs.set i l' } : TS) = s.release i a b keep := by
      unfold TS.release TS.turn
      rw [canonL_eq (l := l') hc5 (bd_of_val hc5 fun x hx => ?_) fun x => by rw [hv5, hbl]]
      rw [hv5]
      refine Classical.byContradiction fun hne => ?_
      have := sup_rel (keep := keep) (sp := (a, b)) (sup_val hd) x hne
      omega
    rw [hs5] at h5
    have s5 := k5.size
    have s2 := kk2.size
    refine grant_c ⟨_, _, h5⟩ hok hwn (by omega) fun w6 v6 h6 o6 k6 => ?_
    exact hk w6 v6 h6 (o6.le (by omega)) (((KO.of0 kk2).trans (h2.ko e1 k5)).trans k6)
  have q1' := fun w' v' h1 h2 h3 => q1 w' v' i rfl (by omega) hnd.2 hok' hkp h1 h2 h3
  have walk : ∀ (k : Value → World → Prop), (∀ w' v', TL w' B t (s.release i a b keep).granted → Own w' (siz w) 50 5 v' (grantOut (s.release i a b keep)).length (flat enc5 (grantOut (s.release i a b keep))) → KO B tp w w' → k v' w') → True := fun _ _ => trivial
  have hkc : keep = 0 ∨ (¬ keep = 0 ∧ keep = 1) := by rcases hkp with h | h <;> omega
  have hset0 : ({ s with hs := s.hs.set i l } : TS) = s := by
    have : s.hs.set i l = s.hs := by
      have hi' : i < s.hs.length := by rw [h.hn]; exact hlt
      have : s.hs[i] = l := by rw [List.getElem?_eq_getElem hi'] at e2; injection e2
      rw [← this, List.set_getElem_self]
    rw [this]
  have hnl : i < s.hs.length := by rw [h.hn]; exact hlt
  have hPl := partsL_len (a, b) l
  have hPc := partsL_canon (s := (a, b)) hm.canon
  have hPd : ∀ p ∈ partsL (a, b) l, p.1.2 ≤ 4096 := fun p hp => by
    obtain ⟨q, hq, _, rfl⟩ := partsL_mem hp
    have := hd q hq
    show min q.1.2 b ≤ 4096
    omega
  have hend : ∀ l' : List (Pt Int), (∀ x, valB l' x = overB (relV keep) (valB l) (valB ((partsL (a, b) l).take (partsL (a, b) l).length)) x) → ∀ x, valB l' x = relF (valB l) (a, b) keep x := fun l' h x => by
    rw [h, List.take_length, relF_over l hm.canon]
  have k2d := (K0.refl w2).drew
  have hmapm : ∀ {w' l'}, TLr w' B t { s with hs := s.hs.set i l' } ms wv → cel w' t (1 + i) = some (.pointer (some ⟨m, 0, none⟩)) ∧ IM w' m l' ∧ Bd 4096 l' := fun {w' l'} h' => by
    obtain ⟨m', l2, f1, f2, f3, f4, f5⟩ := h'.node hlt
    have f2 : (s.hs.set i l')[i]? = some l2 := f2
    rw [List.getElem?_set_self hnl] at f2
    injection f2 with f2
    rw [e1] at f1
    injection f1 with f1
    subst f1 f2
    exact ⟨f3, f4, f5⟩
  rcases hkc with rfl | ⟨hk0, rfl⟩
  · simp only [stp, Nat.reduceAdd, Int.reduceLT, Int.reduceLE, Int.reduceEq, Int.reduceNe, ne_eq, bne_self_eq_false, beq_self_eq_true]
    rw [ixa hlt]
    simp only [stp, Nat.reduceAdd, Int.reduceLT, Int.reduceLE, Int.reduceEq, Int.reduceNe, ne_eq, bne_self_eq_false, beq_self_eq_true, stm, e3, y0, y1]
    refine parts_c (a := a) (b := b) (w := w2.drew) (hm.keep0 k2d) (by omega) fun w3 v3 o3 k3 => ?_
    have k3 : K0 w2 w3 := k2d.trans k3
    generalize partsL (a, b) l = P at *
    obtain ⟨p3, c3, rfl⟩ := o3.form
    simp only [stp, Nat.reduceAdd, Int.reduceLT, Int.reduceLE, Int.reduceEq, Int.reduceNe, ne_eq, bne_self_eq_false, beq_self_eq_true]
    refine lpc1 P.length (by omega) (fun j w' => ∃ l', TLr w' B t { s with hs := s.hs.set i l' } ms wv ∧ Canon l' ∧ (∀ x, valB l' x = overB (relV 0) (valB l) (valB (P.take j)) x) ∧ l'.length ≤ l.length + 2 * j ∧ Keep (fun b => b = m) w3 w')
      ⟨l, by rw [hset0]; exact h2.keep0 k3, hm.canon, fun x => rfl, by omega, Keep.refl _ _⟩ ?_ ?_
    · rintro j w4 hj ⟨l4, h4, hc4, hv4, hl4, k4⟩ J hJ _j
      have hj' : (j : Int) < (P.length : Int) := by omega
      obtain ⟨f3, f4, f5⟩ := hmapm h4
      obtain ⟨g, rfl, r0, r1, r2⟩ := part_at ((hm.keep0 k3).list (o3.keep (K0.refl _) fun _ _ e => e) (by decide) k4) hj
      simp only [stp, Nat.reduceAdd, Int.reduceLT, Int.reduceLE, Int.reduceEq, Int.reduceNe, ne_eq, bne_self_eq_false, beq_self_eq_true, hj']
      refine jn0 (fun w' => ∃ l', TLr w' B t { s with hs := s.hs.set i l' } ms wv ∧ Canon l' ∧ (∀ x, valB l' x = overB (relV 0) (valB l) (valB (P.take (j + 1))) x) ∧ l'.length ≤ l.length + 2 * (j + 1) ∧ Keep (fun b => b = m) w3 w') (fun J1 hJ1 => ?_) ?_
      · rw [ix_62 hj, Nat.zero_add]
        simp only [stp, Nat.reduceAdd, Int.reduceLT, Int.reduceLE, Int.reduceEq, Int.reduceNe, ne_eq, bne_self_eq_false, beq_self_eq_true, stm, r0, r1, r2]
        have hP0 := hPc.1 _ (List.getElem_mem hj)
        have hT := fun x => over_take (F := relV 0) (H := valB l) hPc.apart hj x
        generalize P[j] = p at *
        have b5 : blk (w4.alloc (.cells #[.int .i64 p.1.1, .int .i64 p.1.2, .int .i64 p.2] 65)) (siz w4) = some (.cells #[.int .i64 p.1.1, .int .i64 p.1.2, .int .i64 p.2] 65) := blk_alloc_new
        have k5 : K0 w4 (w4.alloc (.cells #[.int .i64 p.1.1, .int .i64 p.1.2, .int .i64 p.2] 65)) := (K0.refl w4).alloc _
        generalize w4.alloc (.cells #[.int .i64 p.1.1, .int .i64 p.1.2, .int .i64 p.2] 65) = w5 at b5 k5
        have d0 : cel w5 (siz w4) 0 = some (.int .i64 p.1.1) := by rw [cel_b b5]; rfl
        have d1 : cel w5 (siz w4) 1 = some (.int .i64 p.1.2) := by rw [cel_b b5]; rfl
        have d2 : cel w5 (siz w4) 2 = some (.int .i64 p.2) := by rw [cel_b b5]; rfl
        by_cases hle : p.2 ≤ 0
        · simp only [stp, Nat.reduceAdd, Int.reduceLT, Int.reduceLE, Int.reduceEq, Int.reduceNe, ne_eq, bne_self_eq_false, beq_self_eq_true, stm, d2, hle]
          refine hJ1 _ ⟨l4, h4.keep0 k5, hc4, fun x => ?_, by omega, k4.trans k5.none⟩
          rw [hT, ← hv4]
          by_cases hx : hasB p.1 x
          · rw [if_pos hx]; unfold relV; rw [if_pos hle]
          · rw [if_neg hx]
        simp only [stp, Nat.reduceAdd, Int.reduceLT, Int.reduceLE, Int.reduceEq, Int.reduceNe, ne_eq, bne_self_eq_false, beq_self_eq_true, stm, d2, hle]
        rw [ixa hlt]
        have f3' := k5.cel f3 (by exact fun h => h)
        simp only [stp, Nat.reduceAdd, Int.reduceLT, Int.reduceLE, Int.reduceEq, Int.reduceNe, ne_eq, bne_self_eq_false, beq_self_eq_true, stm, f3', d0, d1]
        have h5 := h4.keep0 (k5.drew)
        refine clear_any (f4.keep0 k5.drew) (by omega) fun w6 l6 r6 m6 hv6 hl6 k6 => ?_
        have hd6 : Bd 4096 l6 := bd_of_val m6.canon fun x hx => by
          rw [hv6]; split
          · rfl
          · exact val_of_bd f5 hx
        have h6 := h5.turn e1 k6 m6 hd6
        rw [List.set_set] at h6
        refine hJ1 _ ⟨l6, h6, m6.canon, fun x => ?_, by omega, (k4.trans k5.drew.none).trans k6⟩
        rw [hT, hv6, hv4]
        unfold relV
        rw [if_neg hle, if_pos rfl]
      · rintro w5 h5 _j
        exact hJ _ h5
    · rintro w4 ⟨l4, h4, hc4, hv4, _, k4⟩ J _j
      have hn : ¬ ((P.length : Int) < (P.length : Int)) := by omega
      simp only [stp, Nat.reduceAdd, Int.reduceLT, Int.reduceLE, Int.reduceEq, Int.reduceNe, ne_eq, bne_self_eq_false, beq_self_eq_true, hn]
      exact main _ (fun w' v' h1 h2 h3 => q1' w' v' h1 h2 h3) _ ⟨l4, h4, hc4, hend l4 hv4, k3.none.trans k4⟩
  · simp only [stp, Nat.reduceAdd, Int.reduceLT, Int.reduceLE, Int.reduceEq, Int.reduceNe, ne_eq, bne_self_eq_false, beq_self_eq_true, hk0]
    rw [ixa hlt]
    simp only [stp, Nat.reduceAdd, Int.reduceLT, Int.reduceLE, Int.reduceEq, Int.reduceNe, ne_eq, bne_self_eq_false, beq_self_eq_true, stm, e3, y0, y1]
    refine parts_c (a := a) (b := b) (w := w2.drew) (hm.keep0 k2d) (by omega) fun w3 v3 o3 k3 => ?_
    have k3 : K0 w2 w3 := k2d.trans k3
    generalize partsL (a, b) l = P at *
    obtain ⟨p3, c3, rfl⟩ := o3.form
    simp only [stp, Nat.reduceAdd, Int.reduceLT, Int.reduceLE, Int.reduceEq, Int.reduceNe, ne_eq, bne_self_eq_false, beq_self_eq_true]
    refine lpc1 P.length (by omega) (fun j w' => ∃ l', TLr w' B t { s with hs := s.hs.set i l' } ms wv ∧ Canon l' ∧ (∀ x, valB l' x = overB (relV 1) (valB l) (valB (P.take j)) x) ∧ l'.length ≤ l.length + 2 * j ∧ Keep (fun b => b = m) w3 w')
      ⟨l, by rw [hset0]; exact h2.keep0 k3, hm.canon, fun x => rfl, by omega, Keep.refl _ _⟩ ?_ ?_
    · rintro j w4 hj ⟨l4, h4, hc4, hv4, hl4, k4⟩ J hJ _j
      have hj' : (j : Int) < (P.length : Int) := by omega
      obtain ⟨f3, f4, f5⟩ := hmapm h4
      obtain ⟨g, rfl, r0, r1, r2⟩ := part_at ((hm.keep0 k3).list (o3.keep (K0.refl _) fun _ _ e => e) (by decide) k4) hj
      simp only [stp, Nat.reduceAdd, Int.reduceLT, Int.reduceLE, Int.reduceEq, Int.reduceNe, ne_eq, bne_self_eq_false, beq_self_eq_true, hj']
      refine jn0 (fun w' => ∃ l', TLr w' B t { s with hs := s.hs.set i l' } ms wv ∧ Canon l' ∧ (∀ x, valB l' x = overB (relV 1) (valB l) (valB (P.take (j + 1))) x) ∧ l'.length ≤ l.length + 2 * (j + 1) ∧ Keep (fun b => b = m) w3 w') (fun J1 hJ1 => ?_) ?_
      · rw [ix_62 hj, Nat.zero_add]
        simp only [stp, Nat.reduceAdd, Int.reduceLT, Int.reduceLE, Int.reduceEq, Int.reduceNe, ne_eq, bne_self_eq_false, beq_self_eq_true, stm, r0, r1, r2]
        have hP0 := hPd _ (List.getElem_mem hj)
        have hT := fun x => over_take (F := relV 1) (H := valB l) hPc.apart hj x
        generalize P[j] = p at *
        have b5 : blk (w4.alloc (.cells #[.int .i64 p.1.1, .int .i64 p.1.2, .int .i64 p.2] 65)) (siz w4) = some (.cells #[.int .i64 p.1.1, .int .i64 p.1.2, .int .i64 p.2] 65) := blk_alloc_new
        have k5 : K0 w4 (w4.alloc (.cells #[.int .i64 p.1.1, .int .i64 p.1.2, .int .i64 p.2] 65)) := (K0.refl w4).alloc _
        generalize w4.alloc (.cells #[.int .i64 p.1.1, .int .i64 p.1.2, .int .i64 p.2] 65) = w5 at b5 k5
        have d0 : cel w5 (siz w4) 0 = some (.int .i64 p.1.1) := by rw [cel_b b5]; rfl
        have d1 : cel w5 (siz w4) 1 = some (.int .i64 p.1.2) := by rw [cel_b b5]; rfl
        have d2 : cel w5 (siz w4) 2 = some (.int .i64 p.2) := by rw [cel_b b5]; rfl
        by_cases hle : p.2 ≤ 1
        · simp only [stp, Nat.reduceAdd, Int.reduceLT, Int.reduceLE, Int.reduceEq, Int.reduceNe, ne_eq, bne_self_eq_false, beq_self_eq_true, stm, d2, hle]
          refine hJ1 _ ⟨l4, h4.keep0 k5, hc4, fun x => ?_, by omega, k4.trans k5.none⟩
          rw [hT, ← hv4]
          by_cases hx : hasB p.1 x
          · rw [if_pos hx]; unfold relV; rw [if_pos hle]
          · rw [if_neg hx]
        simp only [stp, Nat.reduceAdd, Int.reduceLT, Int.reduceLE, Int.reduceEq, Int.reduceNe, ne_eq, bne_self_eq_false, beq_self_eq_true, stm, d2, hle]
        rw [ixa hlt]
        have f3' := k5.cel f3 (by exact fun h => h)
        simp only [stp, Nat.reduceAdd, Int.reduceLT, Int.reduceLE, Int.reduceEq, Int.reduceNe, ne_eq, bne_self_eq_false, beq_self_eq_true, stm, f3', d0, d1]
        have h5 := h4.keep0 (k5.drew)
        refine set_any (v := 1) (f4.keep0 k5.drew) (by omega) fun w6 l6 r6 m6 hv6 hl6 k6 => ?_
        have hd6 : Bd 4096 l6 := bd_of_val m6.canon fun x hx => by
          rw [hv6]; split
          · rename_i hxx
            have h1 := hxx.2.2
            dsimp only at h1
            omega
          · exact val_of_bd f5 hx
        have h6 := h5.turn e1 k6 m6 hd6
        rw [List.set_set] at h6
        refine hJ1 _ ⟨l6, h6, m6.canon, fun x => ?_, by omega, (k4.trans k5.drew.none).trans k6⟩
        rw [hT, hv6, hv4]
        unfold relV
        rw [if_neg hle, if_neg hk0]
      · rintro w5 h5 _j
        exact hJ _ h5
    · rintro w4 ⟨l4, h4, hc4, hv4, _, k4⟩ J _j
      have hn : ¬ ((P.length : Int) < (P.length : Int)) := by omega
      simp only [stp, Nat.reduceAdd, Int.reduceLT, Int.reduceLE, Int.reduceEq, Int.reduceNe, ne_eq, bne_self_eq_false, beq_self_eq_true, hn]
      exact main _ (fun w' v' h1 h2 h3 => q1' w' v' h1 h2 h3) _ ⟨l4, h4, hc4, hend l4 hv4, k3.none.trans k4⟩
end
end Go.Proofs.YtcekmdpiloegcaaGreat
