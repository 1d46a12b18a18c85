/- The table of locks: requests taken back, nodes dropped, locks held by force. Conditions: as each says. -/
import Derived.Test.YtcekmdpiloegcaaGreatTabF
set_option linter.unusedSimpArgs false
set_option linter.unusedVariables false
namespace Go.Proofs.YtcekmdpiloegcaaGreat
open Go.Sh Go.Proofs.YtcekmdpiloegcaaGreat.Mi
set_option maxRecDepth 100000
section
variable {w w' : World} {Q : Value → World → Prop} {B t : Nat} {s : TS}
theorem callF_cap {P : Program} {g : FuncId} {x t : Value} {k : Value → World → Prop} : callF P (.func (.func g) #[] #[t]) #[x] k w = callS P g #[x, t] k w := by
  simp [callF]
theorem WsOk.filter {W : List I5} (h : WsOk W) (p : I5 → Bool) : WsOk (W.filter p) := ⟨Nat.le_trans (List.length_filter_le _ _) h.1, fun k hk => h.2 k (List.mem_filter.1 hk).1⟩
/-- Fewer wait. -/
def TS.thin (s : TS) (p : I5 → Bool) : TS := { s with ws := s.ws.filter p }
theorem WsN.thin (h : WsN s) (p : I5 → Bool) : WsN (s.thin p) := fun k hk => h k (List.mem_filter.1 hk).1
/-- The row of those that wait is put into the table. -/
theorem TLr.put {ms : List Nat} {wv wv' : Value} {W : List I5} (h : TLr w B t s ms wv) (ho : Own w B 50 5 wv' W.length (flat enc5 W)) : TLr (sto w t 18 wv') B t { s with ws := W } ms wv' := by
  have b9 := blk_sto (o := 18) (v := wv') h.b
  have hset9 : (tcells s.nodes (ptrs ms) wv s.last).setIfInBounds 18 wv' = tcells s.nodes (ptrs ms) wv' s.last := by
    unfold tcells
    rw [List.setIfInBounds_toArray, show (18 : Nat) = 17 + 1 from rfl, List.set_cons_succ, List.set_append_right _ _ (by simp [ptrs, h.n])]
    simp [ptrs, h.n]
  rw [hset9] at b9
  have k9 : Keep (fun b => b = t) w (sto w t 18 wv') := (Keep.refl (fun b => b = t) w).sto (.inl rfl) _ _
  exact h.rest (ws' := W) (last' := s.last) (k9.mono fun b _ e => .inl e) b9 (own_keepT ho k9 fun g cs hg e => ne_of_ty hg h.b (by decide) e)
/-- A row that is thinned in its place: the table stands while it turns. -/
theorem TLr.row {ms : List Nat} {wv : Value} (h : TLr w B t s ms wv) (k : Keep (fun b => wv.ownBlock = some b) w w') : blk w' t = some (.cells (tcells s.nodes (ptrs ms) wv s.last) 54) ∧ (cel w' t 18).isSome = true ∧ ∀ (wv' : Value) (W : List I5), Own w' B 50 5 wv' W.length (flat enc5 W) → TLr (sto w' t 18 wv') B t { s with ws := W } ms wv' ∧ KO B tp w (sto w' t 18 wv') := by
  have hb : blk w' t = some (.cells (tcells s.nodes (ptrs ms) wv s.last) 54) := k.blk h.b fun e => by
    obtain ⟨_, cs, hc⟩ := own_ty h.wr e
    exact ne_of_ty h.b hc (by decide) rfl
  refine ⟨hb, by rw [cel_b hb]; unfold tcells; simp [ptrs, h.n], fun wv' W ho => ?_⟩
  have b9 := blk_sto (o := 18) (v := wv') hb
  have hset9 : (tcells s.nodes (ptrs ms) wv s.last).setIfInBounds 18 wv' = tcells s.nodes (ptrs ms) wv' s.last := by
    unfold tcells
    rw [List.setIfInBounds_toArray, show (18 : Nat) = 17 + 1 from rfl, List.set_cons_succ, List.set_append_right _ _ (by simp [ptrs, h.n])]
    simp [ptrs, h.n]
  rw [hset9] at b9
  have k9 : Keep (fun b => b = t) w' (sto w' t 18 wv') := (Keep.refl (fun b => b = t) w').sto (.inl rfl) _ _
  have kk := (k.mono (F' := fun b => b = t ∨ wv.ownBlock = some b) fun b _ e => .inr e).trans (k9.mono fun b _ e => .inl e)
  exact ⟨h.rest (ws' := W) (last' := s.last) kk b9 (own_keepT ho k9 fun g cs hg e => ne_of_ty hg hb (by decide) e), h.ko1 kk⟩
theorem cancel_c {id : Int} (h : TL w B t s) (hok : WsOk s.ws) (hwn : WsN s) (hB : B ≤ siz w)
    (hq : ∀ w' s' v' r, (s' = s ∨ s' = (s.thin fun k => decide (¬ k.1 = id)).granted) → TL w' B t s' → KO B tp w w' → Q (.tuple #[v', .bool r]) w') :
    callS Tryz.prog 8 #[.pointer (some ⟨t, 0, none⟩), .int .i64 id] Q w := by
  refine ref8 ?_
  unfold S8
  obtain ⟨ms, wv, h⟩ := h
  rw [act_box]
  have b1 : blk (w.alloc (.cells (Value.int .i64 id).cells 3)) (siz w) = some (.cells #[.int .i64 id] 3) := blk_alloc_new
  have k1 : K0 w (w.alloc (.cells (Value.int .i64 id).cells 3)) := (K0.refl w).alloc _
  generalize w.alloc (.cells (Value.int .i64 id).cells 3) = w1 at b1 k1
  have hB' := hB
  generalize siz w = bx at b1 hB
  have h1 := h.keep0 k1
  have c18 := h1.c18
  have hW := hok.1
  obtain ⟨pa, ca, rfl⟩ := h1.wr.form
  simp only [stp, Nat.reduceAdd, Int.reduceLT, Int.reduceLE, Int.reduceEq, Int.reduceNe, ne_eq, bne_self_eq_false, beq_self_eq_true, stm, c18]
  refine wt_delete (P := fun k => k.1 = id) h1.wr (by omega) (fun w2 k Q' kk hk hQ => ?_) fun w2 v2 W hW o2 k2 hs2 => ?_
  · rw [callF_cap]
    refine ref28 ?_
    unfold S28
    have b2 := kk.blk b1 fun e => by
      obtain ⟨_, cs, hc⟩ := own_ty h1.wr e
      exact ne_of_ty b1 hc (by decide) rfl
    rw [act_box]
    have k3 : K0 w2 (w2.alloc (.cells (Value.agg #[.int .i64 k.1, .int .i64 k.2.1, .int .i64 k.2.2.1, .int .i64 k.2.2.2.1, .int .i64 k.2.2.2.2]).cells 50)) := (K0.refl w2).alloc _
    have b3 : blk (w2.alloc (.cells (Value.agg #[.int .i64 k.1, .int .i64 k.2.1, .int .i64 k.2.2.1, .int .i64 k.2.2.2.1, .int .i64 k.2.2.2.2]).cells 50)) (siz w2) = some (.cells #[.int .i64 k.1, .int .i64 k.2.1, .int .i64 k.2.2.1, .int .i64 k.2.2.2.1, .int .i64 k.2.2.2.2] 50) := blk_alloc_new
    generalize w2.alloc (.cells (Value.agg #[.int .i64 k.1, .int .i64 k.2.1, .int .i64 k.2.2.1, .int .i64 k.2.2.2.1, .int .i64 k.2.2.2.2]).cells 50) = w3 at k3 b3
    have x0 : cel w3 (siz w2) 0 = some (.int .i64 k.1) := cel_b b3 0
    have x1 : cel w3 bx 0 = some (.int .i64 id) := cel_b (k3.blk b2 (by exact fun h => h)) 0
    simp only [stp, Nat.reduceAdd, Int.reduceLT, Int.reduceLE, Int.reduceEq, Int.reduceNe, ne_eq, bne_self_eq_false, beq_self_eq_true, stm, x0, x1]
    exact hQ _ k3
  obtain ⟨p2, c2, rfl⟩ := o2.form
  obtain ⟨hb2, i18, put⟩ := h1.row k2
  obtain ⟨h3, ko3⟩ := put _ W o2
  rw [st_35 one_slice i18 (fre_b hb2)]
  have c18' := h3.c18
  have ko := (KO.of0 k1).trans ko3
  simp only [stp, Nat.reduceAdd, Int.reduceLT, Int.reduceLE, Int.reduceEq, Int.reduceNe, ne_eq, bne_self_eq_false, beq_self_eq_true, stm, c18']
  by_cases hlen : W.length = s.ws.length
  · have hlen' : ((W.length : Int) = (s.ws.length : Int)) := by omega
    simp only [stp, Nat.reduceAdd, Int.reduceLT, Int.reduceLE, Int.reduceEq, Int.reduceNe, ne_eq, bne_self_eq_false, beq_self_eq_true, stm, hlen']
    have hWs : W = s.ws := by
      rw [hW] at hlen ⊢
      exact List.filter_eq_self.2 (List.length_filter_eq_length_iff.1 hlen)
    have hse : ({ s with ws := W } : TS) = s := by rw [hWs]
    rw [hse] at h3
    exact hq _ s _ false (.inl rfl) ⟨_, _, h3⟩ ko
  · have hlen' : ¬ ((W.length : Int) = (s.ws.length : Int)) := by omega
    simp only [stp, Nat.reduceAdd, Int.reduceLT, Int.reduceLE, Int.reduceEq, Int.reduceNe, ne_eq, bne_self_eq_false, beq_self_eq_true, stm, hlen']
    subst hW
    refine grant_c ⟨_, _, h3⟩ (hok.filter _) (hwn.thin fun k => decide (¬ k.1 = id)) (by have := ko.size; have := k1.size; have := ko3.size; omega) fun w4 v4 h4 o4 k4 => ?_
    exact hq _ _ _ true (.inr rfl) h4 (ko.trans k4)
end
end Go.Proofs.YtcekmdpiloegcaaGreat
/- The table of locks: locks held by force, nodes dropped. Conditions: as each says. -/
namespace Go.Proofs.YtcekmdpiloegcaaGreat
open Go.Sh Go.Proofs.YtcekmdpiloegcaaGreat.Mi
set_option maxRecDepth 100000
section
variable {w w' : World} {Q : Value → World → Prop} {B t : Nat} {s : TS}
/-- Nobody else holds what does not fit. -/
def fitsP (s : TS) (node a b md : Int) : Prop := ∀ (o : Nat) l, 1 ≤ o → (o : Int) ≤ s.nodes → (o : Int) ≠ node → s.hs[o]? = some l → ∀ p ∈ partsL (a, b) l, fitP p.2 md
theorem force_c {node a b md : Int} (h : TL w B t s)
    (hq : ∀ w' s' (e : Int), (s' = s ∨ ∃ i : Nat, node = (i : Int) ∧ rightA s node a b md ∧ fitsP s node a b md ∧ s' = s.raise i a b md) → TL w' B t s' → KO B tp w w' → Q (.int .i64 e) w') :
    callS Tryz.prog 10 #[.pointer (some ⟨t, 0, none⟩), .int .i64 node, .agg #[.int .i64 a, .int .i64 b, .int .i64 md]] Q w := by
  refine ref10 ?_
  unfold S10
  have hTL := h
  obtain ⟨ms, wv, h⟩ := h
  simp only [act_box, agg_cells]
  have b1 : blk (w.alloc (.cells #[.int .i64 a, .int .i64 b, .int .i64 md] 29)) (siz w) = some (.cells #[.int .i64 a, .int .i64 b, .int .i64 md] 29) := blk_alloc_new
  have k1 : K0 w (w.alloc (.cells #[.int .i64 a, .int .i64 b, .int .i64 md] 29)) := (K0.refl w).alloc _
  generalize w.alloc (.cells #[.int .i64 a, .int .i64 b, .int .i64 md] 29) = w1 at b1 k1
  have hcl : ∀ {w'}, K0 w1 w' → cel w' (siz w) 0 = some (.int .i64 a) ∧ cel w' (siz w) 1 = some (.int .i64 b) ∧ cel w' (siz w) 2 = some (.int .i64 md) := fun k => by
    refine ⟨?_, ?_, ?_⟩ <;> (rw [cel_b (k.blk b1 (by exact fun h => h))]; rfl)
  refine is_c (h.keep0 k1).c0 ?_
  by_cases hnd : 1 ≤ node ∧ node ≤ s.nodes
  case neg =>
    rw [decide_eq_false hnd]
    simp only [stp, Nat.reduceAdd, Int.reduceLT, Int.reduceLE, Int.reduceEq, Int.reduceNe, ne_eq, bne_self_eq_false, beq_self_eq_true]
    exact hq _ s _ (.inl rfl) (hTL.keep0 k1) (KO.of0 k1)
  rw [decide_eq_true hnd]
  obtain ⟨x0, x1, x2⟩ := hcl (K0.refl w1)
  simp only [stp, Nat.reduceAdd, Int.reduceLT, Int.reduceLE, Int.reduceEq, Int.reduceNe, ne_eq, bne_self_eq_false, beq_self_eq_true, stm, x0, x1, x2]
  refine right_c fun w2 k2 => ?_
  by_cases hr : rightL (a, b, md)
  case neg =>
    rw [decide_eq_false hr]
    simp only [stp, Nat.reduceAdd, Int.reduceLT, Int.reduceLE, Int.reduceEq, Int.reduceNe, ne_eq, bne_self_eq_false, beq_self_eq_true]
    exact hq _ s _ (.inl rfl) (hTL.keep0 (k1.trans k2)) (KO.of0 (k1.trans k2))
  rw [decide_eq_true hr]
  obtain ⟨i, rfl⟩ : ∃ i : Nat, node = (i : Int) := ⟨node.toNat, by omega⟩
  have hlt : i < 17 := by have := h.nn.2; omega
  have kk2 := k1.trans k2
  obtain ⟨x0, x1, x2⟩ := hcl k2
  simp only [stp, Nat.reduceAdd, Int.reduceLT, Int.reduceLE, Int.reduceEq, Int.reduceNe, ne_eq, bne_self_eq_false, beq_self_eq_true, stm, x0, x1, x2]
  refine fits_c (hTL.keep0 kk2) fun w3 r hr3 k3 => ?_
  have k03 := kk2.trans k3
  cases r with
  | false =>
    simp only [stp, Nat.reduceAdd, Int.reduceLT, Int.reduceLE, Int.reduceEq, Int.reduceNe, ne_eq, bne_self_eq_false, beq_self_eq_true]
    exact hq _ s _ (.inl rfl) (hTL.keep0 k03) (KO.of0 k03)
  | true =>
    obtain ⟨m', l', e1', e2', e3', hm', hd'⟩ := (h.keep0 k03).node hlt
    obtain ⟨x0, x1, x2⟩ := hcl (k2.trans k3)
    simp only [stp, Nat.reduceAdd, Int.reduceLT, Int.reduceLE, Int.reduceEq, Int.reduceNe, ne_eq, bne_self_eq_false, beq_self_eq_true, stm, x0, x1, x2]
    rw [ixa hlt]
    simp only [stp, Nat.reduceAdd, Int.reduceLT, Int.reduceLE, Int.reduceEq, Int.reduceNe, ne_eq, bne_self_eq_false, beq_self_eq_true, stm, e3', x0, x1, x2]
    have kd : K0 w w3.drew := k03.drew
    refine traise_c (h.keep0 kd) e1' hr.1.1 hr.2.1 fun w6 h6 k6 => ?_
    exact hq _ _ _ (.inr ⟨i, rfl, ⟨hnd, hr⟩, hr3.1 rfl, rfl⟩) ⟨_, _, h6⟩ ((KO.of0 kd).trans ((h.keep0 kd).ko e1' k6))
/-- A node holds nothing any more. -/
def TS.bare (s : TS) (i : Nat) : TS := { s with hs := s.hs.set i [] }
theorem TLr.bare {ms : List Nat} {wv : Value} {i m : Nat} (h : TLr w B t s ms wv) (hi : i < 17) (hm : IM w m []) (hB : B ≤ m) (hnew : m ∉ ms) :
    TLr (sto w t (1 + i) (.pointer (some ⟨m, 0, none⟩))) B t (s.bare i) (ms.set i m) wv ∧ KO B tp w (sto w t (1 + i) (.pointer (some ⟨m, 0, none⟩))) := by
  have hP : i < (ptrs ms).length := by simp [ptrs, h.n]; exact hi
  have b9 := blk_sto (o := 1 + i) (v := .pointer (some ⟨m, 0, none⟩)) h.b
  rw [tcells_set hP] at b9
  have hps : (ptrs ms).set i (.pointer (some ⟨m, 0, none⟩)) = ptrs (ms.set i m) := by unfold ptrs; rw [List.map_set]
  rw [hps] at b9
  have k9 : Keep (fun b => b = t) w (sto w t (1 + i) (.pointer (some ⟨m, 0, none⟩))) := (Keep.refl (fun b => b = t) w).sto (.inl rfl) _ _
  refine ⟨{ b := b9, n := by rw [List.length_set]; exact h.n, nn := h.nn, hn := by unfold TS.bare; rw [List.length_set]; exact h.hn, h := fun j m' l' h1 h2 => ?_, nd := ?_, Bt := h.Bt, Bm := fun m' hm' => ?_, wr := own_keepT h.wr k9 fun g cs hg e => ne_of_ty hg h.b (by decide) e }, KO.ofB k9 fun b e => by
    have e : b = t := e
    subst e
    exact ⟨h.Bt, _, h.b, rfl⟩⟩
  · have h2 : (s.hs.set i [])[j]? = some l' := h2
    by_cases e : j = i
    · subst e
      rw [List.getElem?_set_self (by rw [h.n]; exact hi)] at h1
      rw [List.getElem?_set_self (by rw [h.hn]; exact hi)] at h2
      injection h1 with h1
      injection h2 with h2
      subst h1 h2
      exact ⟨im_keepT hm h.b (by decide) (by decide) k9, fun p hp => by cases hp⟩
    · rw [List.getElem?_set_ne (fun h => e h.symm)] at h1 h2
      obtain ⟨q1, q2⟩ := h.h j m' l' h1 h2
      exact ⟨im_keepT q1 h.b (by decide) (by decide) k9, q2⟩
  · have hnd := h.nd
    unfold List.Nodup at hnd ⊢
    rw [List.pairwise_iff_getElem] at hnd ⊢
    intro x y hx hy hxy e
    rw [List.length_set] at hx hy
    rw [List.getElem_set, List.getElem_set] at e
    by_cases ex : i = x
    · rw [if_pos ex, if_neg (by omega)] at e
      exact hnew (by rw [e]; exact List.getElem_mem hy)
    · rw [if_neg ex] at e
      by_cases ey : i = y
      · rw [if_pos ey] at e
        exact hnew (by rw [← e]; exact List.getElem_mem hx)
      · rw [if_neg ey] at e
        exact hnd x y hx hy hxy e
  · rcases List.mem_or_eq_of_mem_set hm' with h3 | h3
    · exact h.Bm _ h3
    · rw [h3]; exact hB
theorem drop_c {node : Int} (h : TL w B t s) (hok : WsOk s.ws) (hwn : WsN s) (hB : B ≤ siz w)
    (hq : ∀ w' s' v', (s' = s ∨ ∃ i : Nat, node = (i : Int) ∧ 1 ≤ i ∧ (i : Int) ≤ s.nodes ∧ s' = ((s.bare i).thin fun k => decide (¬ k.2.1 = node)).granted) → TL w' B t s' → KO B tp w w' → Q v' w') :
    callS Tryz.prog 9 #[.pointer (some ⟨t, 0, none⟩), .int .i64 node] Q w := by
  refine ref9 ?_
  unfold S9
  have hTL := h
  obtain ⟨ms, wv, h⟩ := h
  rw [act_box]
  have b1 : blk (w.alloc (.cells (Value.int .i64 node).cells 3)) (siz w) = some (.cells #[.int .i64 node] 3) := blk_alloc_new
  have k1 : K0 w (w.alloc (.cells (Value.int .i64 node).cells 3)) := (K0.refl w).alloc _
  generalize w.alloc (.cells (Value.int .i64 node).cells 3) = w1 at b1 k1
  have hB' := hB
  have htw := blk_lt h.b
  generalize hbx : siz w = bx at b1 hB
  have h1 := h.keep0 k1
  have x1 : cel w1 bx 0 = some (.int .i64 node) := cel_b b1 0
  simp only [rd_eq (rl_3 x1)]
  refine is_c h1.c0 ?_
  by_cases hnd : 1 ≤ node ∧ node ≤ s.nodes
  case neg =>
    rw [decide_eq_false hnd]
    simp only [stp, Nat.reduceAdd, Int.reduceLT, Int.reduceLE, Int.reduceEq, Int.reduceNe, ne_eq, bne_self_eq_false, beq_self_eq_true]
    exact hq _ s _ (.inl rfl) (hTL.keep0 k1) (KO.of0 k1)
  rw [decide_eq_true hnd]
  obtain ⟨i, hin⟩ : ∃ i : Nat, node = (i : Int) := ⟨node.toNat, by omega⟩
  have hlt : i < 17 := by have := h.nn.2; omega
  simp only [pur_not, Bool.not_true, condS_false]
  refine jn0 (fun u => ∃ m, TLr u B t (s.bare i) (ms.set i m) wv ∧ KO B tp w u ∧ blk u bx = some (.cells #[.int .i64 node] 3)) (fun J hJ => ?_) ?_
  · have kd : K0 w1 w1.drew := (K0.refl w1).drew
    have ix : ∀ {k' : Value → Prop}, pur Tryz.prog (Instr.indexAt 52 (.pointer (some ⟨t, 1, none⟩)) (.int .i64 node)) k' = k' (.pointer (some ⟨t, 1 + i, none⟩)) := by intro k'; rw [hin]; exact ixa hlt
    have fin : ∀ (u : World) (m : Nat), K0 w1 u → IM u m [] → siz w1 ≤ m → act Tryz.prog (thenU (Instr.storeAt 51 (.pointer (some ⟨t, 1 + i, none⟩)) (.pointer (some ⟨m, 0, none⟩)))) (fun _ w_4 => J w_4) u := fun u m k hm hge => by
      have hu := h1.keep0 k
      obtain ⟨m0, l0, f1, f2, f3, _, _⟩ := hu.node hlt
      rw [st_51 one_ptr (by rw [f3]; rfl) (fre_b hu.b)]
      have s1 := k1.size
      obtain ⟨g1, g2⟩ := hu.bare hlt hm (by omega) fun hmem => by
        obtain ⟨j, hj, e⟩ := List.getElem_of_mem hmem
        obtain ⟨m1, l1, y1, _, _, hm1, _⟩ := h1.node (i := j) (by rw [← h1.n]; exact hj)
        rw [List.getElem?_eq_getElem hj] at y1
        injection y1 with y1
        have := hm1.lt
        omega
      refine hJ _ ⟨m, g1, (KO.of0 (k1.trans k)).trans g2, ?_⟩
      have hb := k.blk b1 (by exact fun h => h)
      exact ((Keep.refl (fun b => b = t) u).sto (.inl rfl) _ _).blk hb fun e => by
        have e : bx = t := e
        omega
    simp only [stp, Nat.reduceAdd, Int.reduceLT, Int.reduceLE, Int.reduceEq, Int.reduceNe, ne_eq, bne_self_eq_false, beq_self_eq_true, stm]
    have sd : siz w1.drew = siz w1 := rfl
    refine ⟨?_, ?_⟩
    · rw [rd_eq (rl_3 (kd.cel x1 (by exact fun h => h)))]
      refine new_c fun u hm k => ?_
      rw [ix]
      exact fin u _ (kd.trans k) hm (by omega)
    · refine new_c fun u hm k => ?_
      rw [rd_eq (rl_3 ((kd.trans k).cel x1 (by exact fun h => h))), ix]
      exact fin u _ (kd.trans k) hm (by omega)
  · rintro u ⟨m, h3, ko3, bu⟩ _j
    have xu : cel u bx 0 = some (.int .i64 node) := cel_b bu 0
    have c18 := h3.c18
    obtain ⟨pa, ca, hwv⟩ := h3.wr.form
    subst hwv
    have hW := hok.1
    simp only [stp, Nat.reduceAdd, Int.reduceLT, Int.reduceLE, Int.reduceEq, Int.reduceNe, ne_eq, bne_self_eq_false, beq_self_eq_true, stm, c18]
    refine wt_delete (P := fun k => k.2.1 = node) h3.wr (by show s.ws.length ≤ 1000000; omega) (fun w2 k Q' kk hk hQ => ?_) fun w2 v2 W hW2 o2 k2 hs2 => ?_
    · rw [callF_cap]
      refine ref29 ?_
      unfold S29
      have b2 := kk.blk bu fun e => by
        obtain ⟨_, cs, hc⟩ := own_ty h3.wr e
        exact ne_of_ty bu hc (by decide) rfl
      rw [act_box]
      have k3 : K0 w2 (w2.alloc (.cells (Value.agg #[.int .i64 k.1, .int .i64 k.2.1, .int .i64 k.2.2.1, .int .i64 k.2.2.2.1, .int .i64 k.2.2.2.2]).cells 50)) := (K0.refl w2).alloc _
      have b3 : blk (w2.alloc (.cells (Value.agg #[.int .i64 k.1, .int .i64 k.2.1, .int .i64 k.2.2.1, .int .i64 k.2.2.2.1, .int .i64 k.2.2.2.2]).cells 50)) (siz w2) = some (.cells #[.int .i64 k.1, .int .i64 k.2.1, .int .i64 k.2.2.1, .int .i64 k.2.2.2.1, .int .i64 k.2.2.2.2] 50) := blk_alloc_new
      generalize w2.alloc (.cells (Value.agg #[.int .i64 k.1, .int .i64 k.2.1, .int .i64 k.2.2.1, .int .i64 k.2.2.2.1, .int .i64 k.2.2.2.2]).cells 50) = w3 at k3 b3
      have y0 : cel w3 (siz w2) 1 = some (.int .i64 k.2.1) := cel_b b3 1
      have y1 : cel w3 bx 0 = some (.int .i64 node) := cel_b (k3.blk b2 (by exact fun h => h)) 0
      simp only [stp, Nat.reduceAdd, Int.reduceLT, Int.reduceLE, Int.reduceEq, Int.reduceNe, ne_eq, bne_self_eq_false, beq_self_eq_true, stm, y0, y1]
      exact hQ _ k3
    obtain ⟨p2, c2, rfl⟩ := o2.form
    obtain ⟨hb2, i18, put⟩ := h3.row k2
    obtain ⟨h4, ko4⟩ := put _ W o2
    rw [st_35 one_slice i18 (fre_b hb2)]
    subst hW2
    have s3 := ko3.size
    have s4 := ko4.size
    refine grant_c ⟨_, _, h4⟩ (hok.filter _) (WsN.thin (s := s.bare i) hwn fun k => decide (¬ k.2.1 = node)) (by omega) fun w4 v4 h5 o5 k5 => ?_
    exact hq _ _ _ (.inr ⟨i, hin, by omega, by omega, rfl⟩) h5 ((ko3.trans ko4).trans k5)
end
end Go.Proofs.YtcekmdpiloegcaaGreat
/- The table of locks, apart from memory. Conditions: as each says. -/
namespace Go.Proofs.YtcekmdpiloegcaaGreat
open Go.Sh Go.Proofs.YtcekmdpiloegcaaGreat.Mi
set_option maxRecDepth 100000
section
variable {w w' : World} {Q : Value → World → Prop} {B t : Nat} {s : TS}
/-- What holds of each table's state. -/
structure Pu (s : TS) : Prop where
  hn : s.hs.length = 17
  nn : 1 ≤ s.nodes ∧ s.nodes ≤ 16
  li : Lists s
  su : ∀ i, Sup (bl s i)
theorem TL.pu (h : TL w B t s) : Pu s := ⟨h.hn, h.nn, h.lists, h.sup⟩
theorem Pu.turn (h : Pu s) {i : Nat} {f : Int → Option Int} (hi : i < 17) (hf : Sup f) : Pu (s.turn i f) := by
  refine ⟨?_, h.nn, fun l hl => ?_, fun j x hx => ?_⟩
  · show (s.hs.set i _).length = 17
    rw [List.length_set]; exact h.hn
  · unfold TS.turn at hl
    rcases List.mem_or_eq_of_mem_set hl with hl | rfl
    · exact h.li l hl
    · exact (canonL_canon _).1
  · rw [bl_turn (by rw [h.hn]; exact hi) hf] at hx
    split at hx
    · exact hf x hx
    · exact h.su j x hx
theorem Pu.raise (h : Pu s) {i : Nat} {a b md : Int} (hi : i < 17) (ha : 0 ≤ a) (hb : b ≤ 4096) : Pu (s.raise i a b md) := h.turn hi (sup_upd (h.su i) ha hb)
theorem Pu.release (h : Pu s) {i : Nat} {a b keep : Int} (hi : i < 17) : Pu (s.release i a b keep) := h.turn hi (sup_rel (h.su i))
theorem Pu.wait (h : Pu s) (node a b md : Int) : Pu (s.wait node a b md) := ⟨h.hn, h.nn, h.li, h.su⟩
theorem Pu.bl_raise (h : Pu s) {i : Nat} {a b md : Int} (hi : i < 17) (ha : 0 ≤ a) (hb : b ≤ 4096) (o : Nat) (x : Int) : bl (s.raise i a b md) o x = if o = i then updM (bl s i) (a, b) md x else bl s o x :=
  bl_turn (by rw [h.hn]; exact hi) (sup_upd (h.su i) ha hb) o x
theorem Pu.bl_release (h : Pu s) {i : Nat} {a b keep : Int} (hi : i < 17) (o : Nat) (x : Int) : bl (s.release i a b keep) o x = if o = i then relF (bl s i) (a, b) keep x else bl s o x :=
  bl_turn (by rw [h.hn]; exact hi) (sup_rel (h.su i)) o x
theorem Pu.free (h : Pu s) {A : List I5} {node a b md : Int} : ¬ hindF s A node a b md < b ↔ ∀ x, hasB (a, b) x → ¬ (HxN s node md x ∨ HxA A node md x) := hind_free h.li (by have := h.nn; omega)
theorem hxA_nil (node md x : Int) : ¬ HxA [] node md x := fun h => by obtain ⟨k, hk, _⟩ := h; cases hk
theorem Pu.free_nil (h : Pu s) (hw : s.ws = []) {node a b md : Int} : freeP s node a b md ↔ ∀ x, hasB (a, b) x → ¬ HxN s node md x := by
  unfold freeP
  rw [hw]
  refine h.free.trans ⟨fun g x hx hh => g x hx (.inl hh), fun g x hx hh => ?_⟩
  rcases hh with hh | hh
  · exact g x hx hh
  · exact hxA_nil _ _ _ hh
def inR (a b x : Int) : Prop := a ≤ x ∧ x < b
instance (a b x : Int) : Decidable (inR a b x) := by unfold inR; infer_instance
theorem hasB_in {a b x : Int} (h : 0 ≤ a) : hasB (a, b) x ↔ inR a b x := hasB_iff h
theorem updM_in {f : Int → Option Int} {a b md x : Int} (h : 0 ≤ a) : updM f (a, b) md x = if inR a b x then some (match f x with | some v => max v md | none => md) else f x := by
  unfold updM
  by_cases hx : hasB (a, b) x
  · rw [if_pos hx, if_pos ((hasB_in h).1 hx)]
    cases f x <;> rfl
  · rw [if_neg hx, if_neg fun h' => hx ((hasB_in h).2 h')]
theorem relF_in {f : Int → Option Int} {a b keep x : Int} (h : 0 ≤ a) : relF f (a, b) keep x = if inR a b x then (match f x with | some v => relV keep (some v) v | none => none) else f x := by
  unfold relF
  by_cases hx : hasB (a, b) x
  · rw [if_pos hx, if_pos ((hasB_in h).1 hx)]
    cases f x <;> rfl
  · rw [if_neg hx, if_neg fun h' => hx ((hasB_in h).2 h')]
theorem Pu.fresh {n : Int} (hn : 1 ≤ n ∧ n ≤ 16) : Pu (TS.fresh n) := by
  refine ⟨rfl, hn, fun l hl => ?_, fun i x hx => absurd (bl_fresh n i x) hx⟩
  have : l = [] := List.eq_of_mem_replicate hl
  subst this
  exact Canon.nil
theorem grant_nil (h : s.ws = []) : s.granted = s ∧ grantOut s = [] := by
  obtain ⟨n, hs, ws, la⟩ := s
  have h : ws = [] := h
  subst h
  exact ⟨rfl, rfl⟩
/-- One waits, and is free. -/
theorem grant_one {k : I5} (h : s.ws = [k]) (hf : ¬ hindF s [] k.2.1 k.2.2.1 k.2.2.2.1 k.2.2.2.2 < k.2.2.2.1) :
    s.granted = { s.raise k.2.1.toNat k.2.2.1 k.2.2.2.1 k.2.2.2.2 with ws := [] } ∧ grantOut s = [k] := by
  have hg : grantG s s.ws = (s.raise k.2.1.toNat k.2.2.1 k.2.2.2.1 k.2.2.2.2, [], [], [k]) := by
    rw [h]
    show gr1 (s, [], [], []) k = _
    unfold gr1
    dsimp only
    rw [if_neg hf]
    rfl
  unfold TS.granted grantOut
  rw [hg]
  exact ⟨rfl, rfl⟩
/-- One waits, and goes on to wait. -/
theorem grant_stay {k : I5} (h : s.ws = [k]) (hf : hindF s [] k.2.1 k.2.2.1 k.2.2.2.1 k.2.2.2.2 < k.2.2.2.1) : s.granted = s ∧ grantOut s = [] := by
  have hg : grantG s s.ws = (s, [k], [claimOf k (hindF s [] k.2.1 k.2.2.1 k.2.2.2.1 k.2.2.2.2)], []) := by
    rw [h]
    show gr1 (s, [], [], []) k = _
    unfold gr1
    dsimp only
    rw [if_pos hf]
    rfl
  unfold TS.granted grantOut
  rw [hg]
  refine ⟨?_, rfl⟩
  obtain ⟨n, hs, ws, la⟩ := s
  have h : ws = [k] := h
  subst h
  rfl
theorem tmode_bl {i : Nat} {x : Int} (h : TL w B t s) (hi : 1 ≤ i) (hi' : (i : Int) ≤ s.nodes) (hq : ∀ w', K0 w w' → Q (.int .i64 ((bl s i x).getD 0)) w') :
    callS Tryz.prog 33 #[.pointer (some ⟨t, 0, none⟩), .int .i64 (i : Int), .int .i64 x] Q w :=
  tmode_c h hi hi' fun w' l e k => by
    have := hq w' k
    unfold bl at this
    rw [e] at this
    exact this
/-- A row of requests: its element. -/
theorem wait_row {A : Nat} {v : Value} {l : List I5} (h : Own w A 50 5 v l.length (flat enc5 l)) {i : Nat} (hi : i < l.length) :
    ∃ g c, v = .slice (some ⟨g, 0, none⟩) l.length c ∧ cel w g (i * 5) = some (.int .i64 l[i].1) ∧ cel w g (i * 5 + 1) = some (.int .i64 l[i].2.1) := by
  obtain ⟨g, cg, rfl, _, _, _, _, _, hcel⟩ := h.at (by omega)
  obtain ⟨b, o, e, q0, q1, _⟩ := ws_at h.rd hi
  injection e with e
  injection e with e1 e2 _
  subst e1 e2
  rw [Nat.zero_add] at q0 q1
  exact ⟨g, cg, rfl, q0, q1⟩
end
end Go.Proofs.YtcekmdpiloegcaaGreat
/- The table of locks, apart from memory: what is held fits, and the first that waits is hindered by what is held. Conditions: as each says. -/
namespace Go.Proofs.YtcekmdpiloegcaaGreat
open Go.Sh Go.Proofs.YtcekmdpiloegcaaGreat.Mi
set_option maxRecDepth 100000
section
variable {s : TS} {a b md keep : Int} {i : Nat}
/-- What is held is shared or one's own. -/
def ValOk (s : TS) : Prop := ∀ o x v, bl s o x = some v → v = 1 ∨ v = 2
theorem val_raise (p : Pu s) (h : ValOk s) (hi : i < 17) (ha : 0 ≤ a) (hb : b ≤ 4096) (hm : md = 1 ∨ md = 2) : ValOk (s.raise i a b md) := fun o x v hv => by
  rw [p.bl_raise hi ha hb] at hv
  split at hv
  · rw [updM_in ha] at hv
    split at hv
    · cases e : bl s i x with
      | none => rw [e] at hv; have hv : md = v := Option.some.inj hv; omega
      | some u => rw [e] at hv; have := h _ _ _ e; have hv : max u md = v := Option.some.inj hv; omega
    · exact h _ _ _ hv
  · exact h _ _ _ hv
theorem rel_val {f : Int → Option Int} {x v : Int} (hk : keep = 0 ∨ keep = 1) (hf : ∀ v, f x = some v → v = 1 ∨ v = 2) (h : relF f (a, b) keep x = some v) : ∃ u, f x = some u ∧ (v = u ∨ (v = 1 ∧ u = 2)) := by
  unfold relF at h
  split at h
  · cases e : f x with
    | none => rw [e] at h; cases h
    | some u =>
      rw [e] at h
      have := hf u e
      refine ⟨u, rfl, ?_⟩
      unfold relV at h
      dsimp only at h
      split at h
      · injection h with h; exact .inl h.symm
      · split at h
        · cases h
        · injection h with h; omega
  · exact ⟨v, h, .inl rfl⟩
theorem val_release (p : Pu s) (h : ValOk s) (hi : i < 17) (hk : keep = 0 ∨ keep = 1) : ValOk (s.release i a b keep) := fun o x v hv => by
  rw [p.bl_release hi] at hv
  split at hv
  · obtain ⟨u, hu, e⟩ := rel_val hk (fun v hv => h i x v hv) hv
    have := h _ _ _ hu
    omega
  · exact h _ _ _ hv
theorem fit_le {u v u' v' : Int} (h : fitP u v) (hu : u' = u ∨ (u' = 1 ∧ u = 2)) (hv : v' = v ∨ (v' = 1 ∧ v = 2)) : fitP u' v' := by
  unfold fitP isMd at *; omega
theorem fit_max {u v m : Int} (h : fitP u v) (h2 : fitP u m) : fitP u (max v m) := by
  unfold fitP isMd at *; omega
theorem fit_symm {u v : Int} (h : fitP u v) : fitP v u := by unfold fitP isMd at *; omega
theorem sound_raise (p : Pu s) (h : soundB s) (hi : i < 17) (ha : 0 ≤ a) (hb : b ≤ 4096) (hf : ∀ x, hasB (a, b) x → ¬ HxN s i md x) : soundB (s.raise i a b md) := by
  intro n o x u v h1 h2 h3 h4 h5 hv hu
  have h2 : (n : Int) ≤ s.nodes := h2
  have h4 : (o : Int) ≤ s.nodes := h4
  rw [p.bl_raise hi ha hb] at hv hu
  have key : ∀ (q : Nat) (c d : Int), 1 ≤ q → (q : Int) ≤ s.nodes → q ≠ i → 1 ≤ i → (i : Int) ≤ s.nodes → bl s q x = some c → updM (bl s i) (a, b) md x = some d → fitP c d := fun q c d q1 q2 q3 i1 i2 hc hd => by
    rw [updM_in ha] at hd
    split at hd
    · rename_i hin
      have hfit : fitP c md := Classical.byContradiction fun hn => hf x ((hasB_in ha).2 hin) ⟨q, q1, q2, by omega, c, hc, hn⟩
      cases e : bl s i x with
      | none => rw [e] at hd; injection hd with hd; rw [← hd]; exact hfit
      | some w =>
        rw [e] at hd
        injection hd with hd
        rw [← hd]
        exact fit_max (h i q x c w i1 i2 q1 q2 q3 e hc) hfit
    · exact h i q x c d i1 i2 q1 q2 q3 hd hc
  by_cases en : n = i
  · rw [if_pos en] at hv
    rw [if_neg (by omega)] at hu
    subst en
    exact key o u v h3 h4 (by omega) h1 h2 hu hv
  · rw [if_neg en] at hv
    by_cases eo : o = i
    · rw [if_pos eo] at hu
      subst eo
      exact fit_symm (key n v u h1 h2 (by omega) h3 h4 hv hu)
    · rw [if_neg eo] at hu
      exact h n o x u v h1 h2 h3 h4 h5 hv hu
theorem sound_release (p : Pu s) (h : soundB s) (hvo : ValOk s) (hi : i < 17) (hk : keep = 0 ∨ keep = 1) : soundB (s.release i a b keep) := by
  intro n o x u v h1 h2 h3 h4 h5 hv hu
  have low : ∀ (q : Nat) (c : Int), bl (s.release i a b keep) q x = some c → ∃ c', bl s q x = some c' ∧ (c = c' ∨ (c = 1 ∧ c' = 2)) := fun q c hc => by
    rw [p.bl_release hi] at hc
    split at hc
    · rename_i e; subst e
      exact rel_val hk (fun v hv => hvo q x v hv) hc
    · exact ⟨c, hc, .inl rfl⟩
  obtain ⟨v', hv', ev⟩ := low n v hv
  obtain ⟨u', hu', eu⟩ := low o u hu
  exact fit_le (h n o x u' v' h1 h2 h3 h4 h5 hv' hu') eu ev
/-- Who is hindered by what is held stays so while more is held. -/
theorem hx_raise (p : Pu s) (hvo : ValOk s) {m : Int} (hm : m = 1 ∨ m = 2) (hi : i < 17) (ha : 0 ≤ a) (hb : b ≤ 4096) (hmd : md = 1 ∨ md = 2) {node x : Int} (h : HxN s node m x) : HxN (s.raise i a b md) node m x := by
  obtain ⟨o, h1, h2, h3, v, hv, hn⟩ := h
  have hvv := hvo _ _ _ hv
  refine ⟨o, h1, h2, h3, ?_⟩
  rw [p.bl_raise hi ha hb]
  by_cases e : o = i
  · subst e
    rw [if_pos rfl, updM_in ha, hv]
    split
    · refine ⟨_, rfl, fun hf => hn ?_⟩
      have hf : fitP (max v md) m := hf
      unfold fitP isMd at *; omega
    · exact ⟨v, rfl, hn⟩
  · rw [if_neg e]; exact ⟨v, hv, hn⟩
/-- What stands while requests are looked at one after the other. -/
structure GK (s : TS) (g : GS) : Prop where
  p : Pu g.1
  n : g.1.nodes = s.nodes
  v : ValOk g.1
  s : soundB g.1
  cl : g.2.1 = [] → g.2.2.1 = []
  hd : ∀ k r, g.2.1 = k :: r → (k.2.2.2.2 = 1 ∨ k.2.2.2.2 = 2) ∧ ∃ x, hasB (k.2.2.1, k.2.2.2.1) x ∧ HxN g.1 k.2.1 k.2.2.2.2 x
theorem gk_all (p : Pu s) (hv : ValOk s) (hs : soundB s) : ∀ (n : Nat) (W : List I5), W.length = n → (∀ k ∈ W, rightL (k.2.2.1, k.2.2.2.1, k.2.2.2.2)) → (∀ k ∈ W, 1 ≤ k.2.1 ∧ k.2.1 ≤ s.nodes) → GK s (grantG s W)
  | 0, W, h, _, _ => by
    rw [List.length_eq_zero_iff.1 h]
    exact ⟨p, rfl, hv, hs, fun _ => rfl, fun k r e => by cases e⟩
  | n + 1, W, h, hr, hn => by
    rcases List.eq_nil_or_concat W with rfl | ⟨V, k, rfl⟩
    · cases h
    · rw [List.concat_eq_append] at *
      have ih := gk_all p hv hs n V (by simpa using h) (fun k hk => hr k (by simp [hk])) (fun k hk => hn k (by simp [hk]))
      obtain ⟨r1, r2, r3⟩ := hr k (by simp)
      obtain ⟨m1, m2⟩ := hn k (by simp)
      have r3 : k.2.2.2.2 = 1 ∨ k.2.2.2.2 = 2 := r3
      have r2 : k.2.2.2.1 ≤ 4096 := r2
      have r1 : 0 ≤ k.2.2.1 := r1.1
      rw [grantG_snoc]
      generalize grantG s V = g at ih
      unfold gr1
      by_cases hf : hindF g.1 g.2.2.1 k.2.1 k.2.2.1 k.2.2.2.1 k.2.2.2.2 < k.2.2.2.1
      · rw [if_pos hf]
        refine ⟨ih.p, ih.n, ih.v, ih.s, fun e => by simp at e, fun k' r e => ?_⟩
        dsimp only at e
        cases hg : g.2.1 with
        | nil =>
          rw [hg] at e
          simp only [List.nil_append, List.cons.injEq] at e
          obtain ⟨rfl, _⟩ := e
          refine ⟨r3, ?_⟩
          rw [ih.cl hg] at hf
          refine Classical.byContradiction fun hne => ?_
          refine (ih.p.free (A := [])).2 (fun x hx hh => ?_) hf
          rcases hh with hh | hh
          · exact hne ⟨x, hx, hh⟩
          · exact hxA_nil _ _ _ hh
        | cons k0 r0 =>
          rw [hg] at e
          simp only [List.cons_append, List.cons.injEq] at e
          obtain ⟨rfl, _⟩ := e
          exact ih.hd _ _ hg
      · rw [if_neg hf]
        have hi : k.2.1.toNat < 17 := by have := p.nn; omega
        have hcast : ((k.2.1.toNat : Nat) : Int) = k.2.1 := by omega
        refine ⟨ih.p.raise hi r1 r2, ih.n, val_raise ih.p ih.v hi r1 r2 r3, sound_raise ih.p ih.s hi r1 r2 fun x hx hh => ?_, ih.cl, fun k' r e => ?_⟩
        · rw [hcast] at hh
          exact (ih.p.free.1 hf) x hx (.inl hh)
        · obtain ⟨q1, x, q2, q3⟩ := ih.hd k' r e
          exact ⟨q1, x, q2, hx_raise ih.p ih.v q1 hi r1 r2 r3 q3⟩
/-- What holds of each state behind a call. -/
structure Fine (s : TS) : Prop where
  p : Pu s
  ok : WsOk s.ws
  wn : WsN s
  v : ValOk s
  sd : soundB s
  hd : ∀ k r, s.ws = k :: r → ∃ x, hasB (k.2.2.1, k.2.2.2.1) x ∧ HxN s k.2.1 k.2.2.2.2 x
theorem grant_left (s : TS) : ∀ (n : Nat) (W : List I5), W.length = n → (∀ k ∈ (grantG s W).2.1, k ∈ W)
  | 0, W, h => by rw [List.length_eq_zero_iff.1 h]; exact fun k hk => by cases hk
  | n + 1, W, h => by
    rcases List.eq_nil_or_concat W with rfl | ⟨V, k, rfl⟩
    · cases h
    · rw [List.concat_eq_append] at *
      have ih := grant_left s n V (by simpa using h)
      rw [grantG_snoc]
      unfold gr1
      split
      · intro k' hk'
        rcases List.mem_append.1 hk' with hk' | hk'
        · exact List.mem_append_left _ (ih k' hk')
        · exact List.mem_append_right _ hk'
      · intro k' hk'
        exact List.mem_append_left _ (ih k' hk')
/-- Behind a grant all is fine. -/
theorem fine_granted (p : Pu s) (ok : WsOk s.ws) (wn : WsN s) (v : ValOk s) (h : soundB s) : Fine s.granted := by
  have g := gk_all p v h s.ws.length s.ws rfl ok.2 wn
  have hl := (grantG_len s _ s.ws rfl).1
  have hm := grant_left s _ s.ws rfl
  exact ⟨⟨g.p.hn, g.p.nn, g.p.li, g.p.su⟩, ⟨Nat.le_trans hl ok.1, fun k hk => ok.2 k (hm k hk)⟩, fun k hk => by
    have := wn k (hm k hk)
    have e : s.granted.nodes = s.nodes := g.n
    rw [e]; exact this, g.v, g.s, fun k r e => (g.hd k r e).2⟩
theorem fine_release (f : Fine s) (hi : i < 17) (hk : keep = 0 ∨ keep = 1) : Fine (s.release i a b keep).granted :=
  fine_granted (f.p.release hi) f.ok f.wn (val_release f.p f.v hi hk) (sound_release f.p f.sd f.v hi hk)
theorem fine_thin (f : Fine s) (q : I5 → Bool) : Fine (s.thin q).granted :=
  fine_granted ⟨f.p.hn, f.p.nn, f.p.li, f.p.su⟩ (f.ok.filter q) (f.wn.thin q) f.v f.sd
theorem fine_raise (f : Fine s) (hi : i < 17) (ha : 0 ≤ a) (hb : b ≤ 4096) (hm : md = 1 ∨ md = 2) (hf : ∀ x, hasB (a, b) x → ¬ HxN s i md x) : Fine (s.raise i a b md) :=
  ⟨f.p.raise hi ha hb, f.ok, f.wn, val_raise f.p f.v hi ha hb hm, sound_raise f.p f.sd hi ha hb hf, fun k r e => by
    obtain ⟨x, h1, h2⟩ := f.hd k r e
    have e : s.ws = k :: r := e
    exact ⟨x, h1, hx_raise f.p f.v (f.ok.2 k (by rw [e]; simp)).2.2 hi ha hb hm h2⟩⟩
/-- A request that waits: one is hindered by what is held, where nobody waits. -/
theorem fine_wait {node : Int} (f : Fine s) (hn : 1 ≤ node ∧ node ≤ s.nodes) (hr : rightL (a, b, md)) (hl : s.ws.length < 1000) (hf : ¬ freeP s node a b md) : Fine (s.wait node a b md) :=
  ⟨f.p.wait node a b md, ⟨by unfold TS.wait; simp; omega, fun k hk => by
      rcases List.mem_append.1 hk with hk | hk
      · exact f.ok.2 k hk
      · rw [List.mem_singleton.1 hk]; exact hr⟩, fun k hk => by
      rcases List.mem_append.1 hk with hk | hk
      · exact f.wn k hk
      · rw [List.mem_singleton.1 hk]; exact hn, f.v, f.sd, fun k r e => by
    have e : s.ws ++ [(s.last + 1, node, a, b, md)] = k :: r := e
    cases hw : s.ws with
    | nil =>
      rw [hw] at e
      simp only [List.nil_append, List.cons.injEq] at e
      obtain ⟨rfl, _⟩ := e
      refine Classical.byContradiction fun hne => hf ((f.p.free_nil hw).2 fun x hx hh => hne ⟨x, hx, hh⟩)
    | cons k0 r0 =>
      rw [hw] at e
      simp only [List.cons_append, List.cons.injEq] at e
      obtain ⟨rfl, _⟩ := e
      exact f.hd _ _ hw⟩
end
end Go.Proofs.YtcekmdpiloegcaaGreat
