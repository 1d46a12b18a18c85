/- The table of locks: how it lies in memory. Conditions: as each says. -/
import Derived.Test.YtcekmdpiloegcaaGreatModeC0
import Derived.Test.YtcekmdpiloegcaaGreatKeep
import Derived.Test.YtcekmdpiloegcaaGreatBlkX
set_option linter.unusedSimpArgs false
set_option linter.unusedVariables false
namespace Go.Proofs.YtcekmdpiloegcaaGreat
open Go.Sh Go.Proofs.YtcekmdpiloegcaaGreat.Mi
set_option maxRecDepth 100000
section
variable {w w' : World} {Q : Value → World → Prop} {B t : Nat}
/-- A place of the table's array. -/
theorem ixa {b o i : Nat} {k : Value → Prop} (h : i < 17) : pur Tryz.prog (Instr.indexAt 52 (.pointer (some ⟨b, o, none⟩)) (.int .i64 i)) k = k (.pointer (some ⟨b, o + i, none⟩)) := pur_eq fun w => by
  have h1 : (0 : Int) ≤ i ∧ (i : Int) < 17 := by omega
  have hT : ∀ w, (underlying 52).run Tryz.prog w = .ok (.array 17 51) w := fun w => by rfl
  simp [Instr.indexAt, asIntOf, hT, h1, h, Tryz.sizeOf51, Addr.add, Instr.sureAddr]
/-- What a table knows: its nodes, what each holds, who waits, the last number. -/
structure TS where
  nodes : Int
  hs : List (List (Pt Int))
  ws : List I5
  last : Int
def ptrs (ms : List Nat) : List Value := ms.map fun m => .pointer (some ⟨m, 0, none⟩)
def tcells (nodes : Int) (P : List Value) (wv : Value) (last : Int) : Array Value := (.int .i64 nodes :: (P ++ [wv, .int .i64 last])).toArray
theorem tcells_set {nodes last : Int} {P : List Value} {wv v : Value} {i : Nat} (h : i < P.length) : (tcells nodes P wv last).setIfInBounds (1 + i) v = tcells nodes (P.set i v) wv last := by
  unfold tcells
  rw [List.setIfInBounds_toArray, Nat.add_comm, List.set_cons_succ, List.set_append_left _ _ h]
theorem tcells_get {nodes last : Int} {P : List Value} {wv : Value} {i : Nat} (h : i < P.length) : (tcells nodes P wv last)[1 + i]? = P[i]? := by
  unfold tcells
  rw [List.getElem?_toArray, Nat.add_comm, List.getElem?_cons_succ, List.getElem?_append_left h]
structure TLr (w : World) (B t : Nat) (s : TS) (ms : List Nat) (wv : Value) : Prop where
  b : blk w t = some (.cells (tcells s.nodes (ptrs ms) wv s.last) 54)
  n : ms.length = 17
  nn : 1 ≤ s.nodes ∧ s.nodes ≤ 16
  hn : s.hs.length = 17
  h : ∀ (i : Nat) (m : Nat) (l : List (Pt Int)), ms[i]? = some m → s.hs[i]? = some l → IM w m l ∧ Bd 4096 l
  nd : ms.Nodup
  Bt : B ≤ t
  Bm : ∀ m ∈ ms, B ≤ m
  wr : Own w B 50 5 wv s.ws.length (flat enc5 s.ws)
def TL (w : World) (B t : Nat) (s : TS) : Prop := ∃ ms wv, TLr w B t s ms wv
/-- What a table turns. -/
abbrev tp : Obj → Bool := tys [54, 76, 50]
theorem im_blk {m : Nat} {l : List (Pt Int)} (h : IM w m l) : ∃ cs, blk w m = some (.cells cs 76) := by obtain ⟨sl, h, _⟩ := h; exact ⟨_, h⟩
theorem ne_of_ty {a b : Nat} {x y : Array Value} {t t' : TypeId} (ha : blk w a = some (.cells x t)) (hb : blk w b = some (.cells y t')) (ht : t ≠ t') : a ≠ b := fun e => by
  subst e; rw [ha] at hb; injection hb with hb; injection hb with _ hb; exact ht hb
/-- A map stands while a block turns that is none of maps and rows. -/
theorem im_keepT {m n : Nat} {l : List (Pt Int)} {x : Array Value} {t : TypeId} (h : IM w m l) (hn : blk w n = some (.cells x t)) (h1 : t ≠ 76) (h2 : t ≠ 65) (k : Keep (fun b => b = n) w w') : IM w' m l := by
  obtain ⟨sl, hb, ho, hc⟩ := h
  refine ⟨sl, k.blk hb fun e => ne_of_ty hb hn (Ne.symm h1) e, ho.keep k fun g hg e => ?_, hc⟩
  subst e
  rcases ho.2 with ⟨rfl, _⟩ | ⟨g', cap, cur, rfl, _, hh, _⟩
  · cases hg
  · injection hg with hg
    subst hg
    exact ne_of_ty hn hh h2 rfl
/-- A map stands while blocks turn that are none of maps and rows. -/
theorem im_keepF {m : Nat} {l : List (Pt Int)} {F : Nat → Prop} (h : IM w m l) (k : Keep F w w') (hF : ∀ b, F b → ∃ x u, blk w b = some (.cells x u) ∧ u ≠ 76 ∧ u ≠ 65) : IM w' m l := by
  obtain ⟨sl, hb, ho, hc⟩ := h
  refine ⟨sl, k.blk hb fun e => ?_, ho.keep k fun g hg e => ?_, hc⟩
  · obtain ⟨x, u, h1, h2, _⟩ := hF _ e
    exact ne_of_ty hb h1 (Ne.symm h2) rfl
  · obtain ⟨x, u, h1, _, h3⟩ := hF _ e
    rcases ho.2 with ⟨rfl, _⟩ | ⟨g', cap, cur, rfl, _, hh, _⟩
    · cases hg
    · injection hg with hg
      subst hg
      exact ne_of_ty h1 hh h3 rfl
theorem own_ty {e : TypeId} {z n : Nat} {v : Value} {xs : List Value} (h : Own w B e z v n xs) {g : Nat} (hg : v.ownBlock = some g) : B ≤ g ∧ ∃ cs, blk w g = some (.cells cs e) := by
  rcases h.2 with ⟨rfl, _⟩ | ⟨g', cap, cur, rfl, hb, hh, _⟩
  · cases hg
  · injection hg with hg
    subst hg
    exact ⟨hb, cur, hh⟩
theorem own_keepT {F : Nat → Prop} {e : TypeId} {z n : Nat} {v : Value} {xs : List Value} (h : Own w B e z v n xs) (k : Keep F w w') (hF : ∀ g cs, blk w g = some (.cells cs e) → ¬ F g) : Own w' B e z v n xs :=
  h.keep k fun g hg => by obtain ⟨_, cs, hc⟩ := own_ty h hg; exact hF g cs hc
/-- The table's own cells turn, and the row of those that wait. -/
theorem TLr.rest {s : TS} {ms : List Nat} {wv wv' : Value} {ws' : List I5} {last' : Int} (h : TLr w B t s ms wv) (k : Keep (fun b => b = t ∨ wv.ownBlock = some b) w w')
    (hb : blk w' t = some (.cells (tcells s.nodes (ptrs ms) wv' last') 54)) (ho : Own w' B 50 5 wv' ws'.length (flat enc5 ws')) : TLr w' B t { s with ws := ws', last := last' } ms wv' :=
  { h with
    b := hb
    h := fun i m l h1 h2 => by
      obtain ⟨q1, q2⟩ := h.h i m l h1 h2
      refine ⟨im_keepF q1 k fun b hF => ?_, q2⟩
      rcases hF with rfl | e
      · exact ⟨_, _, h.b, by decide, by decide⟩
      · obtain ⟨_, cs, hc⟩ := own_ty h.wr e
        exact ⟨_, _, hc, by decide, by decide⟩
    wr := ho }
theorem TLr.ko1 {s : TS} {ms : List Nat} {wv : Value} (h : TLr w B t s ms wv) (k : Keep (fun b => b = t ∨ wv.ownBlock = some b) w w') : KO B tp w w' := KO.ofB k fun b hF => by
  rcases hF with rfl | e
  · exact ⟨h.Bt, _, h.b, rfl⟩
  · obtain ⟨hB, cs, hc⟩ := own_ty h.wr e
    exact ⟨hB, _, hc, rfl⟩
theorem TLr.keep0 {s : TS} {ms : List Nat} {wv : Value} (h : TLr w B t s ms wv) (k : K0 w w') : TLr w' B t s ms wv :=
  { h with b := k.blk h.b id, h := fun i m l h1 h2 => ⟨(h.h i m l h1 h2).1.keep0 k, (h.h i m l h1 h2).2⟩, wr := h.wr.keep k fun _ _ e => e }
theorem TL.keep0 {s : TS} (h : TL w B t s) (k : K0 w w') : TL w' B t s := by obtain ⟨ms, wv, h⟩ := h; exact ⟨ms, wv, h.keep0 k⟩
def TS.fresh (nodes : Int) : TS := ⟨nodes, List.replicate 17 [], [], 0⟩
theorem tnew_none {nodes : Int} (h : nodes < 1 ∨ 16 < nodes) (hq : Q (.pointer none) w) : callS Tryz.prog 5 #[.int .i64 nodes] Q w := by
  refine ref5 ?_
  unfold S5
  by_cases h1 : nodes < 1
  · simp only [stp, Nat.reduceAdd, Int.reduceLT, Int.reduceLE, Int.reduceEq, Int.reduceNe, ne_eq, bne_self_eq_false, beq_self_eq_true, h1]
    exact hq
  · have h2 : (16 : Int) < nodes := by omega
    simp only [stp, Nat.reduceAdd, Int.reduceLT, Int.reduceLE, Int.reduceEq, Int.reduceNe, ne_eq, bne_self_eq_false, beq_self_eq_true, h1, h2]
    exact hq
theorem tnew_c {nodes : Int} (hn : 1 ≤ nodes ∧ nodes ≤ 16) (hB : B ≤ siz w) (hq : ∀ w', TL w' B (siz w) (TS.fresh nodes) → K0 w w' → Q (.pointer (some ⟨siz w, 0, none⟩)) w') :
    callS Tryz.prog 5 #[.int .i64 nodes] Q w := by
  refine ref5 ?_
  unfold S5
  have h1 : ¬ nodes < 1 := by omega
  have h2 : ¬ (16 : Int) < nodes := by omega
  simp only [stp, Nat.reduceAdd, Int.reduceLT, Int.reduceLE, Int.reduceEq, Int.reduceNe, ne_eq, bne_self_eq_false, beq_self_eq_true, h1, h2]
  have kA := (K0.refl w).alloc (.cells (tcells nodes (List.replicate 17 (.pointer none)) (.slice none 0 0) 0) 54)
  have bA : blk (w.alloc (.cells (tcells nodes (List.replicate 17 (.pointer none)) (.slice none 0 0) 0) 54)) (siz w) = some (.cells (tcells nodes (List.replicate 17 (.pointer none)) (.slice none 0 0) 0) 54) := blk_alloc_new
  change lp 1 _ _ (w.alloc (.cells (tcells nodes (List.replicate 17 (.pointer none)) (.slice none 0 0) 0) 54))
  generalize w.alloc (.cells (tcells nodes (List.replicate 17 (.pointer none)) (.slice none 0 0) 0) 54) = wA at kA bA
  refine lpc1 17 (by omega) (fun i w' => ∃ ms : List Nat, ms.length = i ∧ blk w' (siz w) = some (.cells (tcells nodes (ptrs ms ++ List.replicate (17 - i) (.pointer none)) (.slice none 0 0) 0) 54) ∧ (∀ m ∈ ms, IM w' m [] ∧ siz w < m ∧ m < siz w') ∧ ms.Nodup ∧ K0 w w') ⟨[], rfl, bA, fun m hm => (by cases hm), List.nodup_nil, kA⟩ ?_ ?_
  · rintro i w1 hi ⟨ms, hl, hb, hm, hnd, k1⟩ J hJ _j
    have hi' : (i : Int) < 17 := by omega
    simp only [stp, Nat.reduceAdd, Int.reduceLT, Int.reduceLE, Int.reduceEq, Int.reduceNe, ne_eq, bne_self_eq_false, beq_self_eq_true, hi']
    refine new_c fun w2 m2 k2 => ?_
    have k2 : K0 w1 w2 := ((K0.refl w1).drew).trans k2
    have hb2 := k2.blk hb id
    have hs : siz w1.drew = siz w1 := rfl
    have s2 := m2.lt
    have hlt := blk_lt hb
    have hP : i < (ptrs ms ++ List.replicate (17 - i) (Value.pointer none)).length := by simp [ptrs, hl]; omega
    have iP : (cel w2 (siz w) (1 + i)).isSome = true := by rw [cel_b hb2, tcells_get hP, List.getElem?_eq_getElem hP]; rfl
    rw [ixa hi, st_51 one_ptr iP (fre_b hb2)]
    have k3 : Keep (fun b => b = siz w) w2 (sto w2 (siz w) (1 + i) (.pointer (some ⟨siz w1.drew, 0, none⟩))) := (Keep.refl (fun b => b = siz w) w2).sto (.inl rfl) _ _
    have hset : (ptrs ms ++ List.replicate (17 - i) (Value.pointer none)).set i (.pointer (some ⟨siz w1, 0, none⟩)) = ptrs (ms ++ [siz w1]) ++ List.replicate (17 - (i + 1)) (Value.pointer none) := by
      have e : 17 - i = (17 - (i + 1)) + 1 := by omega
      rw [e, List.replicate_succ, List.set_append_right _ _ (by simp [ptrs, hl])]
      simp [ptrs, hl]
    refine hJ _ ⟨ms ++ [siz w1], by simp [hl], ?_, fun m hm' => ?_, ?_, ?_⟩
    · rw [blk_sto hb2, tcells_set hP, hs, hset]
    · rw [List.mem_append, List.mem_singleton] at hm'
      have ss := k3.size
      rcases hm' with hm' | rfl
      · obtain ⟨q1, q2, q3⟩ := hm m hm'
        exact ⟨im_keepT (q1.keep0 k2) hb2 (by decide) (by decide) k3, q2, by have := k2.size; omega⟩
      · exact ⟨im_keepT m2 hb2 (by decide) (by decide) k3, by omega, by omega⟩
    · rw [List.nodup_append]
      exact ⟨hnd, by simp, fun a ha b hb' e => by rw [List.mem_singleton] at hb'; have := (hm a ha).2.2; omega⟩
    · exact (k1.trans k2).trans' k3 fun b hb' e => by omega
  · rintro w1 ⟨ms, hl, hb, hm, hnd, k1⟩ J _j
    have hn' : ¬ ((17 : Nat) : Int) < 17 := by omega
    simp only [stp, Nat.reduceAdd, Int.reduceLT, Int.reduceLE, Int.reduceEq, Int.reduceNe, ne_eq, bne_self_eq_false, beq_self_eq_true, hn']
    refine hq _ ⟨ms, .slice none 0 0, ?_⟩ k1
    have e : ptrs ms ++ List.replicate (17 - 17) (Value.pointer none) = ptrs ms := by simp
    rw [e] at hb
    exact { b := hb, n := hl, nn := hn, hn := rfl, h := fun i m l h1 h2 => by
              have : l = [] := by
                have h2 : (List.replicate 17 ([] : List (Pt Int)))[i]? = some l := h2
                rw [List.getElem?_replicate] at h2
                split at h2
                · injection h2 with h2; exact h2.symm
                · cases h2
              subst this
              exact ⟨(hm m (List.mem_of_getElem? h1)).1, fun p hp => by cases hp⟩
            nd := hnd, Bt := hB, Bm := fun m hm' => by have := (hm m hm').2.1; omega, wr := Own.nil _ _ _ _ }
end
end Go.Proofs.YtcekmdpiloegcaaGreat
/- The table of locks: which nodes and locks are right; what a node holds. Conditions: as each says. -/
namespace Go.Proofs.YtcekmdpiloegcaaGreat
open Go.Sh Go.Proofs.YtcekmdpiloegcaaGreat.Mi
set_option maxRecDepth 100000
section
variable {w w' : World} {Q : Value → World → Prop} {B t : Nat} {s : TS}
theorem is_c {nodes node : Int} (hc : cel w t 0 = some (.int .i64 nodes)) (hq : Q (.bool (decide (1 ≤ node ∧ node ≤ nodes))) w) : callS Tryz.prog 16 #[.pointer (some ⟨t, 0, none⟩), .int .i64 node] Q w := by
  refine ref16 ?_
  unfold S16
  by_cases h1 : 1 ≤ node
  · by_cases h2 : node ≤ nodes
    · simp only [stp, Nat.reduceAdd, Int.reduceLT, Int.reduceLE, Int.reduceEq, Int.reduceNe, ne_eq, bne_self_eq_false, beq_self_eq_true, stm, h1, h2, hc]
      rw [decide_eq_true ⟨h1, h2⟩] at hq
      exact hq
    · simp only [stp, Nat.reduceAdd, Int.reduceLT, Int.reduceLE, Int.reduceEq, Int.reduceNe, ne_eq, bne_self_eq_false, beq_self_eq_true, stm, h1, h2, hc]
      rw [decide_eq_false fun h => h2 h.2] at hq
      exact hq
  · simp only [stp, Nat.reduceAdd, Int.reduceLT, Int.reduceLE, Int.reduceEq, Int.reduceNe, ne_eq, bne_self_eq_false, beq_self_eq_true, stm, h1]
    rw [decide_eq_false fun h => h1 h.1] at hq
    exact hq
theorem is_nil {node : Int} (hq : Q (.bool false) w) : callS Tryz.prog 16 #[.pointer none, .int .i64 node] Q w := by
  refine ref16 ?_
  unfold S16
  simp only [stp, Nat.reduceAdd, Int.reduceLT, Int.reduceLE, Int.reduceEq, Int.reduceNe, ne_eq, bne_self_eq_false, beq_self_eq_true, stm]
  exact hq
theorem TLr.c0 {ms : List Nat} {wv : Value} (h : TLr w B t s ms wv) : cel w t 0 = some (.int .i64 s.nodes) := by rw [cel_b h.b]; rfl
/-- A node's map. -/
theorem TLr.node {ms : List Nat} {wv : Value} (h : TLr w B t s ms wv) {i : Nat} (hi : i < 17) : ∃ m l, ms[i]? = some m ∧ s.hs[i]? = some l ∧ cel w t (1 + i) = some (.pointer (some ⟨m, 0, none⟩)) ∧ IM w m l ∧ Bd 4096 l := by
  have h1 : i < ms.length := by rw [h.n]; exact hi
  have h2 : i < s.hs.length := by rw [h.hn]; exact hi
  refine ⟨ms[i], s.hs[i], List.getElem?_eq_getElem h1, List.getElem?_eq_getElem h2, ?_, h.h i _ _ (List.getElem?_eq_getElem h1) (List.getElem?_eq_getElem h2)⟩
  rw [cel_b h.b, tcells_get (by simpa [ptrs] using h1)]
  simp [ptrs, List.getElem?_map, List.getElem?_eq_getElem h1]
/-- A lock that can be asked for. -/
def rightL (k : I3) : Prop := ok (k.1, k.2.1) ∧ k.2.1 ≤ 4096 ∧ (k.2.2 = 1 ∨ k.2.2 = 2)
instance (k : I3) : Decidable (rightL k) := by unfold rightL ok; infer_instance
theorem right_c {a b md : Int} (hq : ∀ w', K0 w w' → Q (.bool (decide (rightL (a, b, md)))) w') : callS Tryz.prog 17 #[.agg #[.int .i64 a, .int .i64 b, .int .i64 md]] Q w := by
  refine ref17 ?_
  unfold S17
  simp only [stp, Nat.reduceAdd, Int.reduceLT, Int.reduceLE, Int.reduceEq, Int.reduceNe, ne_eq, bne_self_eq_false, beq_self_eq_true, stm, act_box, agg_cells]
  have b1 : blk (w.alloc (.cells #[.int .i64 a, .int .i64 b, .int .i64 md] 29)) (siz w) = some (.cells #[.int .i64 a, .int .i64 b, .int .i64 md] 29) := blk_alloc_new
  have k1 : K0 w (w.alloc (.cells #[.int .i64 a, .int .i64 b, .int .i64 md] 29)) := (K0.refl w).alloc _
  generalize w.alloc (.cells #[.int .i64 a, .int .i64 b, .int .i64 md] 29) = w1 at b1 k1
  refine valid_c fun w2 g2 => ?_
  have k2 : K0 w1 w2 := g2.1
  have b2 := k2.blk b1 id
  have kk := k1.trans k2
  have c1 : cel w2 (siz w) 1 = some (.int .i64 b) := by rw [cel_b b2]; rfl
  have c2 : cel w2 (siz w) 2 = some (.int .i64 md) := by rw [cel_b b2]; rfl
  have fin : ∀ r : Bool, (r = true ↔ rightL (a, b, md)) → Q (.bool r) w2 := fun r hr => by
    have e : r = decide (rightL (a, b, md)) := by
      cases r with
      | true => rw [decide_eq_true (hr.1 rfl)]
      | false => rw [decide_eq_false fun h => by have := hr.2 h; cases this]
    rw [e]
    exact hq _ kk
  by_cases h0 : ok (a, b)
  · by_cases h1 : b ≤ 4096
    · by_cases h2 : md = 1
      · rw [decide_eq_true h0]
        simp only [stp, Nat.reduceAdd, Int.reduceLT, Int.reduceLE, Int.reduceEq, Int.reduceNe, ne_eq, bne_self_eq_false, beq_self_eq_true, stm, c1, c2, h1, h2]
        exact fin _ (by simp [rightL, h0, h1, h2])
      · by_cases h3 : md = 2
        · have h2' : ¬ (2 : Int) = 1 := by omega
          rw [decide_eq_true h0]
          simp only [stp, Nat.reduceAdd, Int.reduceLT, Int.reduceLE, Int.reduceEq, Int.reduceNe, ne_eq, bne_self_eq_false, beq_self_eq_true, stm, c1, c2, h1, h3, h2']
          exact fin _ (by simp [rightL, h0, h1, h3])
        · rw [decide_eq_true h0]
          simp only [stp, Nat.reduceAdd, Int.reduceLT, Int.reduceLE, Int.reduceEq, Int.reduceNe, ne_eq, bne_self_eq_false, beq_self_eq_true, stm, c1, c2, h1, h2, h3]
          exact fin _ (by simp [rightL, h0, h1, h2, h3])
    · rw [decide_eq_true h0]
      simp only [stp, Nat.reduceAdd, Int.reduceLT, Int.reduceLE, Int.reduceEq, Int.reduceNe, ne_eq, bne_self_eq_false, beq_self_eq_true, stm, c1, c2, h1]
      exact fin _ (by simp [rightL, h1])
  · rw [decide_eq_false h0]
    simp only [stp, Nat.reduceAdd, Int.reduceLT, Int.reduceLE, Int.reduceEq, Int.reduceNe, ne_eq, bne_self_eq_false, beq_self_eq_true]
    exact fin _ (by simp [rightL, h0])
theorem tmode_no {node x : Int} (h : TL w B t s) (hn : ¬ (1 ≤ node ∧ node ≤ s.nodes)) (hq : Q (.int .i64 0) w) : callS Tryz.prog 33 #[.pointer (some ⟨t, 0, none⟩), .int .i64 node, .int .i64 x] Q w := by
  refine ref33 ?_
  unfold S33
  obtain ⟨ms, wv, h⟩ := h
  refine is_c h.c0 ?_
  rw [decide_eq_false hn]
  simp only [stp, Nat.reduceAdd, Int.reduceLT, Int.reduceLE, Int.reduceEq, Int.reduceNe, ne_eq, bne_self_eq_false, beq_self_eq_true]
  exact hq
theorem tmode_c {i : Nat} {x : Int} (h : TL w B t s) (hi : 1 ≤ i) (hi' : (i : Int) ≤ s.nodes) (hq : ∀ w' l, s.hs[i]? = some l → K0 w w' → Q (.int .i64 ((valB l x).getD 0)) w') :
    callS Tryz.prog 33 #[.pointer (some ⟨t, 0, none⟩), .int .i64 (i : Int), .int .i64 x] Q w := by
  refine ref33 ?_
  unfold S33
  obtain ⟨ms, wv, h⟩ := h
  refine is_c h.c0 ?_
  rw [decide_eq_true ⟨by omega, hi'⟩]
  have hlt : i < 17 := by have := h.nn.2; omega
  obtain ⟨m, l, e1, e2, e3, hm, hd⟩ := h.node hlt
  have hl := canon_len (n := 4096) hm.canon hd
  simp only [stp, Nat.reduceAdd, Int.reduceLT, Int.reduceLE, Int.reduceEq, Int.reduceNe, ne_eq, bne_self_eq_false, beq_self_eq_true]
  rw [ixa hlt]
  simp only [stp, Nat.reduceAdd, Int.reduceLT, Int.reduceLE, Int.reduceEq, Int.reduceNe, ne_eq, bne_self_eq_false, beq_self_eq_true, stm, e3]
  refine get_c hm (by omega) fun w1 k1 => ?_
  simp only [stp, Nat.reduceAdd, Int.reduceLT, Int.reduceLE, Int.reduceEq, Int.reduceNe, ne_eq, bne_self_eq_false, beq_self_eq_true]
  have := hq w1 l e2 k1
  cases hv : valB l x with
  | none => rw [hv] at this; exact this
  | some v => rw [hv] at this; exact this
end
end Go.Proofs.YtcekmdpiloegcaaGreat
/- The table of locks: whether a lock fits what the others hold. Conditions: as each says. -/
namespace Go.Proofs.YtcekmdpiloegcaaGreat
open Go.Sh Go.Proofs.YtcekmdpiloegcaaGreat.Mi
set_option maxRecDepth 100000
section
variable {w w' : World} {Q : Value → World → Prop} {B t : Nat} {s : TS}
/-- Modes that fit. -/
def fitP (a b : Int) : Prop := isMd a ∧ isMd b ∧ (a = 0 ∨ b = 0 ∨ (a = 1 ∧ b = 1))
instance (a b : Int) : Decidable (fitP a b) := by unfold fitP; infer_instance
theorem part_at {A : Nat} {pa : Option Addr} {ca : Nat} {e : TypeId} {l : List (Pt Int)} (h : Own w A e 3 (.slice pa l.length ca) l.length (flat enc l)) {i : Nat} (hi : i < l.length) :
    ∃ g, pa = some ⟨g, 0, none⟩ ∧ cel w g (i * 3) = some (.int .i64 l[i].1.1) ∧ cel w g (i * 3 + 1) = some (.int .i64 l[i].1.2) ∧ cel w g (i * 3 + 2) = some (.int .i64 l[i].2) := by
  obtain ⟨g, cg, e, _, _, _, _, _, hcel⟩ := h.at (by omega)
  injection e with e1 _ e2
  subst e1 e2
  obtain ⟨p0, p1, p2⟩ := parts_at (ev := ev) (b := g) (o := 0) (l := l) (fun j hj => by rw [Nat.zero_add]; exact hcel j hj) (List.getElem?_eq_getElem hi)
  rw [Nat.zero_add] at p0 p1 p2
  exact ⟨g, rfl, p0, p1, p2⟩
theorem fits_c {node a b md : Int} (h : TL w B t s)
    (hq : ∀ w' r, (r = true ↔ ∀ (o : Nat) l, 1 ≤ o → (o : Int) ≤ s.nodes → (o : Int) ≠ node → s.hs[o]? = some l → ∀ p ∈ partsL (a, b) l, fitP p.2 md) → K0 w w' → Q (.bool r) w') :
    callS Tryz.prog 30 #[.pointer (some ⟨t, 0, none⟩), .int .i64 node, .agg #[.int .i64 a, .int .i64 b, .int .i64 md]] Q w := by
  refine ref30 ?_
  unfold S30
  obtain ⟨ms, wv, h⟩ := h
  simp only [stp, Nat.reduceAdd, Int.reduceLT, Int.reduceLE, Int.reduceEq, Int.reduceNe, ne_eq, bne_self_eq_false, beq_self_eq_true, stm, act_box, agg_cells]
  have b1 : blk (w.alloc (.cells #[.int .i64 a, .int .i64 b, .int .i64 md] 29)) (siz w) = some (.cells #[.int .i64 a, .int .i64 b, .int .i64 md] 29) := blk_alloc_new
  have k1 : K0 w (w.alloc (.cells #[.int .i64 a, .int .i64 b, .int .i64 md] 29)) := (K0.refl w).alloc _
  generalize w.alloc (.cells #[.int .i64 a, .int .i64 b, .int .i64 md] 29) = w1 at b1 k1
  have hnn := h.nn
  refine lp1 (fun m x w' => ∃ o : Nat, 1 ≤ o ∧ (o : Int) ≤ s.nodes + 1 ∧ x = .int .i64 (o : Int) ∧ m = 17 - o ∧ K0 w1 w' ∧ ∀ (o' : Nat) l, 1 ≤ o' → o' < o → (o' : Int) ≠ node → s.hs[o']? = some l → ∀ p ∈ partsL (a, b) l, fitP p.2 md) 16 ⟨1, Nat.le_refl _, by omega, rfl, rfl, K0.refl _, fun o' l h1 h2 => by omega⟩ ?_
  rintro m x w2 ⟨o, ho1, ho2, rfl, rfl, k2, hall⟩ J hJ _j
  have h2 := (h.keep0 k1).keep0 k2
  have b2 := k2.blk b1 id
  have c0 := h2.c0
  by_cases hle : (o : Int) ≤ s.nodes
  case neg =>
    simp only [stp, Nat.reduceAdd, Int.reduceLT, Int.reduceLE, Int.reduceEq, Int.reduceNe, ne_eq, bne_self_eq_false, beq_self_eq_true, stm, c0, hle]
    exact hq _ _ ⟨fun _ o' l q1 q2 q3 q4 => hall o' l q1 (by omega) q3 q4, fun _ => rfl⟩ (k1.trans k2)
  have hlt : o < 17 := by omega
  have hwr : IntKind.i64.wrap ((o : Int) + 1) = ((o + 1 : Nat) : Int) := wrap_succ (by omega)
  obtain ⟨mm, l, e1, e2, e3, hm, hd⟩ := h2.node hlt
  have hl := canon_len (n := 4096) hm.canon hd
  simp only [stp, Nat.reduceAdd, Int.reduceLT, Int.reduceLE, Int.reduceEq, Int.reduceNe, ne_eq, bne_self_eq_false, beq_self_eq_true, stm, c0, hle]
  refine jn0 (fun w' => K0 w1 w' ∧ ((o : Int) ≠ node → ∀ p ∈ partsL (a, b) l, fitP p.2 md)) (fun J1 hJ1 => ?_) ?_
  · by_cases hon : (o : Int) = node
    · simp only [stp, Nat.reduceAdd, Int.reduceLT, Int.reduceLE, Int.reduceEq, Int.reduceNe, ne_eq, bne_self_eq_false, beq_self_eq_true, hon]
      exact hJ1 _ ⟨k2, fun h => absurd hon h⟩
    simp only [stp, Nat.reduceAdd, Int.reduceLT, Int.reduceLE, Int.reduceEq, Int.reduceNe, ne_eq, bne_self_eq_false, beq_self_eq_true, hon]
    rw [ixa hlt]
    have c1 : cel w2 (siz w) 0 = some (.int .i64 a) := by rw [cel_b b2]; rfl
    have c2 : cel w2 (siz w) 1 = some (.int .i64 b) := by rw [cel_b b2]; rfl
    simp only [stp, Nat.reduceAdd, Int.reduceLT, Int.reduceLE, Int.reduceEq, Int.reduceNe, ne_eq, bne_self_eq_false, beq_self_eq_true, stm, e3, c1, c2]
    refine parts_c (a := a) (b := b) hm (by omega) fun w3 v3 o3 k3 => ?_
    have k3 : K0 w2 w3 := ((K0.refl w2).drew).trans k3
    have hPl := partsL_len (a, b) l
    generalize hP : partsL (a, b) l = P at *
    obtain ⟨p3, c3, rfl⟩ := o3.form
    have b3 := k3.blk b2 id
    simp only [stp, Nat.reduceAdd, Int.reduceLT, Int.reduceLE, Int.reduceEq, Int.reduceNe, ne_eq, bne_self_eq_false, beq_self_eq_true]
    refine lpc1 P.length (by omega) (fun i w' => K0 w3 w' ∧ ∀ p ∈ P.take i, fitP p.2 md) ⟨K0.refl _, by simp⟩ ?_ ?_
    · rintro i w4 hi ⟨k4, hfit⟩ J2 hJ2 _j
      have hi' : (i : Int) < (P.length : Int) := by omega
      obtain ⟨g, rfl, q0, q1, q2⟩ := part_at (o3.keep k4 fun _ _ e => e) hi
      have c2' : cel w4 (siz w) 2 = some (.int .i64 md) := by rw [cel_b (k4.blk b3 id)]; rfl
      simp only [stp, Nat.reduceAdd, Int.reduceLT, Int.reduceLE, Int.reduceEq, Int.reduceNe, ne_eq, bne_self_eq_false, beq_self_eq_true, hi']
      rw [ix_62 hi, Nat.zero_add]
      simp only [stp, Nat.reduceAdd, Int.reduceLT, Int.reduceLE, Int.reduceEq, Int.reduceNe, ne_eq, bne_self_eq_false, beq_self_eq_true, stm, q0, q1, q2]
      have k5 : K0 w4 (w4.alloc (.cells #[.int .i64 P[i].1.1, .int .i64 P[i].1.2, .int .i64 P[i].2] 65)) := (K0.refl w4).alloc _
      generalize w4.alloc (.cells #[.int .i64 P[i].1.1, .int .i64 P[i].1.2, .int .i64 P[i].2] 65) = w5 at k5
      have c2'' := k5.cel c2' (by exact fun h => h)
      simp only [stp, Nat.reduceAdd, Int.reduceLT, Int.reduceLE, Int.reduceEq, Int.reduceNe, ne_eq, bne_self_eq_false, beq_self_eq_true, stm, c2'']
      refine mfit_c ?_
      by_cases hf : fitP P[i].2 md
      · rw [decide_eq_true (show isMd P[i].2 ∧ isMd md ∧ (P[i].2 = 0 ∨ md = 0 ∨ (P[i].2 = 1 ∧ md = 1)) from hf)]
        simp only [stp, Nat.reduceAdd, Int.reduceLT, Int.reduceLE, Int.reduceEq, Int.reduceNe, ne_eq, bne_self_eq_false, beq_self_eq_true]
        refine hJ2 _ ⟨k4.trans k5, fun p hp => ?_⟩
        rw [List.take_add_one, List.getElem?_eq_getElem hi, Option.toList_some, List.mem_append, List.mem_singleton] at hp
        rcases hp with hp | rfl
        · exact hfit p hp
        · exact hf
      · rw [decide_eq_false (show ¬ (isMd P[i].2 ∧ isMd md ∧ (P[i].2 = 0 ∨ md = 0 ∨ (P[i].2 = 1 ∧ md = 1))) from hf)]
        simp only [stp, Nat.reduceAdd, Int.reduceLT, Int.reduceLE, Int.reduceEq, Int.reduceNe, ne_eq, bne_self_eq_false, beq_self_eq_true]
        exact hq _ _ ⟨fun h => (by cases h), fun hall' => absurd (hall' o l ho1 hle hon e2 _ (by rw [hP]; exact List.getElem_mem hi)) hf⟩ (k1.trans (((k2.trans k3).trans k4).trans k5))
    · rintro w4 ⟨k4, hfit⟩ J2 _j
      have hn : ¬ ((P.length : Int) < (P.length : Int)) := by omega
      rw [List.take_length] at hfit
      simp only [stp, Nat.reduceAdd, Int.reduceLT, Int.reduceLE, Int.reduceEq, Int.reduceNe, ne_eq, bne_self_eq_false, beq_self_eq_true, hn]
      exact hJ1 _ ⟨(k2.trans k3).trans k4, fun _ => hfit⟩
  · rintro w3 ⟨k3, hp⟩ _j
    show J (.int .i64 (IntKind.i64.wrap ((o : Int) + 1))) w3
    refine hJ (17 - (o + 1)) _ _ ?_ ⟨o + 1, by omega, by omega, by rw [hwr], rfl, k3, fun o' l' q1 q2 q3 q4 => ?_⟩
    · omega
    rcases Nat.lt_succ_iff_lt_or_eq.1 q2 with q | rfl
    · exact hall o' l' q1 q q3 q4
    · have e2' : s.hs[o']? = some l := e2
      rw [e2'] at q4
      injection q4 with q4
      subst q4
      exact hp q3
end
end Go.Proofs.YtcekmdpiloegcaaGreat
/- The table of locks: what a node holds; what is forced; whether all fits. Conditions: as each says. -/
namespace Go.Proofs.YtcekmdpiloegcaaGreat
open Go.Sh Go.Proofs.YtcekmdpiloegcaaGreat.Mi
set_option maxRecDepth 100000
section
variable {w w' : World} {Q : Value → World → Prop} {B t : Nat} {s : TS}
theorem tholds_no {node : Int} (h : TL w B t s) (hn : ¬ (1 ≤ node ∧ node ≤ s.nodes)) (hq : Q (.slice none 0 0) w) : callS Tryz.prog 31 #[.pointer (some ⟨t, 0, none⟩), .int .i64 node] Q w := by
  refine ref31 ?_
  unfold S31
  obtain ⟨ms, wv, h⟩ := h
  refine is_c h.c0 ?_
  rw [decide_eq_false hn]
  simp only [stp, Nat.reduceAdd, Int.reduceLT, Int.reduceLE, Int.reduceEq, Int.reduceNe, ne_eq, bne_self_eq_false, beq_self_eq_true]
  exact hq
theorem tholds_c {j : Nat} (h : TL w B t s) (hj : 1 ≤ j) (hj' : (j : Int) ≤ s.nodes) (hq : ∀ w' v' l, s.hs[j]? = some l → Canon l → Bd 4096 l → Own w' (siz w) 29 3 v' (asLocks l).length (flat enc3 (asLocks l)) → K0 w w' → Q v' w') :
    callS Tryz.prog 31 #[.pointer (some ⟨t, 0, none⟩), .int .i64 (j : Int)] Q w := by
  refine ref31 ?_
  unfold S31
  obtain ⟨ms, wv, h⟩ := h
  refine is_c h.c0 ?_
  rw [decide_eq_true ⟨by omega, hj'⟩]
  have hlt : j < 17 := by have := h.nn.2; omega
  obtain ⟨m, l, e1, e2, e3, hm, hd⟩ := h.node hlt
  have hcn := hm.canon
  have hl' := canon_len (n := 4096) hcn hd
  have hl : l.length ≤ 1000000 := by omega
  have hq := fun w' v' => hq w' v' l e2 hcn hd
  clear e1 e2 hlt
  simp only [stp, Nat.reduceAdd, Int.reduceLT, Int.reduceLE, Int.reduceEq, Int.reduceNe, ne_eq, bne_self_eq_false, beq_self_eq_true]
  rw [ixa (by have := h.nn.2; omega)]
  simp only [stp, Nat.reduceAdd, Int.reduceLT, Int.reduceLE, Int.reduceEq, Int.reduceNe, ne_eq, bne_self_eq_false, beq_self_eq_true, stm, e3]
  refine all_c hm hl fun w1 v1 o1 k1 => ?_
  have s1 := k1.size
  obtain ⟨pa, ca, rfl⟩ := o1.form
  simp only [stp, Nat.reduceAdd, Int.reduceLT, Int.reduceLE, Int.reduceEq, Int.reduceNe, ne_eq, bne_self_eq_false, beq_self_eq_true]
  refine lp2 (fun mm x y w' => Keep (fun _ => False) w1 w' ∧ ∃ i : Nat, y = .int .i64 (i : Int) ∧ i ≤ l.length ∧ mm = l.length - i ∧ Own w' (siz w1) 29 3 x i (flat enc3 (asLocks (l.take i)))) l.length
    ⟨Keep.refl _ _, 0, rfl, Nat.zero_le _, by omega, Own.nil _ _ _ _⟩ ?_
  rintro mm x y w2 ⟨k2, i, rfl, hi, rfl, o2⟩ J hJ _
  have hwi := wrap_succ (i := i) (by omega)
  have s12 := k2.size
  by_cases hlt : i < l.length
  · have hlt' : ((i : Int) < (l.length : Int)) := by omega
    have hsi : l[i]? = some l[i] := List.getElem?_eq_getElem hlt
    obtain ⟨g, cg, e, _, _, _, _, _, hcel⟩ := (o1.keep k2 fun _ _ => id).at (by omega)
    injection e with e1 _ e2
    subst e1 e2
    obtain ⟨p0, p1, p2⟩ := parts_at (ev := ev) (b := g) (o := 0) (l := l) (fun j hj => by rw [Nat.zero_add]; exact hcel j hj) hsi
    rw [Nat.zero_add] at p0 p1 p2
    simp only [stp, Nat.reduceAdd, Int.reduceLT, Int.reduceLE, Int.reduceEq, Int.reduceNe, ne_eq, bne_self_eq_false, beq_self_eq_true, hlt']
    rw [ix_62 hlt]
    simp only [stp, Nat.reduceAdd, Int.reduceLT, Int.reduceLE, Int.reduceEq, Int.reduceNe, ne_eq, bne_self_eq_false, beq_self_eq_true, stm, p0, p1, p2]
    have k3 := (Keep.refl (fun _ => False) w2).alloc (.cells #[.int .i64 l[i].1.1, .int .i64 l[i].1.2, ev l[i].2] 65)
    have o3 := o2.keep k3 fun _ _ => id
    have s23 := k3.size
    refine pu_69 o3 (by intro u hu; simp only [List.mem_cons, List.not_mem_nil, or_false] at hu; rcases hu with rfl | rfl | rfl <;> exact one_int) (by omega) (by omega) fun v' w' ho hk hr => ?_
    simp only [hwi]
    refine hJ (l.length - (i + 1)) _ _ _ (by omega) ⟨(k2.trans k3).trans' hk fun b hb e => by have := (o3.lt e).1; omega, i + 1, rfl, by omega, rfl, ?_⟩
    have e9 : asLocks (l.take (i + 1)) = asLocks (l.take i) ++ [(l[i].1.1, l[i].1.2, l[i].2)] := by
      rw [List.take_add_one, hsi, Option.toList_some]; unfold asLocks; rw [List.map_append]; rfl
    rw [e9, flat_append]
    exact ho
  · have hlt' : ¬ ((i : Int) < (l.length : Int)) := by omega
    have hil : i = l.length := by omega
    simp only [stp, Nat.reduceAdd, Int.reduceLT, Int.reduceLE, Int.reduceEq, Int.reduceNe, ne_eq, bne_self_eq_false, beq_self_eq_true, hlt']
    rw [hil, List.take_length] at o2
    exact hq _ _ (by rw [asLocks_len]; exact o2.le s1) (k1.trans k2)
end
end Go.Proofs.YtcekmdpiloegcaaGreat
/- The table of locks: a node's map turns; of a nil and of a zero table. Conditions: as each says. -/
namespace Go.Proofs.YtcekmdpiloegcaaGreat
open Go.Sh Go.Proofs.YtcekmdpiloegcaaGreat.Mi
set_option maxRecDepth 100000
section
variable {w w' : World} {Q : Value → World → Prop} {B t : Nat} {s : TS}
/-- A node's map is another one. -/
theorem TLr.turn {ms : List Nat} {wv : Value} {i m : Nat} {l' : List (Pt Int)} (h : TLr w B t s ms wv) (hi : ms[i]? = some m) (k : Keep (fun b => b = m) w w') (hm : IM w' m l') (hd : Bd 4096 l') : TLr w' B t { s with hs := s.hs.set i l' } ms wv := by
  have hlt : i < ms.length := (List.getElem?_eq_some_iff.1 hi).1
  obtain ⟨m0, l0, e1, _, _, hm0, _⟩ := h.node (i := i) (by rw [← h.n]; exact hlt)
  have e : m0 = m := by rw [hi] at e1; injection e1 with e1; exact e1.symm
  subst e
  obtain ⟨_, hb0⟩ := im_blk hm0
  exact { h with
    b := k.blk h.b fun e => ne_of_ty h.b hb0 (by decide) e
    hn := by simpa using h.hn
    h := fun j n l h1 h2 => by
      have h2 : (s.hs.set i l')[j]? = some l := h2
      by_cases hij : j = i
      · subst hij
        rw [hi] at h1
        injection h1 with h1
        subst h1
        rw [List.getElem?_set_self (by rw [h.hn, ← h.n]; exact hlt)] at h2
        injection h2 with h2
        subst h2
        exact ⟨hm, hd⟩
      · rw [List.getElem?_set_ne (Ne.symm hij)] at h2
        obtain ⟨q1, q2⟩ := h.h j n l h1 h2
        have hjl : j < ms.length := (List.getElem?_eq_some_iff.1 h1).1
        refine ⟨q1.keepM hm0 (fun e => hij ?_) k, q2⟩
        subst e
        exact (List.getElem?_inj hjl h.nd).1 (h1.trans hi.symm)
    wr := own_keepT h.wr k fun g cs hg e => ne_of_ty hg hb0 (by decide) e }
theorem TLr.ko {ms : List Nat} {wv : Value} {i m : Nat} (h : TLr w B t s ms wv) (hi : ms[i]? = some m) (k : Keep (fun b => b = m) w w') : KO B tp w w' := by
  have hlt : i < ms.length := (List.getElem?_eq_some_iff.1 hi).1
  obtain ⟨m0, l0, e1, _, _, hm0, _⟩ := h.node (i := i) (by rw [← h.n]; exact hlt)
  have e : m0 = m := by rw [hi] at e1; injection e1 with e1; exact e1.symm
  subst e
  obtain ⟨cs, hb0⟩ := im_blk hm0
  exact KO.ofB k fun b e => by
    have e : b = m0 := e
    subst e
    exact ⟨h.Bm _ (List.mem_of_getElem? hi), _, hb0, rfl⟩
/-! ### of a nil table -/
theorem task_nil {node : Int} {v : Value} (hv : ∃ a b md : Int, v = .agg #[.int .i64 a, .int .i64 b, .int .i64 md]) (hq : ∀ w', K0 w w' → Q (.tuple #[.int .i64 0, .bool false, .int .i64 1]) w') : callS Tryz.prog 6 #[.pointer none, .int .i64 node, v] Q w := by
  refine ref6 ?_
  unfold S6
  obtain ⟨a, b, md, rfl⟩ := hv
  simp only [act_box, agg_cells]
  refine is_nil ?_
  simp only [stp, Nat.reduceAdd, Int.reduceLT, Int.reduceLE, Int.reduceEq, Int.reduceNe, ne_eq, bne_self_eq_false, beq_self_eq_true]
  exact hq _ ((K0.refl w).alloc _)
theorem tforce_nil {node : Int} {v : Value} (hv : ∃ a b md : Int, v = .agg #[.int .i64 a, .int .i64 b, .int .i64 md]) (hq : ∀ w', K0 w w' → Q (.int .i64 1) w') : callS Tryz.prog 10 #[.pointer none, .int .i64 node, v] Q w := by
  refine ref10 ?_
  unfold S10
  obtain ⟨a, b, md, rfl⟩ := hv
  simp only [act_box, agg_cells]
  refine is_nil ?_
  simp only [stp, Nat.reduceAdd, Int.reduceLT, Int.reduceLE, Int.reduceEq, Int.reduceNe, ne_eq, bne_self_eq_false, beq_self_eq_true]
  exact hq _ ((K0.refl w).alloc _)
theorem trelease_nil {node keep : Int} {v : Value} (hv : ∃ a b : Int, v = .agg #[.int .i64 a, .int .i64 b]) (hq : ∀ w', K0 w w' → Q (.tuple #[.slice none 0 0, .int .i64 1]) w') : callS Tryz.prog 7 #[.pointer none, .int .i64 node, v, .int .i64 keep] Q w := by
  refine ref7 ?_
  unfold S7
  obtain ⟨a, b, rfl⟩ := hv
  simp only [act_box, agg_cells]
  refine is_nil ?_
  simp only [stp, Nat.reduceAdd, Int.reduceLT, Int.reduceLE, Int.reduceEq, Int.reduceNe, ne_eq, bne_self_eq_false, beq_self_eq_true]
  exact hq _ ((K0.refl w).alloc _)
theorem twaits_nil (hq : Q (.slice none 0 0) w) : callS Tryz.prog 13 #[.pointer none] Q w := by
  refine ref13 ?_
  unfold S13
  simp only [stp, Nat.reduceAdd, Int.reduceLT, Int.reduceLE, Int.reduceEq, Int.reduceNe, ne_eq, bne_self_eq_false, beq_self_eq_true, stm]
  exact hq
theorem trevokes_nil (hq : Q (.slice none 0 0) w) : callS Tryz.prog 14 #[.pointer none] Q w := by
  refine ref14 ?_
  unfold S14
  simp only [stp, Nat.reduceAdd, Int.reduceLT, Int.reduceLE, Int.reduceEq, Int.reduceNe, ne_eq, bne_self_eq_false, beq_self_eq_true, stm]
  exact hq
theorem tsound_nil (hq : Q (.bool true) w) : callS Tryz.prog 11 #[.pointer none] Q w := by
  refine ref11 ?_
  unfold S11
  simp only [stp, Nat.reduceAdd, Int.reduceLT, Int.reduceLE, Int.reduceEq, Int.reduceNe, ne_eq, bne_self_eq_false, beq_self_eq_true, stm]
  exact hq
theorem tholds_nil {node : Int} (hq : Q (.slice none 0 0) w) : callS Tryz.prog 31 #[.pointer none, .int .i64 node] Q w := by
  refine ref31 ?_
  unfold S31
  refine is_nil ?_
  simp only [stp, Nat.reduceAdd, Int.reduceLT, Int.reduceLE, Int.reduceEq, Int.reduceNe, ne_eq, bne_self_eq_false, beq_self_eq_true]
  exact hq
theorem tmode_nil {node x : Int} (hq : Q (.int .i64 0) w) : callS Tryz.prog 33 #[.pointer none, .int .i64 node, .int .i64 x] Q w := by
  refine ref33 ?_
  unfold S33
  refine is_nil ?_
  simp only [stp, Nat.reduceAdd, Int.reduceLT, Int.reduceLE, Int.reduceEq, Int.reduceNe, ne_eq, bne_self_eq_false, beq_self_eq_true]
  exact hq
theorem tcancel_nil {node : Int} (hq : ∀ w', K0 w w' → Q (.tuple #[.slice none 0 0, .bool false]) w') : callS Tryz.prog 8 #[.pointer none, .int .i64 node] Q w := by
  refine ref8 ?_
  unfold S8
  simp only [stp, Nat.reduceAdd, Int.reduceLT, Int.reduceLE, Int.reduceEq, Int.reduceNe, ne_eq, bne_self_eq_false, beq_self_eq_true, stm]
  exact hq _ ((K0.refl w).alloc _)
theorem tdrop_nil {node : Int} (hq : ∀ w', K0 w w' → Q (.slice none 0 0) w') : callS Tryz.prog 9 #[.pointer none, .int .i64 node] Q w := by
  refine ref9 ?_
  unfold S9
  simp only [stp, Nat.reduceAdd, Int.reduceLT, Int.reduceLE, Int.reduceEq, Int.reduceNe, ne_eq, bne_self_eq_false, beq_self_eq_true, act_box]
  have c0 : cel (w.alloc (.cells (Value.int .i64 node).cells 3)) (siz w) 0 = some (.int .i64 node) := by rw [cel_alloc_new]; rfl
  simp only [stp, Nat.reduceAdd, Int.reduceLT, Int.reduceLE, Int.reduceEq, Int.reduceNe, ne_eq, bne_self_eq_false, beq_self_eq_true, stm, c0]
  refine is_nil ?_
  simp only [stp, Nat.reduceAdd, Int.reduceLT, Int.reduceLE, Int.reduceEq, Int.reduceNe, ne_eq, bne_self_eq_false, beq_self_eq_true]
  exact hq _ ((K0.refl w).alloc _)
end
end Go.Proofs.YtcekmdpiloegcaaGreat
/- The table of locks: of a zero table. Conditions: as each says. -/
namespace Go.Proofs.YtcekmdpiloegcaaGreat
open Go.Sh Go.Proofs.YtcekmdpiloegcaaGreat.Mi
set_option maxRecDepth 100000
section
variable {w w' : World} {Q : Value → World → Prop} {B t : Nat} {s : TS}
/-- A zero table. -/
def TZ (w : World) (t : Nat) : Prop := blk w t = some (.cells (tcells 0 (List.replicate 17 (.pointer none)) (.slice none 0 0) 0) 54)
theorem TZ.keep0 (h : TZ w t) (k : K0 w w') : TZ w' t := k.blk h id
theorem TZ.c0 (h : TZ w t) : cel w t 0 = some (.int .i64 0) := by rw [cel_b h]; rfl
theorem task_zero {node : Int} {v : Value} (h : TZ w t) (hv : ∃ a b md : Int, v = .agg #[.int .i64 a, .int .i64 b, .int .i64 md]) (hq : ∀ w', K0 w w' → Q (.tuple #[.int .i64 0, .bool false, .int .i64 1]) w') : callS Tryz.prog 6 #[.pointer (some ⟨t, 0, none⟩), .int .i64 node, v] Q w := by
  refine ref6 ?_
  unfold S6
  obtain ⟨a, b, md, rfl⟩ := hv
  simp only [act_box, agg_cells]
  have k1 : K0 w (w.alloc (.cells #[.int .i64 a, .int .i64 b, .int .i64 md] 29)) := (K0.refl w).alloc _
  refine is_c (h.keep0 k1).c0 ?_
  rw [decide_eq_false (by omega)]
  simp only [stp, Nat.reduceAdd, Int.reduceLT, Int.reduceLE, Int.reduceEq, Int.reduceNe, ne_eq, bne_self_eq_false, beq_self_eq_true]
  exact hq _ k1
theorem tsound_zero (h : TZ w t) (hq : ∀ w', K0 w w' → Q (.bool true) w') : callS Tryz.prog 11 #[.pointer (some ⟨t, 0, none⟩)] Q w := by
  refine ref11 ?_
  unfold S11
  have c0 := h.c0
  simp only [stp, Nat.reduceAdd, Int.reduceLT, Int.reduceLE, Int.reduceEq, Int.reduceNe, ne_eq, bne_self_eq_false, beq_self_eq_true, stm]
  refine lp1 (fun m x w' => x = .int .i64 1 ∧ w' = w) 0 ⟨rfl, rfl⟩ ?_
  rintro m x w1 ⟨rfl, rfl⟩ J hJ _j
  have hn : ¬ (1 : Int) ≤ 0 := by omega
  simp only [stp, Nat.reduceAdd, Int.reduceLT, Int.reduceLE, Int.reduceEq, Int.reduceNe, ne_eq, bne_self_eq_false, beq_self_eq_true, stm, c0, hn]
  exact hq _ (K0.refl _)
end
end Go.Proofs.YtcekmdpiloegcaaGreat
