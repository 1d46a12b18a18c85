/- The table of locks: how it lies in memory. Conditions: as each says. -/
import Derived.Test.YtiomanikpboclaaModeC0
import Derived.Test.YtiomanikpboclaaKeep
import Derived.Test.YtiomanikpboclaaBlkX
set_option linter.unusedSimpArgs false
set_option linter.unusedVariables false
namespace Go.Proofs.Ytiomanikpboclaa
open Go.Sh Go.Proofs.Ytiomanikpboclaa.Mi
set_option maxRecDepth 100000
section
variable {w w' : World} {Q : Value → World → Prop} {B t : Nat}
/-- A place of the table's array. -/
theorem ixa {b o i : Nat} {k : Value → Prop} (h : i < 17) : pur Try.prog (Instr.indexAt 47 (.pointer (some ⟨b, o, none⟩)) (.int .i64 i)) k = k (.pointer (some ⟨b, o + i, none⟩)) := pur_eq fun w => by
  have h1 : (0 : Int) ≤ i ∧ (i : Int) < 17 := by omega
  have hT : ∀ w, (underlying 47).run Try.prog w = .ok (.array 17 46) w := fun w => by rfl
  simp [Instr.indexAt, asIntOf, hT, h1, h, Try.sizeOf46, Addr.add, Instr.sureAddr]
/-- What a table knows: its nodes, what each holds, who waits, the last number. -/
structure TS where
  nodes : Int
  hs : List (List (Pt Int))
  ws : List I5
  last : Int
def ptrs (ms : List Nat) : List Value := ms.map fun m => .pointer (some ⟨m, 0, none⟩)
def tcells (nodes : Int) (P : List Value) (wv : Value) (last : Int) : Array Value := (.int .i64 nodes :: (P ++ [wv, .int .i64 last])).toArray
theorem tcells_set {nodes last : Int} {P : List Value} {wv v : Value} {i : Nat} (h : i < P.length) : (tcells nodes P wv last).setIfInBounds (1 + i) v = tcells nodes (P.set i v) wv last := by
  unfold tcells
  rw [List.setIfInBounds_toArray, Nat.add_comm, List.set_cons_succ, List.set_append_left _ _ h]
theorem tcells_get {nodes last : Int} {P : List Value} {wv : Value} {i : Nat} (h : i < P.length) : (tcells nodes P wv last)[1 + i]? = P[i]? := by
  unfold tcells
  rw [List.getElem?_toArray, Nat.add_comm, List.getElem?_cons_succ, List.getElem?_append_left h]
structure TLr (w : World) (B t : Nat) (s : TS) (ms : List Nat) (wv : Value) : Prop where
  b : blk w t = some (.cells (tcells s.nodes (ptrs ms) wv s.last) 49)
  n : ms.length = 17
  nn : 1 ≤ s.nodes ∧ s.nodes ≤ 16
  hn : s.hs.length = 17
  h : ∀ (i : Nat) (m : Nat) (l : List (Pt Int)), ms[i]? = some m → s.hs[i]? = some l → IM w m l ∧ Bd 4096 l
  nd : ms.Nodup
  Bt : B ≤ t
  Bm : ∀ m ∈ ms, B ≤ m
  wr : Own w B 36 5 wv s.ws.length (flat enc5 s.ws)
def TL (w : World) (B t : Nat) (s : TS) : Prop := ∃ ms wv, TLr w B t s ms wv
/-- What a table turns. -/
abbrev tp : Obj → Bool := tys [49, 77, 36]
theorem im_blk {m : Nat} {l : List (Pt Int)} (h : IM w m l) : ∃ cs, blk w m = some (.cells cs 77) := by obtain ⟨sl, h, _⟩ := h; exact ⟨_, h⟩
theorem ne_of_ty {a b : Nat} {x y : Array Value} {t t' : TypeId} (ha : blk w a = some (.cells x t)) (hb : blk w b = some (.cells y t')) (ht : t ≠ t') : a ≠ b := fun e => by
  subst e; rw [ha] at hb; injection hb with hb; injection hb with _ hb; exact ht hb
/-- A map stands while a block turns that is none of maps and rows. -/
theorem im_keepT {m n : Nat} {l : List (Pt Int)} {x : Array Value} {t : TypeId} (h : IM w m l) (hn : blk w n = some (.cells x t)) (h1 : t ≠ 77) (h2 : t ≠ 68) (k : Keep (fun b => b = n) w w') : IM w' m l := by
  obtain ⟨sl, hb, ho, hc⟩ := h
  refine ⟨sl, k.blk hb fun e => ne_of_ty hb hn (Ne.symm h1) e, ho.keep k fun g hg e => ?_, hc⟩
  subst e
  rcases ho.2 with ⟨rfl, _⟩ | ⟨g', cap, cur, rfl, _, hh, _⟩
  · cases hg
  · injection hg with hg
    subst hg
    exact ne_of_ty hn hh h2 rfl
/-- A map stands while blocks turn that are none of maps and rows. -/
theorem im_keepF {m : Nat} {l : List (Pt Int)} {F : Nat → Prop} (h : IM w m l) (k : Keep F w w') (hF : ∀ b, F b → ∃ x u, blk w b = some (.cells x u) ∧ u ≠ 77 ∧ u ≠ 68) : IM w' m l := by
  obtain ⟨sl, hb, ho, hc⟩ := h
  refine ⟨sl, k.blk hb fun e => ?_, ho.keep k fun g hg e => ?_, hc⟩
  · obtain ⟨x, u, h1, h2, _⟩ := hF _ e
    exact ne_of_ty hb h1 (Ne.symm h2) rfl
  · obtain ⟨x, u, h1, _, h3⟩ := hF _ e
    rcases ho.2 with ⟨rfl, _⟩ | ⟨g', cap, cur, rfl, _, hh, _⟩
    · cases hg
    · injection hg with hg
      subst hg
      exact ne_of_ty h1 hh h3 rfl
theorem own_ty {e : TypeId} {z n : Nat} {v : Value} {xs : List Value} (h : Own w B e z v n xs) {g : Nat} (hg : v.ownBlock = some g) : B ≤ g ∧ ∃ cs, blk w g = some (.cells cs e) := by
  rcases h.2 with ⟨rfl, _⟩ | ⟨g', cap, cur, rfl, hb, hh, _⟩
  · cases hg
  · injection hg with hg
    subst hg
    exact ⟨hb, cur, hh⟩
theorem own_keepT {F : Nat → Prop} {e : TypeId} {z n : Nat} {v : Value} {xs : List Value} (h : Own w B e z v n xs) (k : Keep F w w') (hF : ∀ g cs, blk w g = some (.cells cs e) → ¬ F g) : Own w' B e z v n xs :=
  h.keep k fun g hg => by obtain ⟨_, cs, hc⟩ := own_ty h hg; exact hF g cs hc
/-- The table's own cells turn, and the row of those that wait. -/
theorem TLr.rest {s : TS} {ms : List Nat} {wv wv' : Value} {ws' : List I5} {last' : Int} (h : TLr w B t s ms wv) (k : Keep (fun b => b = t ∨ wv.ownBlock = some b) w w')
    (hb : blk w' t = some (.cells (tcells s.nodes (ptrs ms) wv' last') 49)) (ho : Own w' B 36 5 wv' ws'.length (flat enc5 ws')) : TLr w' B t { s with ws := ws', last := last' } ms wv' :=
  { h with
    b := hb
    h := fun i m l h1 h2 => by
      obtain ⟨q1, q2⟩ := h.h i m l h1 h2
      refine ⟨im_keepF q1 k fun b hF => ?_, q2⟩
      rcases hF with rfl | e
      · exact ⟨_, _, h.b, by decide, by decide⟩
      · obtain ⟨_, cs, hc⟩ := own_ty h.wr e
        exact ⟨_, _, hc, by decide, by decide⟩
    wr := ho }
theorem TLr.ko1 {s : TS} {ms : List Nat} {wv : Value} (h : TLr w B t s ms wv) (k : Keep (fun b => b = t ∨ wv.ownBlock = some b) w w') : KO B tp w w' := KO.ofB k fun b hF => by
  rcases hF with rfl | e
  · exact ⟨h.Bt, _, h.b, rfl⟩
  · obtain ⟨hB, cs, hc⟩ := own_ty h.wr e
    exact ⟨hB, _, hc, rfl⟩
theorem TLr.keep0 {s : TS} {ms : List Nat} {wv : Value} (h : TLr w B t s ms wv) (k : K0 w w') : TLr w' B t s ms wv :=
  { h with b := k.blk h.b id, h := fun i m l h1 h2 => ⟨(h.h i m l h1 h2).1.keep0 k, (h.h i m l h1 h2).2⟩, wr := h.wr.keep k fun _ _ e => e }
theorem TL.keep0 {s : TS} (h : TL w B t s) (k : K0 w w') : TL w' B t s := by obtain ⟨ms, wv, h⟩ := h; exact ⟨ms, wv, h.keep0 k⟩
def TS.fresh (nodes : Int) : TS := ⟨nodes, List.replicate 17 [], [], 0⟩
theorem tnew_none {nodes : Int} (h : nodes < 1 ∨ 16 < nodes) (hq : Q (.pointer none) w) : callS Try.prog 9 #[.int .i64 nodes] Q w := by
  refine ref9 ?_
  unfold S9
  by_cases h1 : nodes < 1
  · simp only [stp, Nat.reduceAdd, Int.reduceLT, Int.reduceLE, Int.reduceEq, Int.reduceNe, ne_eq, bne_self_eq_false, beq_self_eq_true, h1]
    exact hq
  · have h2 : (16 : Int) < nodes := by omega
    simp only [stp, Nat.reduceAdd, Int.reduceLT, Int.reduceLE, Int.reduceEq, Int.reduceNe, ne_eq, bne_self_eq_false, beq_self_eq_true, h1, h2]
    exact hq
theorem tnew_c {nodes : Int} (hn : 1 ≤ nodes ∧ nodes ≤ 16) (hB : B ≤ siz w) (hq : ∀ w', TL w' B (siz w) (TS.fresh nodes) → K0 w w' → Q (.pointer (some ⟨siz w, 0, none⟩)) w') :
    callS Try.prog 9 #[.int .i64 nodes] Q w := by
  refine ref9 ?_
  unfold S9
  have h1 : ¬ nodes < 1 := by omega
  have h2 : ¬ (16 : Int) < nodes := by omega
  simp only [stp, Nat.reduceAdd, Int.reduceLT, Int.reduceLE, Int.reduceEq, Int.reduceNe, ne_eq, bne_self_eq_false, beq_self_eq_true, h1, h2]
  have kA := (K0.refl w).alloc (.cells (tcells nodes (List.replicate 17 (.pointer none)) (.slice none 0 0) 0) 49)
  have bA : blk (w.alloc (.cells (tcells nodes (List.replicate 17 (.pointer none)) (.slice none 0 0) 0) 49)) (siz w) = some (.cells (tcells nodes (List.replicate 17 (.pointer none)) (.slice none 0 0) 0) 49) := blk_alloc_new
  change lp 1 _ _ (w.alloc (.cells (tcells nodes (List.replicate 17 (.pointer none)) (.slice none 0 0) 0) 49))
  generalize w.alloc (.cells (tcells nodes (List.replicate 17 (.pointer none)) (.slice none 0 0) 0) 49) = wA at kA bA
  refine lpc1 17 (by omega) (fun i w' => ∃ ms : List Nat, ms.length = i ∧ blk w' (siz w) = some (.cells (tcells nodes (ptrs ms ++ List.replicate (17 - i) (.pointer none)) (.slice none 0 0) 0) 49) ∧ (∀ m ∈ ms, IM w' m [] ∧ siz w < m ∧ m < siz w') ∧ ms.Nodup ∧ K0 w w') ⟨[], rfl, bA, fun m hm => (by cases hm), List.nodup_nil, kA⟩ ?_ ?_
  · rintro i w1 hi ⟨ms, hl, hb, hm, hnd, k1⟩ J hJ _j
    have hi' : (i : Int) < 17 := by omega
    simp only [stp, Nat.reduceAdd, Int.reduceLT, Int.reduceLE, Int.reduceEq, Int.reduceNe, ne_eq, bne_self_eq_false, beq_self_eq_true, hi']
    refine new_c fun w2 m2 k2 => ?_
    have k2 : K0 w1 w2 := ((K0.refl w1).drew).trans k2
    have hb2 := k2.blk hb id
    have hs : siz w1.drew = siz w1 := rfl
    have s2 := m2.lt
    have hlt := blk_lt hb
    have hP : i < (ptrs ms ++ List.replicate (17 - i) (Value.pointer none)).length := by simp [ptrs, hl]; omega
    have iP : (cel w2 (siz w) (1 + i)).isSome = true := by rw [cel_b hb2, tcells_get hP, List.getElem?_eq_getElem hP]; rfl
    rw [ixa hi, st_46 one_ptr iP (fre_b hb2)]
    have k3 : Keep (fun b => b = siz w) w2 (sto w2 (siz w) (1 + i) (.pointer (some ⟨siz w1.drew, 0, none⟩))) := (Keep.refl (fun b => b = siz w) w2).sto (.inl rfl) _ _
    have hset : (ptrs ms ++ List.replicate (17 - i) (Value.pointer none)).set i (.pointer (some ⟨siz w1, 0, none⟩)) = ptrs (ms ++ [siz w1]) ++ List.replicate (17 - (i + 1)) (Value.pointer none) := by
      have e : 17 - i = (17 - (i + 1)) + 1 := by omega
      rw [e, List.replicate_succ, List.set_append_right _ _ (by simp [ptrs, hl])]
      simp [ptrs, hl]
    refine hJ _ ⟨ms ++ [siz w1], by simp [hl], ?_, fun m hm' => ?_, ?_, ?_⟩
    · rw [blk_sto hb2, tcells_set hP, hs, hset]
    · rw [List.mem_append, List.mem_singleton] at hm'
      have ss := k3.size
      rcases hm' with hm' | rfl
      · obtain ⟨q1, q2, q3⟩ := hm m hm'
        exact ⟨im_keepT (q1.keep0 k2) hb2 (by decide) (by decide) k3, q2, by have := k2.size; omega⟩
      · exact ⟨im_keepT m2 hb2 (by decide) (by decide) k3, by omega, by omega⟩
    · rw [List.nodup_append]
      exact ⟨hnd, by simp, fun a ha b hb' e => by rw [List.mem_singleton] at hb'; have := (hm a ha).2.2; omega⟩
    · exact (k1.trans k2).trans' k3 fun b hb' e => by omega
  · rintro w1 ⟨ms, hl, hb, hm, hnd, k1⟩ J _j
    have hn' : ¬ ((17 : Nat) : Int) < 17 := by omega
    simp only [stp, Nat.reduceAdd, Int.reduceLT, Int.reduceLE, Int.reduceEq, Int.reduceNe, ne_eq, bne_self_eq_false, beq_self_eq_true, hn']
    refine hq _ ⟨ms, .slice none 0 0, ?_⟩ k1
    have e : ptrs ms ++ List.replicate (17 - 17) (Value.pointer none) = ptrs ms := by simp
    rw [e] at hb
    exact { b := hb, n := hl, nn := hn, hn := rfl, h := fun i m l h1 h2 => by
              have : l = [] := by
                have h2 : (List.replicate 17 ([] : List (Pt Int)))[i]? = some l := h2
                rw [List.getElem?_replicate] at h2
                split at h2
                · injection h2 with h2; exact h2.symm
                · cases h2
              subst this
              exact ⟨(hm m (List.mem_of_getElem? h1)).1, fun p hp => by cases hp⟩
            nd := hnd, Bt := hB, Bm := fun m hm' => by have := (hm m hm').2.1; omega, wr := Own.nil _ _ _ _ }
end
end Go.Proofs.Ytiomanikpboclaa
