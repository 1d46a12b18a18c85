/- Histories in memory: images, arrays, events; reading and writing an array. Conditions: as each says. -/
import Derived.Laws.BytesArg
import Derived.Shelf.Strings.Repeat
import Derived.Test.YtmmnifbponhhfaaGreatTT
import Derived.Test.YtmmnifbponhhfaaGreatTShL
import Derived.Test.YtmmnifbponhhfaaGreatTMapS
import Derived.Test.YtmmnifbponhhfaaGreatTKeep
import Derived.Test.YtmmnifbponhhfaaGreatTBook
import Derived.Test.YtmmnifbponhhfaaGreatTHistX
import Derived.Test.YtmmnifbponhhfaaGreatTLayR
set_option linter.unusedSimpArgs false
set_option linter.unusedVariables false
namespace Go.Proofs.YtmmnifbponhhfaaGreatT
open Go.Sh Go.Sh.Hi
set_option maxRecDepth 100000
abbrev encM (i : Im) : List Value := [.int .i64 i.1, .int .u64 i.2.1, .string i.2.2]
theorem encM_len (i : Im) : (encM i).length = 3 := rfl
theorem encM_ones {l : List Im} : ∀ u ∈ flat encM l, Go.Sh.one u = true := fun u hu => by
  obtain ⟨s, _, hs⟩ := List.mem_flatMap.1 hu
  simp only [encM, List.mem_cons, List.not_mem_nil, or_false] at hs
  rcases hs with rfl | rfl | rfl <;> rfl
abbrev encE (e : Ev) : List Value := [.int .i64 e.kind, .int .i64 e.node, .int .u64 e.epoch, .int .u64 e.lsn, e.rv, e.wv]
theorem encE_len (e : Ev) : (encE e).length = 6 := rfl
abbrev tIm : TypeId := 69
abbrev tEv : TypeId := 66
abbrev tAr : TypeId := 75
/-- An event's images lie in memory. -/
structure EvR (w : World) (e : Ev) : Prop where
  r : Rd 3 w e.rv e.rd.length (flat encM e.rd)
  q : Rd 3 w e.wv e.wr.length (flat encM e.wr)
  lr : e.rd.length ≤ 100
  lw : e.wr.length ≤ 100
  ep : 0 ≤ e.epoch ∧ e.epoch ≤ 18446744073709551615
  ls : 0 ≤ e.lsn ∧ e.lsn ≤ 18446744073709551615
  wf : ∀ i ∈ e.wr, (Lit.int .i64 i.1).wf = true ∧ i.2.2.size ≤ 1000000
section
variable {w w' : World} {Q : Value → World → Prop} {e : Ev} {A : Ar} {m B : Nat}
theorem EvR.keep0 (h : EvR w e) (k : K0 w w') : EvR w' e := { h with r := h.r.keep0 k, q := h.q.keep0 k }
theorem EvR.ones (h : EvR w e) : Go.Sh.one e.rv = true ∧ Go.Sh.one e.wv = true := by
  obtain ⟨a, c, e1⟩ := h.r.form
  obtain ⟨a', c', e2⟩ := h.q.form
  exact ⟨by rw [e1]; rfl, by rw [e2]; rfl⟩
theorem encE_ones {l : List Ev} (h : ∀ e ∈ l, EvR w e) : ∀ u ∈ flat encE l, Go.Sh.one u = true := fun u hu => by
  obtain ⟨s, hs, hu⟩ := List.mem_flatMap.1 hu
  simp only [encE, List.mem_cons, List.not_mem_nil, or_false] at hu
  have := (h s hs).ones
  rcases hu with rfl | rfl | rfl | rfl | rfl | rfl
  · rfl
  · rfl
  · rfl
  · rfl
  · exact this.1
  · exact this.2
/-- A row is read where a map alone turns. -/
theorem Rd.keepM {z n : Nat} {v : Value} {xs : List Value} {l : List (Value × Value)} (h : Rd z w v n xs) (hm : Sh.mp w m = some l) (k : Keep (fun b => b = m) w w') : Rd z w' v n xs := by
  rcases Nat.eq_zero_or_pos (n * z) with h0 | h0
  · obtain ⟨a, c, e⟩ := h.form
    rcases h.2 with ⟨h1, h2⟩ | ⟨b, o, c', h1, h2, h3⟩
    · exact ⟨h.1, .inl ⟨h1, h2⟩⟩
    · exact ⟨h.1, .inr ⟨b, o, c', h1, h2, fun j hj => by omega⟩⟩
  · rcases h.2 with ⟨h1, h2⟩ | ⟨b, o, c', h1, h2, h3⟩
    · rw [h1] at h0; omega
    · refine ⟨h.1, .inr ⟨b, o, c', h1, h2, fun j hj => ?_⟩⟩
      have hl := h.1
      have hc := h3 j hj
      rw [List.getElem?_eq_getElem (by omega)] at hc ⊢
      refine k.cel hc fun e => ?_
      have e : b = m := e
      subst e
      simp only [Sh.mp, kvO] at hm
      simp only [Sh.cel, celO] at hc
      cases hb : Sh.blk w b with
      | none => rw [hb] at hm; cases hm
      | some ob => rw [hb] at hm hc; cases ob <;> first | (simp at hm; done) | (simp at hc; done)
theorem EvR.keepM {l : List (Value × Value)} (h : EvR w e) (hm : Sh.mp w m = some l) (k : Keep (fun b => b = m) w w') : EvR w' e := { h with r := Rd.keepM h.r hm k, q := Rd.keepM h.q hm k }
theorem ims_at {b o : Nat} {L : List Im} (hc : ∀ j, j < L.length * 3 → Sh.cel w b (o + j) = (flat encM L)[j]?) {i : Nat} {p : Im} (h : L[i]? = some p) :
    Sh.cel w b (o + i * 3) = some (.int .i64 p.1) ∧ Sh.cel w b (o + i * 3 + 1) = some (.int .u64 p.2.1) ∧ Sh.cel w b (o + i * 3 + 2) = some (.string p.2.2) := by
  have hi := (List.getElem?_eq_some_iff.1 h).1
  refine ⟨?_, ?_, ?_⟩
  · rw [hc _ (by omega)]; exact flat_get (enc := encM) encM_len h (j := 0) (by omega)
  · rw [Nat.add_assoc, hc _ (by omega)]; exact flat_get (enc := encM) encM_len h (j := 1) (by omega)
  · rw [Nat.add_assoc, hc _ (by omega)]; exact flat_get (enc := encM) encM_len h (j := 2) (by omega)
theorem evs_at {b o : Nat} {L : List Ev} (hc : ∀ j, j < L.length * 6 → Sh.cel w b (o + j) = (flat encE L)[j]?) {i : Nat} {p : Ev} (h : L[i]? = some p) :
    Sh.cel w b (o + i * 6) = some (.int .i64 p.kind) ∧ Sh.cel w b (o + i * 6 + 1) = some (.int .i64 p.node) ∧ Sh.cel w b (o + i * 6 + 2) = some (.int .u64 p.epoch) ∧ Sh.cel w b (o + i * 6 + 3) = some (.int .u64 p.lsn) ∧ Sh.cel w b (o + i * 6 + 4) = some p.rv ∧ Sh.cel w b (o + i * 6 + 5) = some p.wv := by
  have hi := (List.getElem?_eq_some_iff.1 h).1
  have g : ∀ j, j < 6 → Sh.cel w b (o + i * 6 + j) = (encE p)[j]? := fun j hj => by
    rw [Nat.add_assoc, hc _ (by omega)]
    exact flat_get (enc := encE) encE_len h (by omega)
  exact ⟨g 0 (by omega), g 1 (by omega), g 2 (by omega), g 3 (by omega), g 4 (by omega), g 5 (by omega)⟩
/-! ### arrays -/
def kvP (p : Int × ByteArray) : Value × Value := (.int .i64 p.1, .string p.2)
structure AM (w : World) (m : Nat) (A : Ar) : Prop where
  mp : Sh.mp w m = some (A.map kvP)
  st : Go.Sh.stp w m
theorem aget_ar (x : Int) : ∀ A : Ar, aget (.int .i64 x) (A.map kvP) = (arGet x A).map .string
  | [] => rfl
  | p :: A => by
    by_cases h : x = p.1
    · simp [aget, arGet, kvP, h]
    · have : (Value.int .i64 x) ≠ .int .i64 p.1 := fun e => h (by injection e)
      simp only [List.map_cons, kvP, aget, arGet, if_neg h, if_neg this]
      exact aget_ar x A
theorem aput_ar (x : Int) (v : ByteArray) : ∀ A : Ar, aput (.int .i64 x) (.string v) (A.map kvP) = (arPut x v A).map kvP
  | [] => rfl
  | p :: A => by
    by_cases h : x = p.1
    · simp [aput, arPut, kvP, h]
    · have : (Value.int .i64 x) ≠ .int .i64 p.1 := fun e => h (by injection e)
      simp only [List.map_cons, kvP, aput, arPut, if_neg h, if_neg this, List.map_cons]
      exact congrArg _ (aput_ar x v A)
theorem kv_ok (A : Ar) : okKeys isI64 (A.map kvP) := fun p hp => by obtain ⟨q, _, rfl⟩ := List.mem_map.1 hp; exact ⟨_, rfl⟩
theorem AM.keep {F : Nat → Prop} (h : AM w m A) (k : Keep F w w') (hn : ¬ F m) : AM w' m A := by
  have hb : Sh.blk w' m = Sh.blk w m := k.block m (mp_lt h.mp) hn
  refine ⟨by rw [Sh.mp, hb]; exact h.mp, ?_⟩
  obtain ⟨es, cl, h1, h2⟩ := h.st
  exact ⟨es, cl, by rw [hb]; exact h1, h2⟩
theorem AM.keep0 (h : AM w m A) (k : K0 w w') : AM w' m A := h.keep k id
theorem AM.new : AM (w.alloc (.map #[] 0)) (siz w) [] := by
  refine ⟨by rw [Sh.mp, blk_alloc_new]; rfl, #[], 0, blk_alloc_new, ?_⟩
  exact ⟨fun x hx => by simp at hx, by simp, by simp⟩
def zeros (n : Nat) : ByteArray := ⟨(Lib.repeatL [0] n).toArray⟩
theorem zeros_size (n : Nat) : (zeros n).size = n := by
  have := Lib.repeatL_length [0] n
  show (Lib.repeatL [0] n).toArray.size = n
  rw [List.size_toArray, this]; simp
abbrev Z96 : ByteArray := zeros 96
theorem k0_below (h : RowKit.Below w.heap.size w w') : K0 w w' := ⟨h.os, h.tape, h.output, h.size, fun b hb _ => h.block b hb⟩
theorem repeat0_c {n : Nat} (hn : n ≤ 1000000) (hq : ∀ w', K0 w w' → Q (.string (zeros n)) w') : callS Tryz.prog 136 #[.string ⟨#[0]⟩, .int .i64 (n : Int)] Q w := by
  have X : Builder.Extra Tryz.prog YtmmnifbponhhfaaGreatT.repeatS_ren := { sizeBuilder := by kernel_rfl, liesBuilder := by kernel_rfl, t5 := by kernel_rfl, a5 := fun w => Tryz.isAgg5 w, z5 := fun w => Tryz.sizeOf5 w, v5 := fun w => Tryz.zeroValue5 w, infoByte := by kernel_rfl, cellsByte := by kernel_rfl, sizeByte := by kernel_rfl, neB5 := by decide }
  refine ⟨fun a w => Tryz.call136 a w, (Any.strings_Repeat YtmmnifbponhhfaaGreatT.repeatS X ⟨#[0]⟩ n w (by omega) (by show 1 * n ≤ _; omega)).mono fun e w' hb => ⟨_, hb.1, ?_⟩⟩
  exact hq w' (k0_below hb.2)
theorem hzero_c (hq : ∀ w', K0 w w' → Q (.string Z96) w') : callS Tryz.prog 100 #[] Q w := by
  refine ref100 ?_
  unfold S100
  refine repeat0_c (n := 96) (by omega) fun w1 k1 => ?_
  try simp only [stp, Nat.reduceAdd, Int.reduceLT, Int.reduceLE, Int.reduceEq, Int.reduceNe, ne_eq, bne_self_eq_false, beq_self_eq_true]
  exact hq _ k1
theorem callF_cap {P : Program} {g : FuncId} {x t : Value} {k : Value → World → Prop} : callF P (.func (.func g) #[] #[t]) #[x] k w = callS P g #[x, t] k w := by
  simp [callF]
theorem callF_cap2 {P : Program} {g : FuncId} {x t u : Value} {k : Value → World → Prop} : callF P (.func (.func g) #[] #[t, u]) #[x] k w = callS P g #[x, t, u] k w := by
  simp [callF]
end
section
theorem im_at {b o : Nat} {w : World} {l : List Im} (hc : ∀ j, j < l.length * 3 → cel w b (o + j) = (flat encM l)[j]?) {i : Nat} {p : Im} (h : l[i]? = some p) :
    cel w b (o + i * 3) = some (.int .i64 p.1) ∧ cel w b (o + i * 3 + 1) = some (.int .u64 p.2.1) ∧ cel w b (o + i * 3 + 2) = some (.string p.2.2) := by
  have hi := (List.getElem?_eq_some_iff.1 h).1
  have hb : (i + 1) * 3 ≤ l.length * 3 := Nat.mul_le_mul_right _ hi
  have g : ∀ j, j < 3 → cel w b (o + i * 3 + j) = (encM p)[j]? := fun j hj => by
    rw [Nat.add_assoc, hc _ (by omega)]
    exact flat_get (enc := encM) encM_len h (by omega)
  exact ⟨g 0 (by omega), g 1 (by omega), g 2 (by omega)⟩
theorem im_index {f v : Value} {l : List Im} {P : Im → Prop} [DecidablePred P] {F : Nat → Prop} {w : World} {Q : Value → World → Prop} (h : Rd 3 w v l.length (flat encM l)) (hl : l.length ≤ 1000000)
    (hp : ∀ w1 s (Q : Value → World → Prop), K0 w w1 → s ∈ l → (∀ w2, K0 w1 w2 → Q (.bool (decide (P s))) w2) → callF Tryz.prog f #[.agg #[.int .i64 s.1, .int .u64 s.2.1, .string s.2.2]] Q w1)
    (hq1 : ∀ w', K0 w w' → (∀ s ∈ l, ¬ P s) → Q (.int .i64 (-1)) w')
    (hq2 : ∀ w' (i : Nat) s, K0 w w' → l[i]? = some s → P s → (∀ s ∈ l.take i, ¬ P s) → Q (.int .i64 (i : Int)) w') :
    callS Tryz.prog 135 #[v, f] Q w := by
  refine ref135 ?_
  unfold S135
  obtain ⟨a, c, rfl⟩ := h.form
  simp only [stp, Nat.reduceAdd, Int.reduceLT, Int.reduceLE, Int.reduceEq, Int.reduceNe, ne_eq, bne_self_eq_false, beq_self_eq_true]
  refine lp1 (fun m x w' => K0 w w' ∧ ∃ i : Nat, x = .int .i64 (i : Int) ∧ i ≤ l.length ∧ m = l.length - i ∧ ∀ s ∈ l.take i, ¬ P s) l.length ⟨Keep.refl _ _, 0, rfl, Nat.zero_le _, by omega, by simp⟩ ?_
  rintro m x w' ⟨k, i, rfl, hi, rfl, hok⟩ J hJ _
  by_cases hlt : i < l.length
  · have hlt' : ((i : Int) < (l.length : Int)) := by omega
    obtain ⟨b, o, c', e, hc', hcel⟩ := (h.keep0 k).at (by omega)
    injection e with e1 _ e2
    subst e1 e2
    have hs : l[i]? = some l[i] := List.getElem?_eq_getElem hlt
    obtain ⟨c0, c1, c2⟩ := im_at hcel hs
    simp only [stp, Nat.reduceAdd, Int.reduceLT, Int.reduceLE, Int.reduceEq, Int.reduceNe, ne_eq, bne_self_eq_false, beq_self_eq_true, hlt']
    rw [ix_53 hlt]
    simp only [stp, Nat.reduceAdd, Int.reduceLT, Int.reduceLE, Int.reduceEq, Int.reduceNe, ne_eq, bne_self_eq_false, beq_self_eq_true, stm, c0, c1, c2]
    refine hp _ _ _ k (List.getElem_mem hlt) fun w2 g2 => ?_
    have hw := wrap_succ (i := i) (by omega)
    by_cases h0 : P l[i]
    · simp only [stp, Nat.reduceAdd, Int.reduceLT, Int.reduceLE, Int.reduceEq, Int.reduceNe, ne_eq, bne_self_eq_false, beq_self_eq_true, h0, hw]
      exact hq2 _ i _ (k.trans g2) hs h0 hok
    · simp only [stp, Nat.reduceAdd, Int.reduceLT, Int.reduceLE, Int.reduceEq, Int.reduceNe, ne_eq, bne_self_eq_false, beq_self_eq_true, h0, hw]
      refine hJ (l.length - (i + 1)) _ _ (by omega) ⟨k.trans g2, i + 1, rfl, by omega, rfl, fun s hm => ?_⟩
      rw [List.take_add_one, hs] at hm
      rcases List.mem_append.1 hm with hm | hm
      · exact hok s hm
      · simp at hm; subst hm; exact h0
  · have hlt' : ¬ ((i : Int) < (l.length : Int)) := by omega
    simp only [stp, Nat.reduceAdd, Int.reduceLT, Int.reduceLE, Int.reduceEq, Int.reduceNe, ne_eq, bne_self_eq_false, beq_self_eq_true, hlt']
    refine hq1 _ k fun s hs => hok s ?_
    rw [List.take_of_length_le (by omega)]; exact hs
end
section
variable {w w' : World} {Q : Value → World → Prop} {e : Ev} {A : Ar} {m B : Nat} {v : Value} {l : List Im}
theorem areads_c (ha : AM w m A) (hr : Rd 3 w v l.length (flat encM l)) (hl : l.length ≤ 100) (hq : ∀ w', K0 w w' → Q (.bool (readsF Z96 A l)) w') :
    callS Tryz.prog 24 #[.map (some m), v] Q w := by
  refine ref24 ?_
  unfold S24
  rw [act_box]
  have k1 := (K0.refl w).alloc (.cells (Value.map (some m)).cells tAr)
  have b1 : Sh.cel (w.alloc (.cells (Value.map (some m)).cells tAr)) (siz w) 0 = some (.map (some m)) := cel_alloc_new
  generalize w.alloc (.cells (Value.map (some m)).cells tAr) = w1 at k1 b1
  generalize siz w = bx at b1
  rw [pur_pure]
  refine ref98 ?_
  unfold S98
  have hone : ∀ w2 (s : Im) (Q : Value → World → Prop), K0 w1 w2 → s ∈ l → (∀ w3, K0 w2 w3 → Q (.bool (decide (¬ (arGet s.1 A).getD Z96 = s.2.2))) w3) → callF Tryz.prog (.func (.func 99) #[] #[.pointer (some ⟨bx, 0, none⟩)]) #[.agg #[.int .i64 s.1, .int .u64 s.2.1, .string s.2.2]] Q w2 := fun w2 s Q k2 _ hQ => by
    rw [callF_cap]
    refine ref99 ?_
    unfold S99
    have b2 := k2.cel b1 id
    rw [act_box]
    have k3 := (K0.refl w2).alloc (.cells (Value.agg #[.int .i64 s.1, .int .u64 s.2.1, .string s.2.2]).cells tIm)
    have x0 : Sh.cel (w2.alloc (.cells (Value.agg #[.int .i64 s.1, .int .u64 s.2.1, .string s.2.2]).cells tIm)) (siz w2) 0 = some (.int .i64 s.1) := cel_alloc_new
    have x2 : Sh.cel (w2.alloc (.cells (Value.agg #[.int .i64 s.1, .int .u64 s.2.1, .string s.2.2]).cells tIm)) (siz w2) 2 = some (.string s.2.2) := cel_alloc_new
    generalize w2.alloc (.cells (Value.agg #[.int .i64 s.1, .int .u64 s.2.1, .string s.2.2]).cells tIm) = w3 at k3 x0 x2
    generalize siz w2 = by2 at x0 x2
    have b3 := k3.cel b2 id
    have a3 := ((ha.keep0 k1).keep0 k2).keep0 k3
    simp only [stp, Nat.reduceAdd, Int.reduceLT, Int.reduceLE, Int.reduceEq, Int.reduceNe, ne_eq, bne_self_eq_false, beq_self_eq_true, stm, b3, x0, Option.isSome_some, Option.getD_some]
    rw [rd_eq (lu_75 a3.mp (kv_ok A) ⟨_, rfl⟩ true), aget_ar]
    cases hg : arGet s.1 A with
    | none =>
      simp only [if_true, stp, Nat.reduceAdd, Int.reduceLT, Int.reduceLE, Int.reduceEq, Int.reduceNe, ne_eq, bne_self_eq_false, beq_self_eq_true, stm, Option.map_none, Option.getD_none, Option.isSome_none]
      refine jn1 (fun x w4 => x = .string Z96 ∧ K0 w3 w4) (fun J hJ => ?_) ?_
      · try simp only [stp, Nat.reduceAdd, Int.reduceLT, Int.reduceLE, Int.reduceEq, Int.reduceNe, ne_eq, bne_self_eq_false, beq_self_eq_true, stm]
        exact hzero_c fun w4 k4 => by
          try simp only [stp, Nat.reduceAdd, Int.reduceLT, Int.reduceLE, Int.reduceEq, Int.reduceNe, ne_eq, bne_self_eq_false, beq_self_eq_true, stm]
          exact hJ _ _ ⟨rfl, k4⟩
      · rintro x w4 ⟨rfl, k4⟩ _j
        have x24 := k4.cel x2 id
        simp only [stp, Nat.reduceAdd, Int.reduceLT, Int.reduceLE, Int.reduceEq, Int.reduceNe, ne_eq, bne_self_eq_false, beq_self_eq_true, stm, x24, Option.isSome_some, Option.getD_some]
        have := hQ w4 (k3.trans k4)
        rw [hg] at this
        simpa only [Option.getD_none, ne_eq] using this
    | some d =>
      simp only [if_true, stp, Nat.reduceAdd, Int.reduceLT, Int.reduceLE, Int.reduceEq, Int.reduceNe, ne_eq, bne_self_eq_false, beq_self_eq_true, stm, Option.map_some, Option.getD_some, Option.isSome_some]
      refine jn1 (fun x w4 => x = .string d ∧ w4 = w3) (fun J hJ => ?_) ?_
      · try simp only [stp, Nat.reduceAdd, Int.reduceLT, Int.reduceLE, Int.reduceEq, Int.reduceNe, ne_eq, bne_self_eq_false, beq_self_eq_true, stm]
        exact hJ _ _ ⟨rfl, rfl⟩
      · rintro x w4 ⟨rfl, rfl⟩ _j
        simp only [stp, Nat.reduceAdd, Int.reduceLT, Int.reduceLE, Int.reduceEq, Int.reduceNe, ne_eq, bne_self_eq_false, beq_self_eq_true, stm, x2, Option.isSome_some, Option.getD_some]
        have := hQ w4 k3
        rw [hg] at this
        simpa only [Option.getD_some, ne_eq] using this
  refine im_index (P := fun s : Im => ¬ (arGet s.1 A).getD Z96 = s.2.2) (F := fun _ => False) (hr.keep0 k1) (by omega) hone (fun w2 k2 hok => ?_) (fun w2 i s k2 hs hns _ => ?_)
  · simp only [stp, Nat.reduceAdd, Int.reduceLT, Int.reduceLE, Int.reduceEq, Int.reduceNe, ne_eq, bne_self_eq_false, beq_self_eq_true]
    have e : readsF Z96 A l = true := List.all_eq_true.2 fun i hi => decide_eq_true (Classical.not_not.1 (hok i hi))
    have := hq w2 (k1.trans k2)
    rw [e] at this
    exact this
  · have hge : (0 : Int) ≤ (i : Int) := by omega
    simp only [stp, Nat.reduceAdd, Int.reduceLT, Int.reduceLE, Int.reduceEq, Int.reduceNe, ne_eq, bne_self_eq_false, beq_self_eq_true, hge, decide_true]
    have e : readsF Z96 A l = false := by
      rw [← Bool.not_eq_true]
      intro h
      exact hns (readsF_take h s (List.mem_of_getElem? hs))
    have := hq w2 (k1.trans k2)
    rw [e] at this
    exact this
theorem awrite_c (ha : AM w m A) (hr : Rd 3 w v l.length (flat encM l)) (hl : l.length ≤ 100) (hq : ∀ w', AM w' m (writeF A l) → Keep (fun b => b = m) w w' → Q (.tuple #[]) w') :
    callS Tryz.prog 25 #[.map (some m), v] Q w := by
  refine ref25 ?_
  unfold S25
  obtain ⟨pa, ca, rfl⟩ := hr.form
  simp only [stp, Nat.reduceAdd, Int.reduceLT, Int.reduceLE, Int.reduceEq, Int.reduceNe, ne_eq, bne_self_eq_false, beq_self_eq_true]
  refine lpc1 l.length (by omega) (fun i w' => AM w' m (writeF A (l.take i)) ∧ Keep (fun b => b = m) w w') ⟨ha, Keep.refl _ _⟩ (fun i w1 hi ⟨a1, k1⟩ J hJ => ?_) (fun w1 ⟨a1, k1⟩ J => ?_)
  · intro _j
    have hi' : ((i : Int) < (l.length : Int)) := by omega
    obtain ⟨g, o, c, e, _, hc⟩ := (Rd.keepM hr ha.mp k1).at (by omega)
    injection e with e1 _ e2
    subst e1 e2
    obtain ⟨p0, p1, p2⟩ := ims_at hc (List.getElem?_eq_getElem hi)
    simp only [stp, Nat.reduceAdd, Int.reduceLT, Int.reduceLE, Int.reduceEq, Int.reduceNe, ne_eq, bne_self_eq_false, beq_self_eq_true, hi']
    rw [ix_53 hi]
    simp only [stp, Nat.reduceAdd, Int.reduceLT, Int.reduceLE, Int.reduceEq, Int.reduceNe, ne_eq, bne_self_eq_false, beq_self_eq_true, stm, p0, p1, p2, Option.isSome_some, Option.getD_some]
    have k2 := (K0.refl w1).alloc (.cells #[.int .i64 l[i].1, .int .u64 l[i].2.1, .string l[i].2.2] tIm)
    have x0 : Sh.cel (w1.alloc (.cells #[.int .i64 l[i].1, .int .u64 l[i].2.1, .string l[i].2.2] tIm)) (siz w1) 0 = some (.int .i64 l[i].1) := cel_alloc_new
    have x2 : Sh.cel (w1.alloc (.cells #[.int .i64 l[i].1, .int .u64 l[i].2.1, .string l[i].2.2] tIm)) (siz w1) 2 = some (.string l[i].2.2) := cel_alloc_new
    generalize w1.alloc (.cells #[.int .i64 l[i].1, .int .u64 l[i].2.1, .string l[i].2.2] tIm) = w2 at k2 x0 x2
    generalize siz w1 = by2 at x0 x2
    have a2 := a1.keep0 k2
    try simp only [stp, Nat.reduceAdd, Int.reduceLT, Int.reduceLE, Int.reduceEq, Int.reduceNe, ne_eq, bne_self_eq_false, beq_self_eq_true, stm, x0, x2, Option.isSome_some, Option.getD_some]
    refine act_mapUpdateS ky_3 (fun w => Tryz.runUnderlying75 w) a2.mp (kv_ok _) ⟨_, rfl⟩ fun w3 hw3 hs3 => ?_
    try simp only [stp, Nat.reduceAdd, Int.reduceLT, Int.reduceLE, Int.reduceEq, Int.reduceNe, ne_eq, bne_self_eq_false, beq_self_eq_true]
    have ht : l.take (i + 1) = l.take i ++ [l[i]] := by rw [List.take_add_one, List.getElem?_eq_getElem hi]; rfl
    refine hJ _ ⟨?_, (k1.trans k2.none).trans hw3.keep⟩
    rw [ht, writeF_snoc]
    exact ⟨by rw [hw3.map, aput_ar], hs3 a2.st⟩
  · intro _j
    have hi' : ¬ ((l.length : Int) < (l.length : Int)) := by omega
    simp only [stp, Nat.reduceAdd, Int.reduceLT, Int.reduceLE, Int.reduceEq, Int.reduceNe, ne_eq, bne_self_eq_false, beq_self_eq_true, hi']
    rw [List.take_length] at a1
    exact hq w1 a1 k1
end
end Go.Proofs.YtmmnifbponhhfaaGreatT
