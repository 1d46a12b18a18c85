/- What TxReads computes: true. Conditions: none. -/
import Derived.Test.YtdnbegjamoeahaaGreatUTxR
set_option linter.unusedSimpArgs false
set_option linter.unusedVariables false
namespace Go.Proofs.YtdnbegjamoeahaaGreatU
open Go.Sh Go.Proofs.YtdnbegjamoeahaaGreatU.Mi
set_option maxRecDepth 100000
section
variable {w w' : World} {Q : Value → World → Prop} {B t m a b : Nat} {s : TS}
theorem op_at {v : Value} {L : List OpT} {i : Nat} (h : Rd 3 w v L.length (flat encO L)) (hi : i < L.length) : ∃ g o c, v = .slice (some ⟨g, o, none⟩) L.length c ∧
    Sh.cel w g (o + i * 3) = some (.int .i64 L[i].1) ∧ Sh.cel w g (o + i * 3 + 1) = some (.int .i64 L[i].2.1) ∧ Sh.cel w g (o + i * 3 + 2) = some (.string L[i].2.2) := by
  obtain ⟨g, o, c, e, _, hc⟩ := h.at (by omega)
  have hL := List.getElem?_eq_getElem hi
  have get : ∀ k, k < 3 → (flat encO L)[i * 3 + k]? = (encO L[i])[k]? := fun k hk => flat_get encO_len hL hk
  exact ⟨g, o, c, e, by rw [hc _ (by omega), ← Nat.add_zero (i * 3), get 0 (by omega)]; rfl, by rw [Nat.add_assoc, hc _ (by omega), get 1 (by omega)]; rfl, by rw [Nat.add_assoc, hc _ (by omega), get 2 (by omega)]; rfl⟩
/-- What stands behind i operations. -/
structure RI (u : World) (B t : Nat) (block : Int) (l : List (Pt Int)) (i : Nat) (wrote read : ByteArray) (bw br : Bool) (wr rd : List (Int × ByteArray)) : Prop where
  tx : TX u B t ⟨shp, l, wr, rd⟩
  hw : lkp block wr = if bw then some (padF wrote) else none
  hs : bw = true → wrote.size ≤ 96
  hr : lkp block rd = if br then some read else none
  wl : wr.length ≤ i
  rl : rd.length ≤ i
  rw : ∀ p ∈ rd, (Lit.int .i64 p.1).wf = true
theorem wrC_small {s : TS} {x : Int} {d : ByteArray} (h : wrC s x d = 0) : d.size ≤ 96 := by
  unfold wrC at h
  split at h
  · cases h
  · split at h
    · cases h
    · omega
theorem puA_le (x : Int) (v : ByteArray) (l : List (Int × ByteArray)) : (puA x v l).length ≤ l.length + 1 := by
  rw [puA_len]; split <;> omega
theorem mem_puA' {x : Int} {v : ByteArray} {p : Int × ByteArray} : ∀ {l : List (Int × ByteArray)}, p ∈ puA x v l → p = (x, v) ∨ p ∈ l
  | [], h => by simp [puA] at h; exact .inl h
  | q :: l, h => by
    by_cases e : q.1 = x
    · simp only [puA, e, if_true, List.mem_cons] at h
      rcases h with h | h
      · exact .inl h
      · exact .inr (List.mem_cons_of_mem _ h)
    · simp only [puA, e, if_false, List.mem_cons] at h
      rcases h with h | h
      · exact .inr (by rw [h]; exact List.mem_cons_self)
      · rcases mem_puA' h with h | h
        · exact .inl h
        · exact .inr (List.mem_cons_of_mem _ h)
theorem RI.mark {u u1 : World} {block x : Int} {l : List (Pt Int)} {i : Nat} {wrote read d : ByteArray} {bw br : Bool} {wr rd : List (Int × ByteArray)} (h : RI u B t block l i wrote read bw br wr rd) (hx : (Lit.int .i64 x).wf = true)
    (h1 : TX u1 B t (rdS ⟨shp, l, wr, rd⟩ x d)) : ∃ rd', RI u1 B t block l (i + 1) wrote (if x = block ∧ br = false then d else read) bw (br || decide (x = block)) wr rd' := by
  have hr := h.hr
  have hl := h.rl
  have hwl := h.wl
  unfold rdS at h1
  by_cases hs : (lkp x rd).isSome = true
  · have e : (if (lkp x (TS.rd ⟨shp, l, wr, rd⟩)).isSome = true then (⟨shp, l, wr, rd⟩ : TS) else ⟨shp, l, wr, puA x d rd⟩) = ⟨shp, l, wr, rd⟩ := if_pos hs
    have h1 : TX u1 B t ⟨shp, l, wr, rd⟩ := by rw [← e]; exact h1
    refine ⟨rd, h1, h.hw, h.hs, ?_, by omega, by omega, h.rw⟩
    by_cases hb : x = block
    · subst hb
      cases br with
      | true => simpa using hr
      | false => rw [hr] at hs; simp at hs
    · simp [hb]; simpa using hr
  · have e : (if (lkp x (TS.rd ⟨shp, l, wr, rd⟩)).isSome = true then (⟨shp, l, wr, rd⟩ : TS) else ⟨shp, l, wr, puA x d rd⟩) = ⟨shp, l, wr, puA x d rd⟩ := if_neg hs
    have h1 : TX u1 B t ⟨shp, l, wr, puA x d rd⟩ := by rw [← e]; exact h1
    refine ⟨puA x d rd, h1, h.hw, h.hs, ?_, by omega, by have := puA_le x d rd; omega, fun p hp => ?_⟩
    · rw [lkp_puA]
      by_cases hb : x = block
      · subst hb
        cases br with
        | true => rw [hr] at hs; simp at hs
        | false => simp
      · have hb' : ¬ block = x := fun e => hb e.symm
        rw [if_neg hb']; simp [hb]; simpa using hr
    · rcases mem_puA' hp with rfl | hp
      · exact hx
      · exact h.rw p hp
theorem RI.write {u u1 : World} {block x : Int} {l : List (Pt Int)} {i : Nat} {wrote read d : ByteArray} {bw br : Bool} {wr rd : List (Int × ByteArray)} (h : RI u B t block l i wrote read bw br wr rd)
    (h1 : TX u1 B t (wrS ⟨shp, l, wr, rd⟩ x d)) : ∃ wr', RI u1 B t block l (i + 1) (if wrC ⟨shp, l, wr, rd⟩ x d = 0 ∧ x = block then d else wrote) read (bw || decide (wrC ⟨shp, l, wr, rd⟩ x d = 0 ∧ x = block)) br wr' rd := by
  have hw := h.hw
  have hl := h.rl
  have hwl := h.wl
  unfold wrS at h1
  by_cases hs : wrC ⟨shp, l, wr, rd⟩ x d = 0
  · rw [if_pos hs] at h1
    have h1 : TX u1 B t ⟨shp, l, puA x (padF d) wr, rd⟩ := h1
    refine ⟨puA x (padF d) wr, h1, ?_, fun hbw => ?_, h.hr, by have := puA_le x (padF d) wr; omega, by omega, h.rw⟩
    · rw [lkp_puA]
      by_cases hb : x = block
      · subst hb; simp [hs]
      · have hb' : ¬ block = x := fun e => hb e.symm
        rw [if_neg hb']; simp [hb]; simpa using hw
    · by_cases hb : x = block
      · rw [if_pos ⟨hs, hb⟩]; exact wrC_small hs
      · rw [if_neg (fun e => hb e.2)]
        exact h.hs (by simpa [hb] using hbw)
  · rw [if_neg hs] at h1
    refine ⟨wr, h1, ?_, fun hbw => ?_, h.hr, by omega, by omega, h.rw⟩
    · simp [hs]; simpa using hw
    · rw [if_neg (fun e => hs e.1)]
      exact h.hs (by simpa [hs] using hbw)
theorem txreads_law {v : Value} {L : List OpT} {block : Int} (hL : Rd 3 w v L.length (flat encO L)) (_ : L.length ≤ maxLen) (hg : ∀ o ∈ L, goodO o) (_ : (Lit.int .i64 block).wf = true)
    (hq : ∀ w', Keep (fun b => siz w ≤ b) w w' → Q (.bool true) w') : callS Tryz.prog 9 #[v, .int .i64 block] Q w := by
  refine ref9 ?_
  unfold S9
  have hA : ∀ {w1 : World}, K0 w w1 → callS Tryz.prog 94 #[] (fun t35 w_21 => Q t35 w_21) w1 := fun k1 => alive_c fun w2 k2 => hq _ (k1.trans k2).new
  obtain ⟨pa, ca, rfl⟩ := hL.form
  by_cases g1 : (40 : Int) < (L.length : Int)
  · simp only [stp, Nat.reduceAdd, Int.reduceLT, Int.reduceLE, Int.reduceEq, Int.reduceNe, ne_eq, bne_self_eq_false, beq_self_eq_true, g1]
    exact hA (K0.refl w)
  by_cases g2 : block < 0
  · simp only [stp, Nat.reduceAdd, Int.reduceLT, Int.reduceLE, Int.reduceEq, Int.reduceNe, ne_eq, bne_self_eq_false, beq_self_eq_true, g1, g2]
    exact hA (K0.refl w)
  by_cases g3 : 9 < block
  · simp only [stp, Nat.reduceAdd, Int.reduceLT, Int.reduceLE, Int.reduceEq, Int.reduceNe, ne_eq, bne_self_eq_false, beq_self_eq_true, g1, g2, g3]
    exact hA (K0.refl w)
  simp only [stp, Nat.reduceAdd, Int.reduceLT, Int.reduceLE, Int.reduceEq, Int.reduceNe, ne_eq, bne_self_eq_false, beq_self_eq_true, g1, g2, g3]
  refine shape_c fun w3 kF => ?_
  try simp only [stp, Nat.reduceAdd, Int.reduceLT, Int.reduceLE, Int.reduceEq, Int.reduceNe, ne_eq, bne_self_eq_false, beq_self_eq_true]
  have k2 := (K0.refl w3).alloc (.cells #[.int .i64 0, .int .i64 10, .int .i64 2] 148)
  have r2 : Rd 3 (w3.alloc (.cells #[.int .i64 0, .int .i64 10, .int .i64 2] 148)) (.slice (some ⟨siz w3, 0, none⟩) 1 1) [((0, 10, 2) : I3)].length (flat enc3 [((0, 10, 2) : I3)]) :=
    ⟨rfl, .inr ⟨siz w3, 0, 1, rfl, by simp, fun j hj => by rw [Nat.zero_add, cel_alloc_new, List.getElem?_toArray]; rfl⟩⟩
  generalize w3.alloc (.cells #[.int .i64 0, .int .i64 10, .int .i64 2] 148) = w4 at k2 r2
  have hck : ∀ e, CkIs shp [((0, 10, 2) : I3)] e → e = 0 := fun e he => by
    have hm : ∀ k ∈ [((0, 10, 2) : I3)], mdOk k := fun k hk => by rw [List.mem_singleton.1 hk]; exact .inr rfl
    have hs : ∀ k ∈ [((0, 10, 2) : I3)], spOk shp k := fun k hk => by rw [List.mem_singleton.1 hk]; exact ⟨by decide, by decide⟩
    rcases he with ⟨h, _⟩ | ⟨_, ⟨h, _⟩ | ⟨_, ⟨h, _⟩ | ⟨_, ⟨h, _⟩ | ⟨_, h⟩⟩⟩⟩
    · exact absurd shp_ok h
    · simp at h
    · exact absurd hm h
    · exact absurd hs h
    · exact h
  refine tnew_c (s := shp) r2 (by simp) (fun w5 e he hne _ => absurd (hck e he) hne) fun w5 t l _ ht hvl hll h5 k5 => ?_
  have k04 := kF.trans k2
  have k05 := k04.trans k5
  have hB : siz w ≤ siz w4 := k04.size
  simp only [stp, Nat.reduceAdd, Int.reduceLT, Int.reduceLE, Int.reduceEq, Int.reduceNe, ne_eq, bne_self_eq_false, beq_self_eq_true, stm]
  refine lp5 (fun mm x0 x1 x2 x3 x4 u => ∃ (i : Nat) (wrote read : ByteArray) (bw br : Bool) (wr rd : List (Int × ByteArray)), x0 = .string wrote ∧ x1 = .string read ∧ x2 = .bool bw ∧ x3 = .bool br ∧ x4 = .int .i64 (i : Int) ∧ i ≤ L.length ∧ mm = L.length - i ∧ K0 w u ∧ RI u (siz w4) t block l i wrote read bw br wr rd) L.length
    ⟨0, _, _, _, _, [], [], rfl, rfl, rfl, rfl, rfl, by omega, by omega, k05, ⟨h5, rfl, (fun h => by cases h), rfl, by simp, by simp, by simp⟩⟩ ?_
  rintro mm x0 x1 x2 x3 x4 u ⟨i, wrote, read, bw, br, wr, rd, rfl, rfl, rfl, rfl, rfl, hi, hmm, ku, hR⟩ J hJ _j
  subst hmm
  by_cases hlt : i < L.length
  · have hlt' : (i : Int) < (L.length : Int) := by omega
    have e1 : IntKind.i64.wrap ((i : Int) + 1) = ((i + 1 : Nat) : Int) := wrap_succ (by omega)
    obtain ⟨g, o, c, e, q0, q1, q2⟩ := op_at (hL.keep0 ku) hlt
    injection e with e2 _ e3
    subst e2 e3
    simp only [stp, Nat.reduceAdd, Int.reduceLT, Int.reduceLE, Int.reduceEq, Int.reduceNe, ne_eq, bne_self_eq_false, beq_self_eq_true, stm, hlt']
    refine jn4 (fun y0 y1 y2 y3 u => ∃ (wrote read : ByteArray) (bw br : Bool) (wr rd : List (Int × ByteArray)), y0 = .string wrote ∧ y1 = .string read ∧ y2 = .bool bw ∧ y3 = .bool br ∧ K0 w u ∧ RI u (siz w4) t block l (i + 1) wrote read bw br wr rd) (fun J1 hJ1 => ?_) ?_
    rotate_left
    · rintro y0 y1 y2 y3 u1 ⟨wrote, read, bw, br, wr, rd, rfl, rfl, rfl, rfl, ku1, hR1⟩ _j
      simp only [stp, Nat.reduceAdd, Int.reduceLT, Int.reduceLE, Int.reduceEq, Int.reduceNe, ne_eq, bne_self_eq_false, beq_self_eq_true, stm, e1]
      exact hJ (L.length - (i + 1)) _ _ _ _ _ _ (by omega) ⟨i + 1, _, _, _, _, _, _, rfl, rfl, rfl, rfl, rfl, by omega, rfl, ku1, hR1⟩
    have hgo := hg L[i] (List.getElem_mem hlt)
    simp only [stp, Nat.reduceAdd, Int.reduceLT, Int.reduceLE, Int.reduceEq, Int.reduceNe, ne_eq, bne_self_eq_false, beq_self_eq_true, stm, ix_153 hlt, q2, Option.isSome_some, Option.getD_some]
    by_cases hbig : (300 : Int) < ((L[i].2.2).size : Int)
    · simp only [stp, Nat.reduceAdd, Int.reduceLT, Int.reduceLE, Int.reduceEq, Int.reduceNe, ne_eq, bne_self_eq_false, beq_self_eq_true, stm, hbig]
      exact hA ku
    simp only [stp, Nat.reduceAdd, Int.reduceLT, Int.reduceLE, Int.reduceEq, Int.reduceNe, ne_eq, bne_self_eq_false, beq_self_eq_true, stm, ix_153 hlt, hbig, q0, q1, q2, cel_drew, Option.isSome_some, Option.getD_some]
    have hA1 : L[i].1 = L[i].1 := rfl
    by_cases hk2 : L[i].1 = 2
    · simp only [stp, Nat.reduceAdd, Int.reduceLT, Int.reduceLE, Int.reduceEq, Int.reduceNe, ne_eq, bne_self_eq_false, beq_self_eq_true, stm, ix_153 hlt, hk2, q0, q1, q2, cel_drew, Option.isSome_some, Option.getD_some]
      have kd := (K0.refl u).drew
      refine tmark_c (hR.tx.keep0 kd) (by omega) fun u1 h1 k1 => ?_
      have ku1 := (ku.trans kd).ko k1 hB
      obtain ⟨g', o', c', e', q0', q1', q2'⟩ := op_at (hL.keep0 ku1) hlt
      injection e' with e2' _ e3'
      injection e2' with e2'
      injection e2' with e4 e5
      subst e4 e5
      obtain ⟨rd', hR1⟩ := hR.mark (d := L[i].2.2) hgo.2.1 h1
      by_cases hx : L[i].2.1 = block
      · cases br with
        | true =>
          simp only [stp, Nat.reduceAdd, Int.reduceLT, Int.reduceLE, Int.reduceEq, Int.reduceNe, ne_eq, bne_self_eq_false, beq_self_eq_true, stm, ix_153 hlt, q1', q2', hx, Option.isSome_some, Option.getD_some, Bool.not_true]
          exact hJ1 _ _ _ _ _ ⟨_, _, _, _, _, _, rfl, rfl, rfl, rfl, ku1, by simpa [hx] using hR1⟩
        | false =>
          simp only [stp, Nat.reduceAdd, Int.reduceLT, Int.reduceLE, Int.reduceEq, Int.reduceNe, ne_eq, bne_self_eq_false, beq_self_eq_true, stm, ix_153 hlt, q1', q2', hx, Option.isSome_some, Option.getD_some, Bool.not_false]
          exact hJ1 _ _ _ _ _ ⟨_, _, _, _, _, _, rfl, rfl, rfl, rfl, ku1, by simpa [hx] using hR1⟩
      · simp only [stp, Nat.reduceAdd, Int.reduceLT, Int.reduceLE, Int.reduceEq, Int.reduceNe, ne_eq, bne_self_eq_false, beq_self_eq_true, stm, ix_153 hlt, q1', q2', hx, Option.isSome_some, Option.getD_some]
        exact hJ1 _ _ _ _ _ ⟨_, _, _, _, _, _, rfl, rfl, rfl, rfl, ku1, by simpa [hx] using hR1⟩
    · simp only [stp, Nat.reduceAdd, Int.reduceLT, Int.reduceLE, Int.reduceEq, Int.reduceNe, ne_eq, bne_self_eq_false, beq_self_eq_true, stm, ix_153 hlt, hk2, q0, q1, q2, cel_drew, Option.isSome_some, Option.getD_some]
      have kd := (K0.refl u).drew
      refine twrite_c (hR.tx.keep0 kd) (by omega) (by show wr.length ≤ _; have := hR.wl; omega) fun u1 h1 k1 => ?_
      have ku1 := (ku.trans kd).ko k1 hB
      obtain ⟨g', o', c', e', q0', q1', q2'⟩ := op_at (hL.keep0 ku1) hlt
      injection e' with e2' _ e3'
      injection e2' with e2'
      injection e2' with e4 e5
      subst e4 e5
      obtain ⟨wr', hR1⟩ := hR.write h1
      by_cases hw0 : wrC ⟨shp, l, wr, rd⟩ L[i].2.1 L[i].2.2 = 0
      · by_cases hx : L[i].2.1 = block
        · have hc : wrC ⟨shp, l, wr, rd⟩ L[i].2.1 L[i].2.2 = 0 ∧ L[i].2.1 = block := ⟨hw0, hx⟩
          have hR2 : RI u1 (siz w4) t block l (i + 1) L[i].2.2 read true br wr' rd := by
            rw [if_pos hc, decide_eq_true hc, Bool.or_true] at hR1; exact hR1
          have hw1 : wrC ⟨shp, l, wr, rd⟩ block L[i].2.2 = 0 := by rw [← hx]; exact hw0
          simp only [stp, Nat.reduceAdd, Int.reduceLT, Int.reduceLE, Int.reduceEq, Int.reduceNe, ne_eq, bne_self_eq_false, beq_self_eq_true, stm, ix_153 hlt, hw0, hw1, q1', q2', hx, Option.isSome_some, Option.getD_some]
          exact hJ1 _ _ _ _ _ ⟨_, _, _, _, _, _, rfl, rfl, rfl, rfl, ku1, hR2⟩
        · have hc : ¬ (wrC ⟨shp, l, wr, rd⟩ L[i].2.1 L[i].2.2 = 0 ∧ L[i].2.1 = block) := fun e => hx e.2
          have hR2 : RI u1 (siz w4) t block l (i + 1) wrote read bw br wr' rd := by
            rw [if_neg hc, decide_eq_false hc, Bool.or_false] at hR1; exact hR1
          simp only [stp, Nat.reduceAdd, Int.reduceLT, Int.reduceLE, Int.reduceEq, Int.reduceNe, ne_eq, bne_self_eq_false, beq_self_eq_true, stm, ix_153 hlt, hw0, q1', q2', hx, Option.isSome_some, Option.getD_some]
          exact hJ1 _ _ _ _ _ ⟨_, _, _, _, _, _, rfl, rfl, rfl, rfl, ku1, hR2⟩
      · have hc : ¬ (wrC ⟨shp, l, wr, rd⟩ L[i].2.1 L[i].2.2 = 0 ∧ L[i].2.1 = block) := fun e => hw0 e.1
        have hR2 : RI u1 (siz w4) t block l (i + 1) wrote read bw br wr' rd := by
          rw [if_neg hc, decide_eq_false hc, Bool.or_false] at hR1; exact hR1
        simp only [stp, Nat.reduceAdd, Int.reduceLT, Int.reduceLE, Int.reduceEq, Int.reduceNe, ne_eq, bne_self_eq_false, beq_self_eq_true, stm, ix_153 hlt, hw0, q1', q2', Option.isSome_some, Option.getD_some]
        exact hJ1 _ _ _ _ _ ⟨_, _, _, _, _, _, rfl, rfl, rfl, rfl, ku1, hR2⟩
  · have hie : i = L.length := by omega
    subst hie
    have hlt' : ¬ (L.length : Int) < (L.length : Int) := by omega
    simp only [stp, Nat.reduceAdd, Int.reduceLT, Int.reduceLE, Int.reduceEq, Int.reduceNe, ne_eq, bne_self_eq_false, beq_self_eq_true, stm, hlt']
    -- what the reads tell
    have fin : callS Tryz.prog 103 #[.pointer (some ⟨t, 0, none⟩)] (fun v u2 => ∃ ks pa ca, v = .slice pa ks.length ca ∧ List.Perm ks (rd.map (·.1)) ∧ Sh.Own u2 (siz u) 162 3 v ks.length (flat encIm (imgs rd ks)) ∧ K0 u u2) u := by
      refine treads_c hR.tx (by show rd.length ≤ _; have := hR.rl; omega) hR.rw fun u2 v ks hp hs o2 k2 => ?_
      obtain ⟨pa, ca, e⟩ := o2.form
      exact ⟨ks, pa, ca, e, hp, o2, k2⟩
    have hw := hR.hw
    have hr := hR.hr
    refine twrote_c' hR.tx ?_
    have hw' : lkp block (TS.wr ⟨shp, l, wr, rd⟩) = if bw = true then some (padF wrote) else none := hw
    rw [hw']
    have sl : ∀ {k : Value → Prop}, wrote.size ≤ 96 → pur Tryz.prog (Instr.sliceAt 9 (.string (padF wrote)) none (some (.int .i64 (wrote.size : Int))) none) k = k (.string wrote) := fun {k} h => by
      rw [strTo (ty := 0) (fun w => Tryz.runUnderlying9 w) (by rw [padF_size h]; exact h), padF_extract]
    have rest : ∀ {Q' : Value → World → Prop}, (∀ v u2, (∃ ks pa ca, v = .slice pa ks.length ca ∧ List.Perm ks (rd.map (·.1)) ∧ Sh.Own u2 (siz u) 162 3 v ks.length (flat encIm (imgs rd ks)) ∧ K0 u u2) → Q' v u2) → callS Tryz.prog 103 #[.pointer (some ⟨t, 0, none⟩)] Q' u := fun {Q'} h => callS_mono fin h
    cases bw
    case' true =>
      have hsz := hR.hs rfl
      have hps : ((padF wrote).size : Int) = 96 := by rw [padF_size hsz]; rfl
      simp only [stp, Nat.reduceAdd, Int.reduceLT, Int.reduceLE, Int.reduceEq, Int.reduceNe, ne_eq, bne_self_eq_false, beq_self_eq_true, stm, if_true, Option.getD_some, Option.isSome_some, hps, sl hsz]
      refine rest ?_
    case' false =>
      simp only [stp, Nat.reduceAdd, Int.reduceLT, Int.reduceLE, Int.reduceEq, Int.reduceNe, ne_eq, bne_self_eq_false, beq_self_eq_true, stm, Bool.false_eq_true, if_false, Option.getD_none, Option.isSome_none]
      refine rest ?_
    all_goals
      rintro _ u2 ⟨ks, pa, ca, rfl, hp, o2, k2⟩
      have hkl : ks.length ≤ 40 := by have := hp.length_eq; have := hR.rl; rw [List.length_map] at *; omega
      have hin : ∀ k, k ∈ ks ↔ (lkp k rd).isSome = true := fun k => by rw [lkp_mem]; exact hp.mem_iff
      try simp only [stp, Nat.reduceAdd, Int.reduceLT, Int.reduceLE, Int.reduceEq, Int.reduceNe, ne_eq, bne_self_eq_false, beq_self_eq_true, stm]
      refine lpc1 ks.length (by omega) (fun i u' => u' = u2 ∧ ∀ j (hj : j < ks.length), j < i → ks[j] ≠ block) ⟨rfl, fun j _ h => by omega⟩ (fun i u' hi ⟨hu', hno⟩ J hJ => ?_) (fun u' ⟨hu', hno⟩ J => ?_)
      · subst hu'
        intro _j
        have hi' : (i : Int) < (ks.length : Int) := by omega
        obtain ⟨g, c, e, _, _, _, _, _, hc⟩ := o2.at (by omega)
        injection e with e1 _ e2
        subst e1 e2
        have him : (imgs rd ks)[i]? = some (ks[i], 0, (lkp ks[i] rd).getD ⟨#[]⟩) := by unfold imgs; rw [List.getElem?_map, List.getElem?_eq_getElem hi]; rfl
        have c0 : Sh.cel u' g (i * 3) = some (.int .i64 ks[i]) := by rw [hc _ (by omega), ← Nat.add_zero (i * 3), flat_get encIm_len him (by omega)]; rfl
        have c2 : Sh.cel u' g (i * 3 + 2) = some (.string ((lkp ks[i] rd).getD ⟨#[]⟩)) := by rw [hc _ (by omega), flat_get encIm_len him (by omega)]; rfl
        simp only [stp, Nat.reduceAdd, Int.reduceLT, Int.reduceLE, Int.reduceEq, Int.reduceNe, ne_eq, bne_self_eq_false, beq_self_eq_true, stm, hi', ix_150 hi, c0, Option.isSome_some, Option.getD_some, Nat.zero_add]
        by_cases hx : ks[i] = block
        · have hs : (lkp block rd).isSome = true := (hin block).1 (by rw [← hx]; exact List.getElem_mem hi)
          cases br with
          | false => rw [hr] at hs; cases hs
          | true =>
            have hd : (lkp ks[i] rd).getD ⟨#[]⟩ = read := by rw [hx, hr]; rfl
            simp only [stp, Nat.reduceAdd, Int.reduceLT, Int.reduceLE, Int.reduceEq, Int.reduceNe, ne_eq, bne_self_eq_false, beq_self_eq_true, stm, hx]
            refine alive_c fun u3 k3 => ?_
            have c2' := k3.cel c2 id
            rw [hd] at c2'
            simp only [stp, Nat.reduceAdd, Int.reduceLT, Int.reduceLE, Int.reduceEq, Int.reduceNe, ne_eq, bne_self_eq_false, beq_self_eq_true, stm, ix_150 hi, c2', Option.isSome_some, Option.getD_some, Nat.zero_add]
            exact hq _ ((ku.trans k2).trans k3).new
        · simp only [stp, Nat.reduceAdd, Int.reduceLT, Int.reduceLE, Int.reduceEq, Int.reduceNe, ne_eq, bne_self_eq_false, beq_self_eq_true, stm, hx]
          refine hJ _ ⟨rfl, fun j hj hji => ?_⟩
          by_cases e : j = i
          · subst e; exact hx
          · exact hno j hj (by omega)
      · subst hu'
        intro _j
        have hi' : ¬ (ks.length : Int) < (ks.length : Int) := by omega
        simp only [stp, Nat.reduceAdd, Int.reduceLT, Int.reduceLE, Int.reduceEq, Int.reduceNe, ne_eq, bne_self_eq_false, beq_self_eq_true, stm, hi']
        have hb : br = false := by
          cases br with
          | false => rfl
          | true =>
            exfalso
            have : block ∈ ks := (hin block).2 (by rw [hr]; rfl)
            obtain ⟨j, hj, e⟩ := List.getElem_of_mem this
            exact hno j hj hj e
        subst hb
        refine alive_c fun u3 k3 => ?_
        try simp only [stp, Nat.reduceAdd, Int.reduceLT, Int.reduceLE, Int.reduceEq, Int.reduceNe, ne_eq, bne_self_eq_false, beq_self_eq_true, stm, Bool.not_false]
        exact hq _ ((ku.trans k2).trans k3).new
end
end Go.Proofs.YtdnbegjamoeahaaGreatU
