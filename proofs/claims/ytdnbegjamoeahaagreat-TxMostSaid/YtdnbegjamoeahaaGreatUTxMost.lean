/- What TxMost computes: true. Conditions: none. -/
import Derived.Test.YtdnbegjamoeahaaGreatUTxI
set_option linter.unusedSimpArgs false
set_option linter.unusedVariables false
namespace Go.Proofs.YtdnbegjamoeahaaGreatU
open Go.Sh Go.Proofs.YtdnbegjamoeahaaGreatU.Mi
set_option maxRecDepth 100000
section
variable {w w' : World} {Q : Value → World → Prop} {B t m a b : Nat} {s : TS}
theorem wf_i64 {n : Int} (h1 : -9223372036854775808 ≤ n) (h2 : n ≤ 9223372036854775807) : (Lit.int .i64 n).wf = true := by
  simpa [Lit.wf, IntKind.min, IntKind.max, IntKind.signed, IntKind.bits] using ⟨h1, h2⟩
theorem mem_puA {x : Int} {v : ByteArray} {p : Int × ByteArray} : ∀ {l : List (Int × ByteArray)}, p ∈ puA x v l → p = (x, v) ∨ p ∈ l
  | [], h => by simp [puA] at h; exact .inl h
  | q :: l, h => by
    by_cases e : q.1 = x
    · simp only [puA, e, if_true, List.mem_cons] at h
      rcases h with h | h
      · exact .inl h
      · exact .inr (List.mem_cons_of_mem _ h)
    · simp only [puA, e, if_false, List.mem_cons] at h
      rcases h with h | h
      · exact .inr (by rw [h]; exact List.mem_cons_self)
      · rcases mem_puA h with h | h
        · exact .inl h
        · exact .inr (List.mem_cons_of_mem _ h)
/-- What has been written behind i steps. -/
structure WrI (most i : Int) (wr : List (Int × ByteArray)) : Prop where
  len : (wr.length : Int) = min i most
  has : ∀ k, (lkp k wr).isSome = true ↔ 0 ≤ k ∧ k < min i most
  rng : ∀ p ∈ wr, 0 ≤ p.1 ∧ p.1 < 100
theorem WrI.re {most i x : Int} {v : ByteArray} {wr : List (Int × ByteArray)} (h : WrI most i wr) (hx : 0 ≤ x ∧ x < min i most) (h100 : x < 100) : WrI most i (puA x v wr) where
  len := by rw [puA_len, if_pos ((h.has x).2 hx)]; exact h.len
  has k := by
    rw [lkp_puA]
    by_cases e : k = x
    · subst e; simp only [if_true, Option.isSome_some, true_iff]; exact hx
    · rw [if_neg e]; exact h.has k
  rng p hp := by
    rcases mem_puA hp with rfl | hp
    · exact ⟨hx.1, h100⟩
    · exact h.rng p hp
theorem WrI.more {most i : Int} {v : ByteArray} {wr : List (Int × ByteArray)} (h : WrI most i wr) (h0 : 0 ≤ i) (hi : i < most) (h100 : i < 100) : WrI most (i + 1) (puA i v wr) where
  len := by
    have : ¬ (lkp i wr).isSome = true := fun e => by have := (h.has i).1 e; omega
    have hl := h.len
    rw [puA_len, if_neg this]; omega
  has k := by
    rw [lkp_puA]
    by_cases e : k = i
    · subst e; simp only [if_true, Option.isSome_some, true_iff]; omega
    · rw [if_neg e, h.has k]; omega
  rng p hp := by
    rcases mem_puA hp with rfl | hp
    · exact ⟨h0, h100⟩
    · exact h.rng p hp
theorem WrI.full {most i : Int} {wr : List (Int × ByteArray)} (h : WrI most i wr) (hi : ¬ i < most) : WrI most (i + 1) wr where
  len := by have := h.len; omega
  has k := by rw [h.has k]; omega
  rng := h.rng
theorem txmost_law {log room n : Int} (hlog : (Lit.int .i64 log).wf = true) (hroom : (Lit.int .i64 room).wf = true) (hn : (Lit.int .i64 n).wf = true)
    (hq : ∀ w', Keep (fun b => siz w ≤ b) w w' → Q (.bool true) w') : callS Tryz.prog 8 #[.int .i64 log, .int .i64 room, .int .i64 n] Q w := by
  refine ref8 ?_
  unfold S8
  have hA : ∀ {w1 : World}, K0 w w1 → callS Tryz.prog 94 #[] (fun t35 w_21 => Q t35 w_21) w1 := fun k1 => alive_c fun w2 k2 => hq _ (k1.trans k2).new
  by_cases g1 : log < 8
  · simp only [stp, Nat.reduceAdd, Int.reduceLT, Int.reduceLE, Int.reduceEq, Int.reduceNe, ne_eq, bne_self_eq_false, beq_self_eq_true, g1]
    exact hA (K0.refl w)
  by_cases g2 : 256 < log
  · simp only [stp, Nat.reduceAdd, Int.reduceLT, Int.reduceLE, Int.reduceEq, Int.reduceNe, ne_eq, bne_self_eq_false, beq_self_eq_true, g1, g2]
    exact hA (K0.refl w)
  by_cases g3 : room < 2
  · simp only [stp, Nat.reduceAdd, Int.reduceLT, Int.reduceLE, Int.reduceEq, Int.reduceNe, ne_eq, bne_self_eq_false, beq_self_eq_true, g1, g2, g3]
    exact hA (K0.refl w)
  by_cases g4 : 1000 < room
  · simp only [stp, Nat.reduceAdd, Int.reduceLT, Int.reduceLE, Int.reduceEq, Int.reduceNe, ne_eq, bne_self_eq_false, beq_self_eq_true, g1, g2, g3, g4]
    exact hA (K0.refl w)
  by_cases g5 : n < 0
  · simp only [stp, Nat.reduceAdd, Int.reduceLT, Int.reduceLE, Int.reduceEq, Int.reduceNe, ne_eq, bne_self_eq_false, beq_self_eq_true, g1, g2, g3, g4, g5]
    exact hA (K0.refl w)
  by_cases g6 : 70 < n
  · simp only [stp, Nat.reduceAdd, Int.reduceLT, Int.reduceLE, Int.reduceEq, Int.reduceNe, ne_eq, bne_self_eq_false, beq_self_eq_true, g1, g2, g3, g4, g5, g6]
    exact hA (K0.refl w)
  simp only [stp, Nat.reduceAdd, Int.reduceLT, Int.reduceLE, Int.reduceEq, Int.reduceNe, ne_eq, bne_self_eq_false, beq_self_eq_true, g1, g2, g3, g4, g5, g6]
  generalize hw1 : w.alloc _ = w1
  have b1 : blk w1 (siz w) = some (.cells #[.int .i64 0, .int .i64 0, .int .i64 0, .int .i64 0, .int .i64 0] 142) := by rw [← hw1]; exact blk_alloc_new
  have k1 : K0 w w1 := by rw [← hw1]; exact (K0.refl w).alloc _
  have e0 : ∀ o, Sh.cel w1 (siz w) o = (#[.int .i64 0, .int .i64 0, .int .i64 0, .int .i64 0, .int .i64 0] : Array Value)[o]? := fun o => cel_b b1 o
  have i0 : (Sh.cel w1 (siz w) 0).isSome = true := by rw [e0]; rfl
  have i1 : (Sh.cel w1 (siz w) 1).isSome = true := by rw [e0]; rfl
  have i2 : (Sh.cel w1 (siz w) 2).isSome = true := by rw [e0]; rfl
  have i3 : (Sh.cel w1 (siz w) 3).isSome = true := by rw [e0]; rfl
  have i4 : (Sh.cel w1 (siz w) 4).isSome = true := by rw [e0]; rfl
  simp only [stp, Nat.reduceAdd, Int.reduceLT, Int.reduceLE, Int.reduceEq, Int.reduceNe, ne_eq, bne_self_eq_false, beq_self_eq_true, stm, i0, i1, i2, i3, i4, fre_b b1]
  let sh : Sh5 := ⟨1, 100, log, room, 32⟩
  have hsh : sh.ok := ⟨⟨by show (1 : Int) ≤ 1; decide, by show (1 : Int) ≤ 16; decide⟩, ⟨by show (1 : Int) ≤ 100; decide, by show (100 : Int) ≤ 4096; decide⟩, ⟨by show 8 ≤ log; omega, by show log ≤ 256; omega⟩, ⟨by show 2 ≤ room; omega, by show room ≤ 1000; omega⟩, ⟨by show (32 : Int) ≤ 32; decide, by show (32 : Int) ≤ 1000; decide⟩⟩
  have kF : K0 w (stoL w1 (siz w) 0 sh.vals) := k1.stoL _ 0 (.inr (Nat.le_refl _))
  have bF : blk (stoL w1 (siz w) 0 sh.vals) (siz w) = some (.cells sh.vals.toArray 142) := blk_stoL_all (zs := [.int .i64 0, .int .i64 0, .int .i64 0, .int .i64 0, .int .i64 0]) (xs := sh.vals) rfl b1
  rw [show ([Value.int .i64 1, .int .i64 100, .int .i64 log, .int .i64 room, .int .i64 32]) = sh.vals from rfl]
  generalize stoL w1 (siz w) 0 sh.vals = w3 at kF bF
  have d0 : Sh.cel w3 (siz w) 0 = some (.int .i64 1) := cel_b bF 0
  have d1 : Sh.cel w3 (siz w) 1 = some (.int .i64 100) := cel_b bF 1
  have d2 : Sh.cel w3 (siz w) 2 = some (.int .i64 log) := cel_b bF 2
  have d3 : Sh.cel w3 (siz w) 3 = some (.int .i64 room) := cel_b bF 3
  have d4 : Sh.cel w3 (siz w) 4 = some (.int .i64 32) := cel_b bF 4
  simp only [stp, Nat.reduceAdd, Int.reduceLT, Int.reduceLE, Int.reduceEq, Int.reduceNe, ne_eq, bne_self_eq_false, beq_self_eq_true, d0, d1, d2, d3, d4, Option.isSome_some, Option.getD_some]
  have k2 := (K0.refl w3).alloc (.cells #[.int .i64 0, .int .i64 100, .int .i64 2] 148)
  have r2 : Rd 3 (w3.alloc (.cells #[.int .i64 0, .int .i64 100, .int .i64 2] 148)) (.slice (some ⟨siz w3, 0, none⟩) 1 1) [((0, 100, 2) : I3)].length (flat enc3 [((0, 100, 2) : I3)]) :=
    ⟨rfl, .inr ⟨siz w3, 0, 1, rfl, by simp, fun j hj => by rw [Nat.zero_add, cel_alloc_new, List.getElem?_toArray]; rfl⟩⟩
  generalize w3.alloc (.cells #[.int .i64 0, .int .i64 100, .int .i64 2] 148) = w4 at k2 r2
  have hck : ∀ e, CkIs sh [((0, 100, 2) : I3)] e → e = 0 := fun e he => by
    have hm : ∀ k ∈ [((0, 100, 2) : I3)], mdOk k := fun k hk => by rw [List.mem_singleton.1 hk]; exact .inr rfl
    have hs : ∀ k ∈ [((0, 100, 2) : I3)], spOk sh k := fun k hk => by rw [List.mem_singleton.1 hk]; exact ⟨by decide, Int.le_refl _⟩
    rcases he with ⟨h, _⟩ | ⟨_, ⟨h, _⟩ | ⟨_, ⟨h, _⟩ | ⟨_, ⟨h, _⟩ | ⟨_, h⟩⟩⟩⟩
    · exact absurd hsh h
    · simp at h
    · exact absurd hm h
    · exact absurd hs h
    · exact h
  refine tnew_c (s := sh) r2 (by simp) (fun w5 e he hne _ => absurd (hck e he) hne) fun w5 t l _ ht hvl hll h5 k5 => ?_
  have k04 := kF.trans k2
  have k05 := k04.trans k5
  have hB : siz w ≤ siz w4 := k04.size
  have hv : ∀ x : Int, 0 ≤ x → x < 100 → valB l x = some 2 := fun x h0 h1 => by
    rw [hvl, show askF [((0, 100, 2) : I3)] = ask1 (fun _ => none) (0, 100, 2) from rfl]
    unfold ask1
    rw [if_pos (by decide)]
    unfold updM
    rw [if_pos ⟨by decide, h0, h1⟩]
  have hd : (⟨#[120]⟩ : ByteArray).size ≤ 9223372036854775807 := by decide
  have hd' : (⟨#[121]⟩ : ByteArray).size ≤ 9223372036854775807 := by decide
  simp only [stp, Nat.reduceAdd, Int.reduceLT, Int.reduceLE, Int.reduceEq, Int.reduceNe, ne_eq, bne_self_eq_false, beq_self_eq_true, stm]
  refine rmost_c (by omega) (by omega) ?_
  simp only [stp, Nat.reduceAdd, Int.reduceLT, Int.reduceLE, Int.reduceEq, Int.reduceNe, ne_eq, bne_self_eq_false, beq_self_eq_true, stm]
  have hm1 : 1 ≤ mostF log := by unfold mostF; omega
  have hm60 : mostF log ≤ 60 := by unfold mostF; omega
  obtain ⟨most, hmost⟩ : ∃ most, most = min (mostF log) room := ⟨_, rfl⟩
  have m1 : 1 ≤ most := by omega
  have m60 : most ≤ 60 := by omega
  rw [← hmost]
  obtain ⟨nn, rfl⟩ := Int.eq_ofNat_of_zero_le (show 0 ≤ n by omega)
  refine lpc1 nn (by omega) (fun i u => ∃ wr, WrI most (i : Int) wr ∧ TX u (siz w4) t ⟨sh, l, wr, []⟩ ∧ K0 w u) ⟨[], ⟨by simp; omega, fun k => by simp [lkp]; omega, by simp⟩, h5, k05⟩ (fun i u hi ⟨wr, hW, hu, ku⟩ J hJ => ?_) (fun u ⟨wr, hW, hu, ku⟩ J => ?_)
  · intro _j
    have hi' : ((i : Int) < (nn : Int)) := by omega
    have hi100 : (i : Int) < 100 := by omega
    have hwl := hW.len
    have e1 : IntKind.i64.wrap ((i : Int) + 1) = (i : Int) + 1 := wrap_id (by omega) (by omega)
    simp only [stp, Nat.reduceAdd, Int.reduceLT, Int.reduceLE, Int.reduceEq, Int.reduceNe, ne_eq, bne_self_eq_false, beq_self_eq_true, stm, hi']
    refine twrite_c hu hd (by show wr.length ≤ _; omega) fun u1 h1 k1 => ?_
    have ku1 := ku.ko k1 hB
    have hvi := hv i (by omega) hi100
    -- both ends
    have both : ∃ wr1, WrI most ((i : Int) + 1) wr1 ∧ TX u1 (siz w4) t ⟨sh, l, wr1, []⟩ ∧ wrC ⟨sh, l, wr, []⟩ (i : Int) ⟨#[120]⟩ = if (i : Int) < most then 0 else 31 := by
      have hc : wrC ⟨sh, l, wr, []⟩ (i : Int) ⟨#[120]⟩ = if (i : Int) < most then 0 else 31 := by
        unfold wrC
        rw [if_neg (by rw [hvi]; simp), if_neg (by decide), if_neg (by rw [hvi]; simp)]
        show (if (lkp (i : Int) wr).isNone ∧ min (mostF log) room ≤ (wr.length : Int) then (31 : Int) else 0) = _
        rw [← hmost]
        by_cases hlt : (i : Int) < most
        · rw [if_pos hlt, if_neg]
          rintro ⟨_, h⟩
          omega
        · rw [if_neg hlt, if_pos]
          refine ⟨?_, by omega⟩
          cases hk : lkp (i : Int) wr with
          | none => rfl
          | some y => have := (hW.has i).1 (by rw [hk]; rfl); omega
      by_cases hlt : (i : Int) < most
      · rw [if_pos hlt] at hc
        have hs : wrS ⟨sh, l, wr, []⟩ (i : Int) ⟨#[120]⟩ = ⟨sh, l, puA (i : Int) (padF ⟨#[120]⟩) wr, []⟩ := by unfold wrS; rw [if_pos hc]
        rw [hs] at h1
        exact ⟨_, hW.more (by omega) hlt hi100, h1, by rw [if_pos hlt]; exact hc⟩
      · rw [if_neg hlt] at hc
        have hs : wrS ⟨sh, l, wr, []⟩ (i : Int) ⟨#[120]⟩ = ⟨sh, l, wr, []⟩ := by unfold wrS; rw [hc]; rfl
        rw [hs] at h1
        exact ⟨_, hW.full hlt, h1, by rw [if_neg hlt]; exact hc⟩
    obtain ⟨wr1, hW1, hu1, hc⟩ := both
    have hwl1 := hW1.len
    rw [hc]
    have rest : ∀ {u2 : World}, TX u2 (siz w4) t (wrS ⟨sh, l, wr1, []⟩ 0 ⟨#[121]⟩) → K0 w u2 → wrC ⟨sh, l, wr1, []⟩ 0 ⟨#[121]⟩ = 0 ∧ J (.int .i64 (IntKind.i64.wrap ((i : Int) + 1))) u2 := fun {u2} h2 k2 => by
      have hv0 := hv 0 (by decide) (by decide)
      have h0 : wrC ⟨sh, l, wr1, []⟩ 0 ⟨#[121]⟩ = 0 := by
        unfold wrC
        rw [if_neg (by rw [hv0]; simp), if_neg (by decide), if_neg (by rw [hv0]; simp), if_neg]
        rintro ⟨h, _⟩
        have h' : (lkp 0 wr1).isSome = true := (hW1.has 0).2 ⟨by omega, by omega⟩
        have h : (lkp 0 wr1).isNone = true := h
        cases hk : lkp 0 wr1 with
        | none => rw [hk] at h'; cases h'
        | some y => rw [hk] at h; cases h
      refine ⟨h0, hJ _ ?_⟩
      have hs : wrS ⟨sh, l, wr1, []⟩ 0 ⟨#[121]⟩ = ⟨sh, l, puA 0 (padF ⟨#[121]⟩) wr1, []⟩ := by unfold wrS; rw [if_pos h0]
      rw [hs] at h2
      exact ⟨_, by have := hW1.re (v := padF ⟨#[121]⟩) (x := 0) ⟨by omega, by omega⟩ (by decide); exact this, h2, k2⟩
    have hm0 : (0 : Int) < most := by omega
    by_cases hlt : (i : Int) < most
    · simp only [stp, Nat.reduceAdd, Int.reduceLT, Int.reduceLE, Int.reduceEq, Int.reduceNe, ne_eq, bne_self_eq_false, beq_self_eq_true, stm, hlt, if_true]
      refine tblocks_c hu1 ?_
      have e3 : (wr1.length : Int) = min ((i : Int) + 1) most := hwl1
      simp only [stp, Nat.reduceAdd, Int.reduceLT, Int.reduceLE, Int.reduceEq, Int.reduceNe, ne_eq, bne_self_eq_false, beq_self_eq_true, stm, e1, e3, hm0]
      refine twrite_c hu1 hd' (by show wr1.length ≤ _; omega) fun u2 h2 k2 => ?_
      obtain ⟨h0, hj⟩ := rest h2 (ku1.ko k2 hB)
      rw [e1] at hj
      simp only [stp, Nat.reduceAdd, Int.reduceLT, Int.reduceLE, Int.reduceEq, Int.reduceNe, ne_eq, bne_self_eq_false, beq_self_eq_true, stm, h0]
      try rw [e1]
      exact hj
    · simp only [stp, Nat.reduceAdd, Int.reduceLT, Int.reduceLE, Int.reduceEq, Int.reduceNe, ne_eq, bne_self_eq_false, beq_self_eq_true, stm, hlt, if_false]
      refine tblocks_c hu1 ?_
      have e3 : (wr1.length : Int) = min ((i : Int) + 1) most := hwl1
      simp only [stp, Nat.reduceAdd, Int.reduceLT, Int.reduceLE, Int.reduceEq, Int.reduceNe, ne_eq, bne_self_eq_false, beq_self_eq_true, stm, e1, e3, hm0]
      refine twrite_c hu1 hd' (by show wr1.length ≤ _; omega) fun u2 h2 k2 => ?_
      obtain ⟨h0, hj⟩ := rest h2 (ku1.ko k2 hB)
      rw [e1] at hj
      simp only [stp, Nat.reduceAdd, Int.reduceLT, Int.reduceLE, Int.reduceEq, Int.reduceNe, ne_eq, bne_self_eq_false, beq_self_eq_true, stm, h0]
      try rw [e1]
      exact hj
  · intro _j
    have hi' : ¬ ((nn : Int) < (nn : Int)) := by omega
    have hwl := hW.len
    simp only [stp, Nat.reduceAdd, Int.reduceLT, Int.reduceLE, Int.reduceEq, Int.reduceNe, ne_eq, bne_self_eq_false, beq_self_eq_true, stm, hi']
    refine alive_c fun u1 k1 => ?_
    have h1 := hu.keep0 k1
    simp only [stp, Nat.reduceAdd, Int.reduceLT, Int.reduceLE, Int.reduceEq, Int.reduceNe, ne_eq, bne_self_eq_false, beq_self_eq_true, stm]
    refine twrites_c h1 (by show wr.length ≤ _; omega) (fun p hp => wf_i64 (by have := hW.rng p hp; omega) (by have := hW.rng p hp; omega)) fun u2 v ks hp hs o2 k2 => ?_
    have hkl : ks.length = wr.length := by have := hp.length_eq; simpa using this
    obtain ⟨pa, ca, rfl⟩ := o2.form
    have e3 : (ks.length : Int) = min (nn : Int) most := by rw [hkl]; exact hwl
    simp only [stp, Nat.reduceAdd, Int.reduceLT, Int.reduceLE, Int.reduceEq, Int.reduceNe, ne_eq, bne_self_eq_false, beq_self_eq_true, stm, e3]
    exact hq _ ((ku.trans k1).trans k2).new
end
end Go.Proofs.YtdnbegjamoeahaaGreatU
