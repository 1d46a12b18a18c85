/- A transaction beside the document's: shapes, checks, pads, images at their places, locks raised. Conditions: as each says. -/
import Derived.Test.YtndjohbbaplekaaGreatXTxBase
import Derived.Test.YtndjohbbaplekaaGreatXRefY
import Derived.Test.YtndjohbbaplekaaGreatXRowIm
import Derived.Laws.BytesArg
set_option linter.unusedSimpArgs false
set_option linter.unusedVariables false
namespace Go.Proofs.YtndjohbbaplekaaGreatX
open Go.Sh Go.Proofs.YtndjohbbaplekaaGreatX.Mi
set_option maxRecDepth 100000
section
variable {w w' : World} {Q : Value → World → Prop} {B : Nat}
theorem ck_unique {s : Sh5} {L : List I3} {e e' : Int} (h : CkIs s L e) (h' : CkIs s L e') : e = e' := by
  unfold CkIs at h h'
  by_cases h1 : s.ok
  · by_cases h2 : L.length = 0 ∨ 16 < L.length
    · have h3 : ¬ (0 < L.length ∧ L.length ≤ 16) := by omega
      simp only [h1, h2, h3, not_true_eq_false, false_and, true_and, false_or, or_false] at h h'
      rw [h, h']
    · have h3 : 0 < L.length ∧ L.length ≤ 16 := by omega
      by_cases h4 : ∀ k ∈ L, mdOk k
      · by_cases h5 : ∀ k ∈ L, spOk s k
        · have : e = 0 := by
            rcases h with ⟨a, _⟩ | ⟨_, ⟨a, _⟩ | ⟨_, ⟨a, _⟩ | ⟨_, ⟨a, _⟩ | ⟨_, a⟩⟩⟩⟩
            · exact absurd h1 a
            · exact absurd a h2
            · exact absurd h4 a
            · exact absurd h5 a
            · exact a
          have h6 : e' = 0 := by
            rcases h' with ⟨a, _⟩ | ⟨_, ⟨a, _⟩ | ⟨_, ⟨a, _⟩ | ⟨_, ⟨a, _⟩ | ⟨_, a⟩⟩⟩⟩
            · exact absurd h1 a
            · exact absurd a h2
            · exact absurd h4 a
            · exact absurd h5 a
            · exact a
          rw [this, h6]
        · have : e = 30 := by
            rcases h with ⟨a, _⟩ | ⟨_, ⟨a, _⟩ | ⟨_, ⟨a, _⟩ | ⟨_, ⟨_, a⟩ | ⟨a, _⟩⟩⟩⟩
            · exact absurd h1 a
            · exact absurd a h2
            · exact absurd h4 a
            · exact a
            · exact absurd a h5
          have h6 : e' = 30 := by
            rcases h' with ⟨a, _⟩ | ⟨_, ⟨a, _⟩ | ⟨_, ⟨a, _⟩ | ⟨_, ⟨_, a⟩ | ⟨a, _⟩⟩⟩⟩
            · exact absurd h1 a
            · exact absurd a h2
            · exact absurd h4 a
            · exact a
            · exact absurd a h5
          rw [this, h6]
      · have : e = 1 := by
          rcases h with ⟨a, _⟩ | ⟨_, ⟨a, _⟩ | ⟨_, ⟨_, a⟩ | ⟨a, _⟩⟩⟩
          · exact absurd h1 a
          · exact absurd a h2
          · exact a
          · exact absurd a h4
        have h6 : e' = 1 := by
          rcases h' with ⟨a, _⟩ | ⟨_, ⟨a, _⟩ | ⟨_, ⟨_, a⟩ | ⟨a, _⟩⟩⟩
          · exact absurd h1 a
          · exact absurd a h2
          · exact a
          · exact absurd a h4
        rw [this, h6]
  · rcases h with ⟨_, a⟩ | ⟨a, _⟩
    · rcases h' with ⟨_, b⟩ | ⟨b, _⟩
      · rw [a, b]
      · exact absurd b h1
    · exact absurd a h1
theorem rsvalid_c {s : Sh5} (h1 : ∀ w', s.ok → K0 w w' → Q (.bool true) w') (h0 : ∀ w', ¬ s.ok → K0 w w' → Q (.bool false) w') :
    callS Tryz.prog 183 #[.agg s.vals.toArray] Q w := by
  refine ref183 ?_
  unfold S183
  rw [act_box]
  generalize hw1 : w.alloc _ = w1
  have b1 : blk w1 (siz w) = some (.cells s.vals.toArray 122) := by rw [← hw1]; exact blk_alloc_new
  have k1 : K0 w w1 := by rw [← hw1]; exact (K0.refl w).alloc _
  have e0 : Sh.cel w1 (siz w) 0 = some (.int .i64 s.nodes) := cel_b b1 0
  have e1 : Sh.cel w1 (siz w) 1 = some (.int .i64 s.blocks) := cel_b b1 1
  have e2 : Sh.cel w1 (siz w) 2 = some (.int .i64 s.log) := cel_b b1 2
  have e3 : Sh.cel w1 (siz w) 3 = some (.int .i64 s.cache) := cel_b b1 3
  have e4 : Sh.cel w1 (siz w) 4 = some (.int .i64 s.lease) := cel_b b1 4
  by_cases n1 : 1 ≤ s.nodes
  rotate_left
  · simp only [stp, Nat.reduceAdd, Int.reduceLT, Int.reduceLE, Int.reduceEq, Int.reduceNe, ne_eq, bne_self_eq_false, beq_self_eq_true, stm, e0, e1, e2, e3, e4, n1,  Option.isSome_some, Option.getD_some]
    exact h0 _ (fun h => n1 h.n.1) k1
  by_cases n2 : s.nodes ≤ 16
  rotate_left
  · simp only [stp, Nat.reduceAdd, Int.reduceLT, Int.reduceLE, Int.reduceEq, Int.reduceNe, ne_eq, bne_self_eq_false, beq_self_eq_true, stm, e0, e1, e2, e3, e4, n1, n2,  Option.isSome_some, Option.getD_some]
    exact h0 _ (fun h => n2 h.n.2) k1
  by_cases b1 : 1 ≤ s.blocks
  rotate_left
  · simp only [stp, Nat.reduceAdd, Int.reduceLT, Int.reduceLE, Int.reduceEq, Int.reduceNe, ne_eq, bne_self_eq_false, beq_self_eq_true, stm, e0, e1, e2, e3, e4, n1, n2, b1,  Option.isSome_some, Option.getD_some]
    exact h0 _ (fun h => b1 h.b.1) k1
  by_cases b2 : s.blocks ≤ 4096
  rotate_left
  · simp only [stp, Nat.reduceAdd, Int.reduceLT, Int.reduceLE, Int.reduceEq, Int.reduceNe, ne_eq, bne_self_eq_false, beq_self_eq_true, stm, e0, e1, e2, e3, e4, n1, n2, b1, b2,  Option.isSome_some, Option.getD_some]
    exact h0 _ (fun h => b2 h.b.2) k1
  by_cases l1 : 8 ≤ s.log
  rotate_left
  · simp only [stp, Nat.reduceAdd, Int.reduceLT, Int.reduceLE, Int.reduceEq, Int.reduceNe, ne_eq, bne_self_eq_false, beq_self_eq_true, stm, e0, e1, e2, e3, e4, n1, n2, b1, b2, l1,  Option.isSome_some, Option.getD_some]
    exact h0 _ (fun h => l1 h.l.1) k1
  by_cases l2 : s.log ≤ 256
  rotate_left
  · simp only [stp, Nat.reduceAdd, Int.reduceLT, Int.reduceLE, Int.reduceEq, Int.reduceNe, ne_eq, bne_self_eq_false, beq_self_eq_true, stm, e0, e1, e2, e3, e4, n1, n2, b1, b2, l1, l2,  Option.isSome_some, Option.getD_some]
    exact h0 _ (fun h => l2 h.l.2) k1
  by_cases c1 : 2 ≤ s.cache
  rotate_left
  · simp only [stp, Nat.reduceAdd, Int.reduceLT, Int.reduceLE, Int.reduceEq, Int.reduceNe, ne_eq, bne_self_eq_false, beq_self_eq_true, stm, e0, e1, e2, e3, e4, n1, n2, b1, b2, l1, l2, c1,  Option.isSome_some, Option.getD_some]
    exact h0 _ (fun h => c1 h.c.1) k1
  by_cases c2 : s.cache ≤ 1000
  rotate_left
  · simp only [stp, Nat.reduceAdd, Int.reduceLT, Int.reduceLE, Int.reduceEq, Int.reduceNe, ne_eq, bne_self_eq_false, beq_self_eq_true, stm, e0, e1, e2, e3, e4, n1, n2, b1, b2, l1, l2, c1, c2,  Option.isSome_some, Option.getD_some]
    exact h0 _ (fun h => c2 h.c.2) k1
  by_cases t1 : 32 ≤ s.lease
  rotate_left
  · simp only [stp, Nat.reduceAdd, Int.reduceLT, Int.reduceLE, Int.reduceEq, Int.reduceNe, ne_eq, bne_self_eq_false, beq_self_eq_true, stm, e0, e1, e2, e3, e4, n1, n2, b1, b2, l1, l2, c1, c2, t1,  Option.isSome_some, Option.getD_some]
    exact h0 _ (fun h => t1 h.t.1) k1
  by_cases t2 : s.lease ≤ 1000
  rotate_left
  · simp only [stp, Nat.reduceAdd, Int.reduceLT, Int.reduceLE, Int.reduceEq, Int.reduceNe, ne_eq, bne_self_eq_false, beq_self_eq_true, stm, e0, e1, e2, e3, e4, n1, n2, b1, b2, l1, l2, c1, c2, t1, t2,  Option.isSome_some, Option.getD_some]
    exact h0 _ (fun h => t2 h.t.2) k1
  simp only [stp, Nat.reduceAdd, Int.reduceLT, Int.reduceLE, Int.reduceEq, Int.reduceNe, ne_eq, bne_self_eq_false, beq_self_eq_true, stm, e0, e1, e2, e3, e4, n1, n2, b1, b2, l1, l2, c1, c2, t1, t2,  Option.isSome_some, Option.getD_some]
  exact h1 _ ⟨⟨n1, n2⟩, ⟨b1, b2⟩, ⟨l1, l2⟩, ⟨c1, c2⟩, ⟨t1, t2⟩⟩ k1
theorem rcheck_c {s : Sh5} {v : Value} {L : List I3} (hL : Rd 3 w v L.length (flat enc3 L)) (hlen : L.length ≤ 1000000) (hq : ∀ w' e, CkIs s L e → K0 w w' → Q (.int .i64 e) w') :
    callS Tryz.prog 77 #[.agg s.vals.toArray, v] Q w := by
  refine ref77 ?_
  unfold S77
  rw [act_box]
  generalize hw1 : w.alloc _ = w1
  have b1 : blk w1 (siz w) = some (.cells s.vals.toArray 122) := by rw [← hw1]; exact blk_alloc_new
  have k1 : K0 w w1 := by rw [← hw1]; exact (K0.refl w).alloc _
  have e0 : Sh.cel w1 (siz w) 0 = some (.int .i64 s.nodes) := cel_b b1 0
  have e1 : Sh.cel w1 (siz w) 1 = some (.int .i64 s.blocks) := cel_b b1 1
  have e2 : Sh.cel w1 (siz w) 2 = some (.int .i64 s.log) := cel_b b1 2
  have e3 : Sh.cel w1 (siz w) 3 = some (.int .i64 s.cache) := cel_b b1 3
  have e4 : Sh.cel w1 (siz w) 4 = some (.int .i64 s.lease) := cel_b b1 4
  simp only [stp, Nat.reduceAdd, Int.reduceLT, Int.reduceLE, Int.reduceEq, Int.reduceNe, ne_eq, bne_self_eq_false, beq_self_eq_true, stm, e0, e1, e2, e3, e4, Option.isSome_some, Option.getD_some]
  refine rsvalid_c (s := s) (fun w2 hok k2 => ?_) (fun w2 hno k2 => ?_)
  rotate_left
  · simp only [stp, Nat.reduceAdd, Int.reduceLT, Int.reduceLE, Int.reduceEq, Int.reduceNe, ne_eq, bne_self_eq_false, beq_self_eq_true, stm]
    exact hq _ _ (.inl ⟨hno, rfl⟩) (k1.trans k2)
  have hL2 := hL.keep0 (k1.trans k2)
  obtain ⟨pa, ca, rfl⟩ := hL.form
  have k02 := k1.trans k2
  have e12 := k2.cel e1 id
  by_cases h0 : (L.length : Int) < 1
  · simp only [stp, Nat.reduceAdd, Int.reduceLT, Int.reduceLE, Int.reduceEq, Int.reduceNe, ne_eq, bne_self_eq_false, beq_self_eq_true, stm, h0]
    exact hq _ _ (.inr ⟨hok, .inl ⟨.inl (by omega), rfl⟩⟩) k02
  by_cases h16 : (16 : Int) < (L.length : Int)
  · simp only [stp, Nat.reduceAdd, Int.reduceLT, Int.reduceLE, Int.reduceEq, Int.reduceNe, ne_eq, bne_self_eq_false, beq_self_eq_true, stm, h0, h16]
    exact hq _ _ (.inr ⟨hok, .inl ⟨.inr (by omega), rfl⟩⟩) k02
  simp only [stp, Nat.reduceAdd, Int.reduceLT, Int.reduceLE, Int.reduceEq, Int.reduceNe, ne_eq, bne_self_eq_false, beq_self_eq_true, stm, h0, h16]
  have hl16 : 0 < L.length ∧ L.length ≤ 16 := by omega
  refine lpc1 L.length (by omega) (fun i w' => K0 w2 w' ∧ ∀ j (hj : j < L.length), j < i → mdOk L[j]) ⟨K0.refl _, fun j _ h => by omega⟩ (fun i w3 hi ⟨k3, hI⟩ J hJ => ?_) (fun w3 ⟨k3, hI⟩ J => ?_)
  · intro _j
    have hi' : ((i : Int) < (L.length : Int)) := by omega
    obtain ⟨g, o, c, e, p0, p1, p2⟩ := row_at (hL2.keep0 k3) hi
    injection e with eA _ eC
    subst eA eC
    have nxt : mdOk L[i] → ∀ j (hj : j < L.length), j < i + 1 → mdOk L[j] := fun hm j hj hji => by
      by_cases e : j = i
      · subst e; exact hm
      · exact hI j hj (by omega)
    by_cases m1 : L[i].2.2 = 1
    · simp only [stp, Nat.reduceAdd, Int.reduceLT, Int.reduceLE, Int.reduceEq, Int.reduceNe, ne_eq, bne_self_eq_false, beq_self_eq_true, stm, hi', ix_109 hi, cel_drew, p2, m1, Option.isSome_some, Option.getD_some]
      exact hJ _ ⟨k3, nxt (.inl m1)⟩
    by_cases m2 : L[i].2.2 = 2
    · simp only [stp, Nat.reduceAdd, Int.reduceLT, Int.reduceLE, Int.reduceEq, Int.reduceNe, ne_eq, bne_self_eq_false, beq_self_eq_true, stm, hi', ix_109 hi, cel_drew, p2, m1, m2, Option.isSome_some, Option.getD_some]
      exact hJ _ ⟨k3, nxt (.inr m2)⟩
    simp only [stp, Nat.reduceAdd, Int.reduceLT, Int.reduceLE, Int.reduceEq, Int.reduceNe, ne_eq, bne_self_eq_false, beq_self_eq_true, stm, hi', ix_109 hi, cel_drew, p2, m1, m2, Option.isSome_some, Option.getD_some]
    refine hq _ _ (.inr ⟨hok, .inr ⟨hl16, .inl ⟨fun h => ?_, rfl⟩⟩⟩) (k02.trans k3)
    exact (h _ (List.getElem_mem hi)).elim m1 m2
  · intro _j
    have hi' : ¬ ((L.length : Int) < (L.length : Int)) := by omega
    have hmd : ∀ k ∈ L, mdOk k := all_take fun j hj => hI j hj hj
    simp only [stp, Nat.reduceAdd, Int.reduceLT, Int.reduceLE, Int.reduceEq, Int.reduceNe, ne_eq, bne_self_eq_false, beq_self_eq_true, hi']
    refine lpc1 L.length (by omega) (fun i w' => K0 w3 w' ∧ ∀ j (hj : j < L.length), j < i → spOk s L[j]) ⟨K0.refl _, fun j _ h => by omega⟩ (fun i w4 hi ⟨k4, hI4⟩ J' hJ' => ?_) (fun w4 ⟨k4, hI4⟩ J' => ?_)
    · intro _j
      have hi' : ((i : Int) < (L.length : Int)) := by omega
      obtain ⟨g, o, c, e, p0, p1, p2⟩ := row_at ((hL2.keep0 k3).keep0 k4) hi
      injection e with eA _ eC
      subst eA eC
      have kd := (K0.refl w4).drew
      simp only [stp, Nat.reduceAdd, Int.reduceLT, Int.reduceLE, Int.reduceEq, Int.reduceNe, ne_eq, bne_self_eq_false, beq_self_eq_true, stm, hi', ix_109 hi, cel_drew, p0, p1, Option.isSome_some, Option.getD_some]
      refine rvalid_c fun w5 g5 => ?_
      have g5 : K0 w4.drew w5 := g5.1
      have k45 := kd.trans g5
      have q1 := k45.cel p1 id
      have e15 := ((k3.trans k4).trans k45).cel e12 id
      have nxt : spOk s L[i] → ∀ j (hj : j < L.length), j < i + 1 → spOk s L[j] := fun hm j hj hji => by
        by_cases e : j = i
        · subst e; exact hm
        · exact hI4 j hj (by omega)
      by_cases hok : ok (L[i].1, L[i].2.1)
      · by_cases hb : s.blocks < L[i].2.1
        · simp only [stp, Nat.reduceAdd, Int.reduceLT, Int.reduceLE, Int.reduceEq, Int.reduceNe, ne_eq, bne_self_eq_false, beq_self_eq_true, stm, hok, hb, ix_109 hi, cel_drew, q1, e15, decide_true, Option.isSome_some, Option.getD_some]
          refine hq _ _ (.inr ⟨by assumption, .inr ⟨hl16, .inr ⟨hmd, .inl ⟨fun h => ?_, rfl⟩⟩⟩⟩) (((k02.trans k3).trans k4).trans k45)
          have := (h _ (List.getElem_mem hi)).2
          omega
        · simp only [stp, Nat.reduceAdd, Int.reduceLT, Int.reduceLE, Int.reduceEq, Int.reduceNe, ne_eq, bne_self_eq_false, beq_self_eq_true, stm, hok, hb, ix_109 hi, cel_drew, q1, e15, decide_true, Option.isSome_some, Option.getD_some]
          exact hJ' _ ⟨k4.trans k45, nxt ⟨hok, by omega⟩⟩
      · simp only [stp, Nat.reduceAdd, Int.reduceLT, Int.reduceLE, Int.reduceEq, Int.reduceNe, ne_eq, bne_self_eq_false, beq_self_eq_true, stm, hok, decide_false]
        refine hq _ _ (.inr ⟨by assumption, .inr ⟨hl16, .inr ⟨hmd, .inl ⟨fun h => ?_, rfl⟩⟩⟩⟩) (((k02.trans k3).trans k4).trans k45)
        exact hok (h _ (List.getElem_mem hi)).1
    · intro _j
      have hi' : ¬ ((L.length : Int) < (L.length : Int)) := by omega
      simp only [stp, Nat.reduceAdd, Int.reduceLT, Int.reduceLE, Int.reduceEq, Int.reduceNe, ne_eq, bne_self_eq_false, beq_self_eq_true, hi']
      exact hq _ _ (.inr ⟨hok, .inr ⟨hl16, .inr ⟨hmd, .inr ⟨all_take fun j hj => hI4 j hj hj, rfl⟩⟩⟩⟩) ((k02.trans k3).trans k4)
theorem repeatL_one (n : Nat) : Lib.repeatL [0] n = List.replicate n (0 : UInt8) := by
  induction n with
  | zero => rfl
  | succ n ih => rw [Lib.repeatL, ih]; rfl
theorem str_zeros (n : Nat) : strOfNums (List.replicate n (0 : Int)) = zeros n := by
  unfold strOfNums zeros
  rw [List.map_replicate, repeatL_one]; rfl
theorem rpad_c {d : ByteArray} (hd : d.size ≤ 9223372036854775807) (hq0 : 96 < d.size → Q (.tuple #[.string ⟨#[]⟩, .int .i64 2]) w) (hq1 : ∀ w', d.size ≤ 96 → K0 w w' → Q (.tuple #[.string (padF d), .int .i64 0]) w') :
    callS Tryz.prog 80 #[.string d] Q w := by
  refine ref80 ?_
  unfold S80
  by_cases h : (96 : Int) < (d.size : Int)
  · simp only [stp, Nat.reduceAdd, Int.reduceLT, Int.reduceLE, Int.reduceEq, Int.reduceNe, ne_eq, bne_self_eq_false, beq_self_eq_true, stm, h]
    exact hq0 (by omega)
  · have e1 : IntKind.i64.wrap (96 - (d.size : Int)) = ((96 - d.size : Nat) : Int) := by rw [wrap_id (by omega) (by omega)]; omega
    simp only [stp, Nat.reduceAdd, Int.reduceLT, Int.reduceLE, Int.reduceEq, Int.reduceNe, ne_eq, bne_self_eq_false, beq_self_eq_true, stm, h, e1]
    refine mk_212 (base := siz w) (by omega) (Nat.le_refl _) fun w1 o1 k1 _ => ?_
    rw [act_eq (run_convert_bytes_arg _ 212 5 Tryz.underlying212 Tryz.underlying5 (siz w) 0 (96 - d.size) (96 - d.size) (List.replicate (96 - d.size) 0) (by simp) (fun i hi => by
      obtain ⟨g, c, e, _, _, _, _, _, hc⟩ := o1.at (by omega)
      injection e with e1 _ e2
      injection e1 with e1
      injection e1 with e1
      subst e1
      rw [cell_cel, Nat.zero_add, hc i (by omega), List.getElem?_replicate, if_pos hi]
      simp [List.getD, List.getElem?_replicate, hi]) 9 Tryz.underlying9)]
    rw [str_zeros, pur_sadd (by rw [zeros_size]; omega)]
    exact hq1 _ (by omega) k1
end
end Go.Proofs.YtndjohbbaplekaaGreatX
