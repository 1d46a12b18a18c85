/- A transaction: making it; a block's bytes; writing. Conditions: as each says. -/
import Derived.Test.YtdnbegjamoeahaaGreatUTxC
set_option linter.unusedSimpArgs false
set_option linter.unusedVariables false
namespace Go.Proofs.YtdnbegjamoeahaaGreatU
open Go.Sh Go.Proofs.YtdnbegjamoeahaaGreatU.Mi
set_option maxRecDepth 100000
section
variable {w w' : World} {Q : Value → World → Prop} {B t m a b : Nat} {s : TS}
theorem tm_new : TM (w.alloc (.map #[] 0)) (siz w) [] :=
  ⟨by rw [Sh.mp, blk_alloc_new]; rfl, #[], 0, blk_alloc_new, by constructor <;> simp⟩
theorem TXr.le {A : Nat} (h : TXr w B t s m a b) (hA : A ≤ B) : TXr w A t s m a b :=
  { h with Bt := Nat.le_trans hA h.Bt, Bm := Nat.le_trans hA h.Bm, Ba := Nat.le_trans hA h.Ba, Bb := Nat.le_trans hA h.Bb }
theorem TX.le {A : Nat} (h : TX w B t s) (hA : A ≤ B) : TX w A t s := by obtain ⟨m, a, b, h⟩ := h; exact ⟨m, a, b, h.le hA⟩
theorem tnew_c {s : Sh5} {v : Value} {L : List I3} (hL : Rd 3 w v L.length (flat enc3 L)) (hlen : L.length ≤ 1000000)
    (hq0 : ∀ w' e, CkIs s L e → e ≠ 0 → K0 w w' → Q (.tuple #[.pointer none, .int .i64 e]) w')
    (hq1 : ∀ w' t l, CkIs s L 0 → siz w ≤ t → (∀ x, valB l x = askF L x) → l.length ≤ 4 * L.length → TX w' (siz w) t ⟨s, l, [], []⟩ → K0 w w' → Q (.tuple #[.pointer (some ⟨t, 0, none⟩), .int .i64 0]) w') :
    callS Tryz.prog 95 #[.agg s.vals.toArray, v] Q w := by
  refine ref95 ?_
  unfold S95
  rw [act_box]
  generalize hw1 : w.alloc _ = w1
  have b1 : blk w1 (siz w) = some (.cells s.vals.toArray 142) := by rw [← hw1]; exact blk_alloc_new
  have k1 : K0 w w1 := by rw [← hw1]; exact (K0.refl w).alloc _
  have s1 : siz w1 = siz w + 1 := by rw [← hw1, siz_alloc]
  have e0 : Sh.cel w1 (siz w) 0 = some (.int .i64 s.nodes) := cel_b b1 0
  have e1 : Sh.cel w1 (siz w) 1 = some (.int .i64 s.blocks) := cel_b b1 1
  have e2 : Sh.cel w1 (siz w) 2 = some (.int .i64 s.log) := cel_b b1 2
  have e3 : Sh.cel w1 (siz w) 3 = some (.int .i64 s.cache) := cel_b b1 3
  have e4 : Sh.cel w1 (siz w) 4 = some (.int .i64 s.lease) := cel_b b1 4
  simp only [stp, Nat.reduceAdd, Int.reduceLT, Int.reduceLE, Int.reduceEq, Int.reduceNe, ne_eq, bne_self_eq_false, beq_self_eq_true, e0, e1, e2, e3, e4, Option.isSome_some, Option.getD_some]
  refine tcheck_c (s := s) (hL.keep0 k1) hlen fun w2 e he k2 => ?_
  have k02 := k1.trans k2
  have s2 := k2.size
  by_cases hne : e = 0
  rotate_left
  · simp only [stp, Nat.reduceAdd, Int.reduceLT, Int.reduceLE, Int.reduceEq, Int.reduceNe, ne_eq, bne_self_eq_false, beq_self_eq_true, hne, decide_true]
    exact hq0 _ _ he hne k02
  subst hne
  simp only [stp, Nat.reduceAdd, Int.reduceLT, Int.reduceLE, Int.reduceEq, Int.reduceNe, ne_eq, bne_self_eq_false, beq_self_eq_true]
  have hok : s.ok := by
    rcases he with ⟨_, h⟩ | ⟨h, _⟩
    · cases h
    · exact h
  refine jn1 (fun x w' => ∃ t, x = .pointer (some ⟨t, 0, none⟩) ∧ siz w ≤ t ∧ TX w' (siz w) t ⟨s, [], [], []⟩ ∧ K0 w2 w') (fun J hJ => ?_) ?_
  · have bS : blk w2.drew (siz w) = some (.cells s.vals.toArray 142) := k2.blk b1 id
    refine ⟨fun w' => blk w' (siz w) = some (.cells s.vals.toArray 142), bS, ?_⟩
    refine hld_of (.agg s.vals.toArray) (fun w' hw => run_loadN (n := 5) (fun w => Tryz.isAgg142 w) (fun w => Tryz.sizeOf142 w) (fun j => s.vals.toArray[j]?.getD undef) fun j hj => ?_) ?_
    · have hw : blk w' (siz w) = some (.cells s.vals.toArray 142) := hw
      rw [Nat.zero_add, cel_b hw]
      match j, hj with
      | 0, _ => rfl
      | 1, _ => rfl
      | 2, _ => rfl
      | 3, _ => rfl
      | 4, _ => rfl
    have fin : ∀ {w5 : World} {m a b : Nat}, K0 w2.drew w5 → IM w5 m [] → TM w5 a [] → TM w5 b [] → a ≠ b → siz w ≤ m → siz w ≤ a → siz w ≤ b → blk w5 (siz w) = some (.cells s.vals.toArray 142) ∧
        pur Tryz.prog (Instr.build 179 #[(0, .agg s.vals.toArray), (1, .pointer (some ⟨m, 0, none⟩)), (2, .map (some a)), (3, .map (some b))]) fun t20 => blk (w5.alloc (.cells t20.cells 179)) (siz w) = some (.cells s.vals.toArray 142) ∧ J (.pointer (some ⟨siz w5, 0, none⟩)) (w5.alloc (.cells t20.cells 179)) := fun {w5 m a b} k hm ha hb hne h1 h2 h3 => by
      have bS5 := k.blk bS id
      have hs : (Value.agg s.vals.toArray) = .agg #[.int .i64 s.nodes, .int .i64 s.blocks, .int .i64 s.log, .int .i64 s.cache, .int .i64 s.lease] := rfl
      refine ⟨bS5, ?_⟩
      rw [hs]
      simp only [stp, Nat.reduceAdd, Int.reduceLT, Int.reduceLE, Int.reduceEq, Int.reduceNe, ne_eq, bne_self_eq_false, beq_self_eq_true]
      have k6 : K0 w5 (w5.alloc (.cells (TS.cells ⟨s, [], [], []⟩ m a b) 179)) := (K0.refl w5).alloc _
      have s5 := k.size
      have s5' : siz w2.drew = siz w2 := rfl
      refine ⟨k6.blk bS5 id, hJ _ _ ⟨siz w5, rfl, by omega, ⟨m, a, b, blk_alloc_new, im_keepM hm k6 (fun _ _ _ _ _ => id), ha.keep k6 id, hb.keep k6 id, hne, by omega, h1, h2, h3, hok, by simp⟩, ((K0.refl w2).drew.trans k).trans k6⟩⟩
    have st : ∀ {w5 : World}, K0 w2.drew w5 → blk w5 (siz w) = some (.cells s.vals.toArray 142) := fun {w5} k => k.blk bS id
    have sd : siz w2.drew = siz w2 := rfl
    have ka : ∀ {u : World}, K0 u (u.alloc (.map #[] 0)) := fun {u} => (K0.refl u).alloc _
    have sa : ∀ {u : World}, siz (u.alloc (.map #[] 0)) = siz u + 1 := siz_alloc
    have hi : ∀ {u : World}, K0 w2.drew u → siz w ≤ siz u := fun {u} k => by have := k.size; omega
    refine ⟨?_, ?_, ?_⟩
    · refine new_c fun w3 m3 k3 => ⟨st k3, ?_, ?_⟩
      · refine ⟨st (k3.trans ka), ?_⟩
        have := hi k3
        exact fin ((k3.trans ka).trans ka) ((m3.keep0 ka).keep0 ka) (tm_new.keep ka id) tm_new (by rw [sa]; omega) (by omega) (by omega) (by rw [sa]; omega)
      · refine ⟨st (k3.trans ka), ?_⟩
        have := hi k3
        exact fin ((k3.trans ka).trans ka) ((m3.keep0 ka).keep0 ka) tm_new (tm_new.keep ka id) (by rw [sa]; omega) (by omega) (by rw [sa]; omega) (by omega)
    · refine ⟨st ka, ?_, ?_⟩
      · refine new_c fun w3 m3 k3 => ⟨st (ka.trans k3), ?_⟩
        have h1 := hi (ka.trans k3)
        have h2 := k3.size
        rw [sa] at h2
        exact fin ((ka.trans k3).trans ka) (m3.keep0 ka) ((tm_new.keep k3 id).keep ka id) tm_new (by omega) (by rw [sa]; omega) (by omega) (by omega)
      · refine ⟨st (ka.trans ka), ?_⟩
        refine new_c fun w3 m3 k3 => ?_
        have h2 := k3.size
        rw [sa, sa] at h2
        exact fin ((ka.trans ka).trans k3) m3 ((tm_new.keep ka id).keep k3 id) (tm_new.keep k3 id) (by rw [sa]; omega) (by rw [sa, sa]; omega) (by omega) (by rw [sa]; omega)
    · refine ⟨st ka, ?_, ?_⟩
      · refine new_c fun w3 m3 k3 => ⟨st (ka.trans k3), ?_⟩
        have h1 := hi (ka.trans k3)
        have h2 := k3.size
        rw [sa] at h2
        exact fin ((ka.trans k3).trans ka) (m3.keep0 ka) tm_new ((tm_new.keep k3 id).keep ka id) (by omega) (by rw [sa]; omega) (by omega) (by omega)
      · refine ⟨st (ka.trans ka), ?_⟩
        refine new_c fun w3 m3 k3 => ?_
        have h2 := k3.size
        rw [sa, sa] at h2
        exact fin ((ka.trans ka).trans k3) m3 (tm_new.keep k3 id) ((tm_new.keep ka id).keep k3 id) (by rw [sa]; omega) (by rw [sa, sa]; omega) (by rw [sa]; omega) (by omega)
  · rintro x w3 ⟨t, rfl, ht, h3, k3⟩ _j
    have k03 := k02.trans k3
    refine mnorm_c (hL.keep0 k03) (by have := he; rcases he with ⟨_, h⟩ | ⟨_, ⟨_, h⟩ | ⟨h, _⟩⟩ <;> omega) fun w4 v4 l' hc4 hv4 hl4 o4 k4 => ?_
    have k4 := k4.old'
    have lenA := asLocks_len l'
    have hL16 : L.length ≤ 16 := by rcases he with ⟨_, h⟩ | ⟨_, ⟨_, h⟩ | ⟨h, _⟩⟩ <;> omega
    obtain ⟨m, a, b, h3⟩ := h3
    have h4 := h3.keep0 k4
    have hm3 := h3.im.lt
    have ag : ∀ i (hi : i < l'.length), (asLocks l')[i]? = some (l'[i].1.1, l'[i].1.2, l'[i].2) := fun i hi => by
      unfold asLocks; rw [List.getElem?_map, List.getElem?_eq_getElem hi]; rfl
    obtain ⟨pa, ca, rfl⟩ := o4.form
    have lnv : ∀ {k : Value → Prop}, pur Tryz.prog (Builtin.len_ #[129] 3 #[.slice pa (asLocks l').length ca]) k = k (.int .i64 (l'.length : Int)) := by intro k; rw [ln_129, lenA]
    rw [lnv]
    refine lpc1 l'.length (by omega) (fun i w' => K0 w w' ∧ Sh.Own w' (siz w3) 148 3 (.slice pa (asLocks l').length ca) (asLocks l').length (flat enc3 (asLocks l')) ∧ ∃ l, (∀ x, valB l x = valB (l'.take i) x) ∧ l.length ≤ 2 * i ∧ TXr w' (siz w) t ⟨s, l, [], []⟩ m a b) ⟨k03.trans k4, o4, [], fun x => by simp [valB], by simp, h4⟩ (fun i w5 hi ⟨k5, o5, l, hvl, hll, h5⟩ J hJ => ?_) (fun w5 ⟨k5, o5, l, hvl, hll, h5⟩ J => ?_)
    · intro _j
      have hi' : ((i : Int) < (l'.length : Int)) := by omega
      obtain ⟨g, cg, e, _, _, _, _, _, hcel⟩ := o5.at (by omega)
      injection e with e1' _ e2'
      subst e1' e2'
      obtain ⟨p0, p1, p2⟩ := locks_at (b := g) (o := 0) (L := asLocks l') (fun j hj => by rw [Nat.zero_add]; exact hcel j hj) (ag i hi)
      rw [Nat.zero_add] at p0 p1 p2
      simp only [stp, Nat.reduceAdd, Int.reduceLT, Int.reduceLE, Int.reduceEq, Int.reduceNe, ne_eq, bne_self_eq_false, beq_self_eq_true, hi']
      rw [ix_129 (show i < (asLocks l').length by omega)]
      simp only [stp, Nat.reduceAdd, Int.reduceLT, Int.reduceLE, Int.reduceEq, Int.reduceNe, ne_eq, bne_self_eq_false, beq_self_eq_true, stm, p0, p1, p2, Option.isSome_some, Option.getD_some]
      generalize hw6 : w5.alloc _ = w6
      have b6 : blk w6 (siz w5) = some (.cells #[.int .i64 l'[i].1.1, .int .i64 l'[i].1.2, .int .i64 l'[i].2] 148) := by rw [← hw6]; exact blk_alloc_new
      have k6 : K0 w5 w6 := by rw [← hw6]; exact (K0.refl w5).alloc _
      have d0 : Sh.cel w6 (siz w5) 0 = some (.int .i64 l'[i].1.1) := cel_b b6 0
      have d1 : Sh.cel w6 (siz w5) 1 = some (.int .i64 l'[i].1.2) := cel_b b6 1
      have d2 : Sh.cel w6 (siz w5) 2 = some (.int .i64 l'[i].2) := cel_b b6 2
      have h6 := h5.keep0 k6
      have c5 : Sh.cel w6 t 5 = some (.pointer (some ⟨m, 0, none⟩)) := h6.cel 5
      simp only [stp, Nat.reduceAdd, Int.reduceLT, Int.reduceLE, Int.reduceEq, Int.reduceNe, ne_eq, bne_self_eq_false, beq_self_eq_true, stm, cel_drew, d0, d1, d2, c5, Option.isSome_some, Option.getD_some]
      have h6' : TXr w6.drew (siz w) t ⟨s, l, [], []⟩ m a b := h6.keep0 ((K0.refl w6).drew)
      have hok' := hc4.1 _ (List.getElem_mem hi)
      refine set_ok (v := l'[i].2) h6'.im hok' (by show l.length ≤ _; omega) fun w7 l7 m7 hv7 hl7 k7 => ?_
      refine hJ _ ⟨?_, ?_, l7, fun x => ?_, ?_, h6'.setL k7 m7 ?_⟩
      · have hBm := h5.Bm
        exact ((k5.trans k6).drew).trans' k7 fun q hq e => by
          have e : q = m := e
          omega
      · refine (o5.keep (k6.drew) fun _ _ => id).keep k7 fun q hq e => ?_
        have e : q = m := e
        have := (o5.lt hq).1
        omega
      · rw [hv7, (take_val hc4.apart hi x).1]
        split
        · rfl
        · exact hvl x
      · have hl7 : l7.length ≤ l.length + 2 := hl7
        omega
      · have hl7 : l7.length ≤ l.length + 2 := hl7
        omega
    · intro _j
      have hi' : ¬ ((l'.length : Int) < (l'.length : Int)) := by omega
      simp only [stp, Nat.reduceAdd, Int.reduceLT, Int.reduceLE, Int.reduceEq, Int.reduceNe, ne_eq, bne_self_eq_false, beq_self_eq_true, hi']
      refine hq1 _ t l he ht (fun x => ?_) (by omega) ⟨m, a, b, h5⟩ k5
      rw [hvl, List.take_length, hv4]
end
end Go.Proofs.YtdnbegjamoeahaaGreatU
