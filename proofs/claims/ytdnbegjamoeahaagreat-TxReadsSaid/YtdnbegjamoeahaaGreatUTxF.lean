/- A transaction: the first call whose answer the document fixes. Conditions: none. -/
import Derived.Test.YtdnbegjamoeahaaGreatUTxE
set_option linter.unusedSimpArgs false
set_option linter.unusedVariables false
namespace Go.Proofs.YtdnbegjamoeahaaGreatU
open Go.Sh Go.Proofs.YtdnbegjamoeahaaGreatU.Mi
set_option maxRecDepth 100000
section
variable {w w' : World} {Q : Value → World → Prop} {B t m a b : Nat} {s : TS}
abbrev shp : Sh5 := ⟨2, 10, 8, 4, 32⟩
theorem shp_ok : shp.ok := ⟨by decide, by decide, by decide, by decide, by decide⟩
theorem shape_c (hq : ∀ w', K0 w w' → Q (.agg shp.vals.toArray) w') : callS Tryz.prog 100 #[] Q w := by
  refine ref100 ?_
  unfold S100
  rw [al_142]
  generalize hw1 : w.alloc _ = w1
  have b1 : blk w1 (siz w) = some (.cells #[.int .i64 0, .int .i64 0, .int .i64 0, .int .i64 0, .int .i64 0] 142) := by rw [← hw1]; exact blk_alloc_new
  have k1 : K0 w w1 := by rw [← hw1]; exact (K0.refl w).alloc _
  have e0 : ∀ o, Sh.cel w1 (siz w) o = (#[.int .i64 0, .int .i64 0, .int .i64 0, .int .i64 0, .int .i64 0] : Array Value)[o]? := fun o => cel_b b1 o
  have i0 : (Sh.cel w1 (siz w) 0).isSome = true := by rw [e0]; rfl
  have i1 : (Sh.cel w1 (siz w) 1).isSome = true := by rw [e0]; rfl
  have i2 : (Sh.cel w1 (siz w) 2).isSome = true := by rw [e0]; rfl
  have i3 : (Sh.cel w1 (siz w) 3).isSome = true := by rw [e0]; rfl
  have i4 : (Sh.cel w1 (siz w) 4).isSome = true := by rw [e0]; rfl
  simp only [stp, Nat.reduceAdd, Int.reduceLT, Int.reduceLE, Int.reduceEq, Int.reduceNe, ne_eq, bne_self_eq_false, beq_self_eq_true, stm, i0, i1, i2, i3, i4, fre_b b1]
  have kF : K0 w (stoL w1 (siz w) 0 shp.vals) := k1.stoL _ 0 (.inr (Nat.le_refl _))
  have bF : blk (stoL w1 (siz w) 0 shp.vals) (siz w) = some (.cells shp.vals.toArray 142) := blk_stoL_all (zs := [.int .i64 0, .int .i64 0, .int .i64 0, .int .i64 0, .int .i64 0]) (xs := shp.vals) rfl b1
  rw [show ([Value.int .i64 2, .int .i64 10, .int .i64 8, .int .i64 4, .int .i64 32]) = shp.vals from rfl]
  generalize stoL w1 (siz w) 0 shp.vals = w3 at kF bF
  have d0 : Sh.cel w3 (siz w) 0 = some (.int .i64 2) := cel_b bF 0
  have d1 : Sh.cel w3 (siz w) 1 = some (.int .i64 10) := cel_b bF 1
  have d2 : Sh.cel w3 (siz w) 2 = some (.int .i64 8) := cel_b bF 2
  have d3 : Sh.cel w3 (siz w) 3 = some (.int .i64 4) := cel_b bF 3
  have d4 : Sh.cel w3 (siz w) 4 = some (.int .i64 32) := cel_b bF 4
  simp only [stp, Nat.reduceAdd, Int.reduceLT, Int.reduceLE, Int.reduceEq, Int.reduceNe, ne_eq, bne_self_eq_false, beq_self_eq_true, d0, d1, d2, d3, d4, Option.isSome_some, Option.getD_some]
  exact hq _ kF
theorem ask_in {L : List I3} {x v : Int} (h : askF L x = some v) : ∃ k ∈ L, 0 ≤ k.1 ∧ k.1 ≤ x ∧ x < k.2.1 ∧ k.2.2 = v := by
  have := askF_is L x
  rw [h] at this
  obtain ⟨⟨k, hk, ⟨_, h1, h2, h3⟩, hv⟩, _⟩ := this
  exact ⟨k, hk, h1.1, h2, h3, hv⟩
theorem ck_ok {s : Sh5} {L : List I3} (h : CkIs s L 0) : s.ok ∧ 0 < L.length ∧ L.length ≤ 16 ∧ (∀ k ∈ L, mdOk k) ∧ ∀ k ∈ L, spOk s k := by
  rcases h with ⟨_, h⟩ | ⟨h0, ⟨_, h⟩ | ⟨h1, ⟨_, h⟩ | ⟨h2, ⟨_, h⟩ | ⟨h3, _⟩⟩⟩⟩
  · cases h
  · cases h
  · cases h
  · cases h
  · exact ⟨h0, h1.1, h1.2, h2, h3⟩
theorem ck_in {s : Sh5} {L : List I3} {x v : Int} (h : CkIs s L 0) (hv : askF L x = some v) : 0 ≤ x ∧ x < s.blocks ∧ s.blocks ≤ 4096 ∧ (v = 1 ∨ v = 2) := by
  obtain ⟨h0, _, _, _, h3⟩ := ck_ok h
  obtain ⟨k, hk, h1, h2, h4, _⟩ := ask_in hv
  have := (h3 k hk).2
  have := h0.b
  exact ⟨by omega, by omega, by omega, askF_mode hv⟩
theorem _root_.Go.Sh.Keep.ko {A : Nat} {p : Obj → Bool} {w'' : World} (h : Keep (fun _ => False) w w') (k : KO A p w' w'') (hA : siz w ≤ A) : K0 w w'' := h.trans' k fun b hb hk => by have := hk.1; omega
theorem mostF_8 : mostF 8 = 1 := by decide
theorem run_padx : (padF ⟨#[120]⟩)[0]? = some 120 := by decide +kernel
/-- The first call. -/
theorem alive_c (hq : ∀ w', K0 w w' → Q (.bool true) w') : callS Tryz.prog 94 #[] Q w := by
  refine ref94 ?_
  unfold S94
  refine shape_c fun w1 k1 => ?_
  simp only [stp, Nat.reduceAdd, Int.reduceLT, Int.reduceLE, Int.reduceEq, Int.reduceNe, ne_eq, bne_self_eq_false, beq_self_eq_true]
  have k2 := (K0.refl w1).alloc (.cells #[.int .i64 0, .int .i64 5, .int .i64 1] 148)
  have r2 : Rd 3 (w1.alloc (.cells #[.int .i64 0, .int .i64 5, .int .i64 1] 148)) (.slice (some ⟨siz w1, 0, none⟩) 1 1) [((0, 5, 1) : I3)].length (flat enc3 [((0, 5, 1) : I3)]) :=
    ⟨rfl, .inr ⟨siz w1, 0, 1, rfl, by simp, fun j hj => by rw [Nat.zero_add, cel_alloc_new, List.getElem?_toArray]; rfl⟩⟩
  generalize w1.alloc (.cells #[.int .i64 0, .int .i64 5, .int .i64 1] 148) = w2 at k2 r2
  have hck : ∀ e, CkIs shp [((0, 5, 1) : I3)] e → e = 0 := fun e he => by
    have hm : ∀ k ∈ [((0, 5, 1) : I3)], mdOk k := fun k hk => by rw [List.mem_singleton.1 hk]; exact .inl rfl
    have hs : ∀ k ∈ [((0, 5, 1) : I3)], spOk shp k := fun k hk => by rw [List.mem_singleton.1 hk]; exact ⟨by decide, by decide⟩
    rcases he with ⟨h, _⟩ | ⟨_, ⟨h, _⟩ | ⟨_, ⟨h, _⟩ | ⟨_, ⟨h, _⟩ | ⟨_, h⟩⟩⟩⟩
    · exact absurd shp_ok h
    · simp at h
    · exact absurd hm h
    · exact absurd hs h
    · exact h
  refine tnew_c (s := shp) r2 (by simp) (fun w3 e he hne _ => absurd (hck e he) hne) fun w3 t l _ ht hvl hll h3 k3 => ?_
  have k03 := (k1.trans k2).trans k3
  have s1 := k1.size
  have s2 := k2.size
  have v3 : valB l 3 = some 1 := by rw [hvl]; decide +kernel
  have hck0 : CkIs shp [((0, 5, 1) : I3)] 0 := by assumption
  have hin : ∀ x v, valB l x = some v → 0 ≤ x ∧ x < 4096 := fun x v hv => by
    rw [hvl] at hv
    have := ck_in hck0 hv
    have h10 : x < 10 := this.2.1
    exact ⟨this.1, by omega⟩
  simp only [stp, Nat.reduceAdd, Int.reduceLT, Int.reduceLE, Int.reduceEq, Int.reduceNe, ne_eq, bne_self_eq_false, beq_self_eq_true, stm]
  have hd : (⟨#[120]⟩ : ByteArray).size ≤ 9223372036854775807 := by decide
  refine twrite_c h3 hd (by simp) fun w4 h4 k4 => ?_
  have e4 : wrC ⟨shp, l, [], []⟩ 3 ⟨#[120]⟩ = 13 := by unfold wrC; rw [if_neg (by rw [v3]; simp), if_neg (by decide), if_pos (by rw [v3]; decide)]
  have e4' : wrS ⟨shp, l, [], []⟩ 3 ⟨#[120]⟩ = ⟨shp, l, [], []⟩ := by unfold wrS; rw [e4]; rfl
  rw [e4'] at h4
  rw [e4]
  simp only [stp, Nat.reduceAdd, Int.reduceLT, Int.reduceLE, Int.reduceEq, Int.reduceNe, ne_eq, bne_self_eq_false, beq_self_eq_true, stm]
  refine tneeds_c h4 (fun _ => by decide) (by decide) (fun w5 _ k5 => ?_) (fun w5 hno _ => absurd v3 hno)
  simp only [stp, Nat.reduceAdd, Int.reduceLT, Int.reduceLE, Int.reduceEq, Int.reduceNe, ne_eq, bne_self_eq_false, beq_self_eq_true, stm]
  generalize hw6 : w5.alloc _ = w6
  have b6 : blk w6 (siz w5) = some (.cells #[.int .i64 3, .int .i64 (3 + 1), .int .i64 2] 148) := by rw [← hw6]; exact blk_alloc_new
  have k6 : K0 w5 w6 := by rw [← hw6]; exact (K0.refl w5).alloc _
  have h6 := (h4.keep0 k5).keep0 k6
  refine tgrow_c h6 hin (by decide) (fun w7 l7 _ hv7 h7 k7 => ?_) (fun w7 hno _ => absurd v3 hno) (by show l.length ≤ _; have : [((0, 5, 1) : I3)].length = 1 := rfl; omega)
  refine twrite_c h7 hd (by simp) fun w8 h8 k8 => ?_
  have v7 : valB l7 3 = some 2 := by rw [hv7, if_pos rfl]
  have e8 : wrC ⟨shp, l7, [], []⟩ 3 ⟨#[120]⟩ = 0 := by
    unfold wrC; rw [if_neg (by rw [v7]; simp), if_neg (by decide), if_neg (by rw [v7]; simp), if_neg]
    rintro ⟨_, h⟩
    rw [mostF_8] at h
    exact absurd h (show ¬ (min (1 : Int) 4 ≤ ((0 : Nat) : Int)) by decide)
  have e8' : wrS ⟨shp, l7, [], []⟩ 3 ⟨#[120]⟩ = ⟨shp, l7, [(3, padF ⟨#[120]⟩)], []⟩ := by unfold wrS; rw [if_pos e8]; rfl
  rw [e8'] at h8
  have e8 : wrC { sh := shp, l := l7, wr := [], rd := [] } 3 ⟨#[120]⟩ = 0 := e8
  simp only [e8]
  refine twrote_c' h8 ?_
  have b8 := k8.blk (k7.blk b6 rfl) rfl
  have d0 : Sh.cel w8 (siz w5) 0 = some (.int .i64 3) := cel_b b8 0
  have d1 : Sh.cel w8 (siz w5) 1 = some (.int .i64 4) := cel_b b8 1
  have d2 : Sh.cel w8 (siz w5) 2 = some (.int .i64 2) := cel_b b8 2
  have hl : lkp 3 [(3, padF ⟨#[120]⟩)] = some (padF ⟨#[120]⟩) := rfl
  have hsz : (padF ⟨#[120]⟩).size = 96 := padF_size (by decide)
  have six : ∀ {k : Value → Prop}, pur Tryz.prog (Instr.index 9 (.string (padF ⟨#[120]⟩)) (.int .i64 0)) k = k (.int .u8 120) := fun {k} => pur_eq fun w => run_strIndex (i := 0) (fun w => Tryz.runUnderlying9 w) run_padx w
  simp only [stp, Nat.reduceAdd, Int.reduceLT, Int.reduceLE, Int.reduceEq, Int.reduceNe, ne_eq, bne_self_eq_false, beq_self_eq_true, stm, d0, d1, d2, hl, hsz, six, Option.isSome_some, Option.getD_some, decide_true, Bool.and_self, Int.reduceAdd, Int.cast_ofNat_Int]
  have hB : siz w ≤ siz w2 := by omega
  exact hq _ ((((((k03.ko k4 hB).trans k5).trans k6).ko k7 hB).ko k8 hB))
end
end Go.Proofs.YtdnbegjamoeahaaGreatU
