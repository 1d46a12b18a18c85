/- HistOrder: commits of the same blocks change places in a history only where nobody reads between them. Conditions: none. -/
import Derived.Test.YtmmnifbponhhfaaHistH
set_option linter.unusedSimpArgs false
set_option linter.unusedVariables false
namespace Go.Proofs.Ytmmnifbponhhfaa
open Go.Sh Go.Sh.Hi
set_option maxRecDepth 100000
section
variable {w w' : World} {Q : Value → World → Prop} {l : List Ev} {v : Value}
/-! ### one image, one event in memory -/
def BI (w : World) (g : Nat) (i : Im) : Prop := Sh.blk w g = some (.cells #[.int .i64 i.1, .int .u64 i.2.1, .string i.2.2] tIm)
def BE (w : World) (g : Nat) (e : Ev) : Prop := Sh.blk w g = some (.cells #[.int .i64 e.kind, .int .i64 e.node, .int .u64 e.epoch, .int .u64 e.lsn, e.rv, e.wv] tEv)
theorem st_im {g : Nat} {j i : Im} {K : Value → World → Prop} (hb : BI w g j) (h : ∀ w', BI w' g i → Keep (fun q => q = g) w w' → K undef w') : act Try.prog (thenU (Instr.storeAt tIm (.pointer (some ⟨g, 0, none⟩)) (agI i))) K w := by
  have q : ∀ o, Sh.cel w g o = (#[.int .i64 j.1, .int .u64 j.2.1, .string j.2.2] : Array Value)[o]? := fun o => cel_b hb o
  rw [st_29 one_int one_int one_str (by rw [q]; rfl) (by rw [q]; rfl) (by rw [q]; rfl) (fre_b hb)]
  refine h _ (blk_stoL_all (zs := encM j) (xs := encM i) rfl hb) ((Keep.refl (fun q => q = g) w).stoL _ 0 (.inl rfl))
theorem st_ev {g : Nat} {j e : Ev} {K : Value → World → Prop} (hb : BE w g j) (h1 : Go.Sh.one e.rv = true) (h2 : Go.Sh.one e.wv = true) (h : ∀ w', BE w' g e → Keep (fun q => q = g) w w' → K undef w') : act Try.prog (thenU (Instr.storeAt tEv (.pointer (some ⟨g, 0, none⟩)) (agE e))) K w := by
  have q : ∀ o, Sh.cel w g o = (#[.int .i64 j.kind, .int .i64 j.node, .int .u64 j.epoch, .int .u64 j.lsn, j.rv, j.wv] : Array Value)[o]? := fun o => cel_b hb o
  rw [st_32 one_int one_int one_int one_int h1 h2 (by rw [q]; rfl) (by rw [q]; rfl) (by rw [q]; rfl) (by rw [q]; rfl) (by rw [q]; rfl) (by rw [q]; rfl) (fre_b hb)]
  refine h _ (blk_stoL_all (zs := encE j) (xs := encE e) rfl hb) ((Keep.refl (fun q => q = g) w).stoL _ 0 (.inl rfl))
theorem st_data {g : Nat} {i : Im} {s : ByteArray} {K : Value → World → Prop} (hb : BI w g i) (h : ∀ w', BI w' g (i.1, i.2.1, s) → Keep (fun q => q = g) w w' → K undef w') : act Try.prog (thenU (Instr.storeAt 9 (.pointer (some ⟨g, 2, none⟩)) (.string s))) K w := by
  rw [st_9 one_str (by rw [cel_b hb]; rfl) (fre_b hb)]
  refine h _ ?_ ((Keep.refl (fun q => q = g) w).sto (.inl rfl) _ _)
  show Sh.blk _ _ = _
  rw [blk_sto hb]; rfl
theorem st_rv {g : Nat} {e : Ev} {x : Value} {K : Value → World → Prop} (hb : BE w g e) (hx : ∃ a n c, x = .slice a n c) (rd : List Im) (h : ∀ w', BE w' g { e with rv := x, rd := rd } → Keep (fun q => q = g) w w' → K undef w') : act Try.prog (thenU (Instr.storeAt 25 (.pointer (some ⟨g, 4, none⟩)) x)) K w := by
  obtain ⟨a, n, c, rfl⟩ := hx
  rw [st_25 one_slice (by rw [cel_b hb]; rfl) (fre_b hb)]
  refine h _ ?_ ((Keep.refl (fun q => q = g) w).sto (.inl rfl) _ _)
  show Sh.blk _ _ = _
  rw [blk_sto hb]; rfl
theorem ld_im {g : Nat} {i : Im} {K : Value → Prop} (hb : BI w g i) (h : K (agI i)) : rd Try.prog (Instr.loadAt tIm (.pointer (some ⟨g, 0, none⟩))) K w := by
  rw [rd_eq (rlI hb)]; exact h
theorem ld_data {g : Nat} {i : Im} {K : Value → Prop} (hb : BI w g i) (h : K (.string i.2.2)) : rd Try.prog (Instr.loadAt 9 (.pointer (some ⟨g, 2, none⟩))) K w := by
  rw [rd_eq (rl_9 (cel_b hb 2))]; exact h
theorem rlE {b : Nat} {e : Ev} (hb : BE w b e) : (Instr.loadAt tEv (.pointer (some ⟨b, 0, none⟩))).run Try.prog w = .ok (agE e) w :=
  run_loadN (n := 6) (fun w => Try.isAgg32 w) (fun w => Try.sizeOf32 w) (fun j => if j = 0 then .int .i64 e.kind else if j = 1 then .int .i64 e.node else if j = 2 then .int .u64 e.epoch else if j = 3 then .int .u64 e.lsn else if j = 4 then e.rv else e.wv) fun
    | 0, _ => cel_b hb 0
    | 1, _ => cel_b hb 1
    | 2, _ => cel_b hb 2
    | 3, _ => cel_b hb 3
    | 4, _ => cel_b hb 4
    | 5, _ => cel_b hb 5
    | j + 6, hj => absurd hj (by omega)
theorem ld_ev {g : Nat} {e : Ev} {K : Value → Prop} (hb : BE w g e) (h : K (agE e)) : rd Try.prog (Instr.loadAt tEv (.pointer (some ⟨g, 0, none⟩))) K w := by
  rw [rd_eq (rlE hb)]; exact h
abbrev NS : Value := .slice none 0 0
theorem al_im {K : Value → World → Prop} (h : ∀ w' g, K0 w w' → siz w ≤ g → siz w' = g + 1 → BI w' g (0, 0, ⟨#[]⟩) → K (.pointer (some ⟨g, 0, none⟩)) w') : act Try.prog (Instr.alloc tIm true (.tuple #[])) K w := by
  rw [al_29]
  exact h _ _ ((K0.refl w).alloc _) (Nat.le_refl _) siz_alloc blk_alloc_new
theorem al_ev {K : Value → World → Prop} (h : ∀ w' g, K0 w w' → siz w ≤ g → siz w' = g + 1 → BE w' g ⟨0, 0, 0, 0, NS, NS, [], []⟩ → K (.pointer (some ⟨g, 0, none⟩)) w') : act Try.prog (Instr.alloc tEv true (.tuple #[])) K w := by
  rw [al_32]
  exact h _ _ ((K0.refl w).alloc _) (Nat.le_refl _) siz_alloc blk_alloc_new
theorem BI.keep {F : Nat → Prop} {g : Nat} {i : Im} (h : BI w g i) (k : Keep F w w') (hn : ¬ F g) : BI w' g i := k.blk h hn
theorem BI.keep0 {g : Nat} {i : Im} (h : BI w g i) (k : K0 w w') : BI w' g i := k.blk h id
theorem BE.keep {F : Nat → Prop} {g : Nat} {e : Ev} (h : BE w g e) (k : Keep F w w') (hn : ¬ F g) : BE w' g e := k.blk h hn
theorem BE.keep0 {g : Nat} {e : Ev} (h : BE w g e) (k : K0 w w') : BE w' g e := k.blk h id
theorem BIE {g g' : Nat} {i : Im} {e : Ev} (h : BI w g i) (h' : BE w g' e) : g ≠ g' := fun e => by
  subst e
  unfold BI at h; unfold BE at h'
  rw [h] at h'; injection h' with h'; injection h' with _ h'; exact absurd h' (by decide)
/-! ### what is judged -/
variable {A B : ByteArray} {b : Int} {va vb va' vb' rv : Value} {n m : Nat}
theorem ord_err {e1 e2 e3 : Ev} (h1 : e1.kind = 1) (h2 : e2.kind = 1) (h3 : e3.kind = 4) : errF [e1, e2, e3] = 0 ∧ ∀ z, judgeF z [e1, e2, e3] = Hi.okF z [e1, e2, e3] [] := by
  refine ⟨by simp [errF, cutsR, waysF, kindsF, h1, h2, h3], fun z => ?_⟩
  simp [judgeF, cutsAt, choicesF, cutsR, lensF, dig, pickF, prodL, List.range, List.range.loop, h1, h2, h3]
theorem ok3 {z : ByteArray} {e1 e2 e3 : Ev} (h1 : e1.kind = 1) (h2 : e2.kind = 1) (h3 : e3.kind = 4) :
    Hi.okF z [e1, e2, e3] [] = (readsF z [] e1.rd && readsF z (writeF [] e1.wr) e2.rd && readsF z (writeF (writeF [] e1.wr) e2.wr) e3.rd) := by
  have g1 := greatF_eq e1 []
  have g2 := greatF_eq e2 [e1]
  simp [Hi.okF, playF, runF, Hi.stepF, aloneF, h1, h2, h3, g1, g2]
  cases readsF z [] e1.rd <;> cases readsF z (writeF [] e1.wr) e2.rd <;> cases readsF z (writeF (writeF [] e1.wr) e2.wr) e3.rd <;> simp
theorem bld_im' {i : Im} {K : Value → World → Prop} (h : ∀ u' v, K0 w u' → Rd 3 u' v 1 (flat encM [i]) → Go.Sh.one v = true → (∀ g, v.ownBlock = some g → siz w ≤ g) → K v u') : act Try.prog (Instr.buildSlice 25 1 #[(0, agI i)]) K w := by
  rw [show agI i = .agg #[.int .i64 i.1, .int .u64 i.2.1, .string i.2.2] from rfl, bs_25]
  exact h _ _ ((K0.refl w).alloc _) ⟨rfl, .inr ⟨siz w, 0, 1, rfl, by omega, fun j hj => by rw [Nat.zero_add, cel_alloc_new]; simp [flat]⟩⟩ rfl fun g hg => by
    have hg : siz w = g := Option.some.inj hg
    omega
theorem jdg {u : World} {tx ty ti : Nat} {x y : Ev} {i : Im} {K : Value → World → Prop} (hx : BE u tx x) (hy : BE u ty y) (hi : BI u ti i) (ex : EvR u x) (ey : EvR u y) (k1 : x.kind = 1) (k2 : y.kind = 1)
    (h : ∀ u', K0 u u' → K (.tuple #[.bool (readsF Z96 [] x.rd && readsF Z96 (writeF [] x.wr) y.rd && readsF Z96 (writeF (writeF [] x.wr) y.wr) [i]), .int .i64 0]) u') :
    rd Try.prog (Instr.loadAt tEv (.pointer (some ⟨tx, 0, none⟩))) (fun t47 => rd Try.prog (Instr.loadAt tEv (.pointer (some ⟨ty, 0, none⟩))) (fun t48 => rd Try.prog (Instr.loadAt tIm (.pointer (some ⟨ti, 0, none⟩))) (fun t49 =>
      act Try.prog (Instr.buildSlice 25 1 #[(0, t49)]) (fun t50 w_26 => pur Try.prog (Instr.build tEv #[(0, (.int .i64 4)), (4, t50)]) fun t51 =>
        act Try.prog (Instr.buildSlice 24 3 #[(0, t47), (1, t48), (2, t51)]) (fun t52 w_27 => callS Try.prog 8 #[t52] K w_27) w_26) u) u) u) u := by
  refine ld_ev hx (ld_ev hy (ld_im hi ?_))
  refine bld_im fun u1 v1 q1 r1 o1 => ?_
  rw [bd_32_0_4 one_int o1]
  refine bld_ev3 (e := x) (f := y) (g := ⟨4, 0, 0, 0, v1, NS, [i], []⟩) fun u2 v2 q2 r2 => ?_
  have q12 := q1.trans q2
  obtain ⟨j1, j2⟩ := ord_err (e1 := x) (e2 := y) (e3 := ⟨4, 0, 0, 0, v1, NS, [i], []⟩) k1 k2 rfl
  refine judge_c r2 (by simp) (fun z hz => ?_) (fun u3 _ q3 => ?_) (fun u3 he => absurd j1 he)
  · simp only [List.mem_cons, List.not_mem_nil, or_false] at hz
    rcases hz with rfl | rfl | rfl
    · exact ex.keep0 q12
    · exact ey.keep0 q12
    · exact EvR.mk' (e := 0) (ls := 0) (by omega) (by omega) (r1.keep0 q2) no_im (by simp) (by simp) fun i hi => by cases hi
  · rw [j2, ok3 k1 k2 rfl]
    exact h u3 (q12.trans q3)
set_option maxHeartbeats 1000000 in
theorem order_c {b : Int} {r : Bool} (_ : (Lit.int .i64 b).wf = true) (hq : ∀ w', Keep (fun b => siz w ≤ b) w w' → Q (.bool true) w') : callS Try.prog 5 #[.int .i64 b, .bool r] Q w := by
  refine ref5 ?_
  unfold S5
  by_cases h0 : b < 0
  · simp only [stp, Nat.reduceAdd, Int.reduceLT, Int.reduceLE, Int.reduceEq, Int.reduceNe, ne_eq, bne_self_eq_false, beq_self_eq_true, h0]
    exact alive_c fun w' k => hq _ k.none
  by_cases h1 : (100 : Int) < b
  · simp only [stp, Nat.reduceAdd, Int.reduceLT, Int.reduceLE, Int.reduceEq, Int.reduceNe, ne_eq, bne_self_eq_false, beq_self_eq_true, h0, h1]
    exact alive_c fun w' k => hq _ k.none
  simp only [pur_lss, pur_gtr, h0, h1, decide_false, gd_hit, pur_pick_f, condS_false]
  refine one_c fun w1 k1 => ?_
  refine one_c fun w2 k2 => ?_
  generalize hD : oneD (IntKind.u8.wrap b) = D
  have hDs : D.size = 96 := by rw [← hD]; exact oneD_size _
  refine al_im fun w3 t5 k3 z3 y3 b5 => ?_
  refine al_im fun w4 t6 k4 z4 y4 b6 => ?_
  have k04 := ((k1.trans k2).trans k3).trans k4
  have sz2 := (k1.trans k2).size
  refine st_im (b5.keep0 k4) fun w5 b5 k5 => ?_
  have b6 := b6.keep k5 (by omega)
  refine st_im b6 fun w6 b6 k6 => ?_
  have b5 := b5.keep k6 (by omega)
  have k06 := (k04.trans' k5 fun q hq e => by have e : q = t5 := e; omega).trans' k6 fun q hq e => by have e : q = t6 := e; omega
  have hss : (⟨#[97]⟩ : ByteArray).size + (D.extract 1 D.size).size ≤ 9223372036854775807 := by rw [ByteArray.size_extract, hDs, show (⟨#[97]⟩ : ByteArray).size = 1 from rfl]; omega
  have hss2 : (⟨#[98]⟩ : ByteArray).size + (D.extract 1 D.size).size ≤ 9223372036854775807 := by rw [ByteArray.size_extract, hDs, show (⟨#[98]⟩ : ByteArray).size = 1 from rfl]; omega
  have sl : ∀ {k' : Value → Prop}, pur Try.prog (Instr.sliceAt 9 (.string D) (some (.int .i64 1)) none none) k' = k' (.string (D.extract 1 D.size)) := by
    intro k'
    exact strFrom (n := 1) (fun w => Try.runUnderlying9 w) (by omega)
  generalize hA : (⟨#[97]⟩ : ByteArray) ++ D.extract 1 D.size = A at *
  generalize hB : (⟨#[98]⟩ : ByteArray) ++ D.extract 1 D.size = B at *
  have hdA : hd A = some 97 := by rw [← hA]; exact hd_app _ _
  have hdB : hd B = some 98 := by rw [← hB]; exact hd_app _ _
  have nAB : A ≠ B := fun e => by rw [e, hdB] at hdA; exact absurd hdA (by decide)
  have nZA : Z96 ≠ A := fun e => by have := congrArg hd e; rw [hdA, hd_zero] at this; exact absurd this (by decide)
  have sA : A.size ≤ 1000000 := by rw [← hA, ByteArray.size_append, ByteArray.size_extract, hDs, show (⟨#[97]⟩ : ByteArray).size = 1 from rfl]; omega
  have sB : B.size ≤ 1000000 := by rw [← hB, ByteArray.size_append, ByteArray.size_extract, hDs, show (⟨#[98]⟩ : ByteArray).size = 1 from rfl]; omega
  have n56 : t5 ≠ t6 := by omega
  simp only [fa_29_2, Nat.zero_add]
  refine jn0 (fun u => K0 w u ∧ BI u t5 (b, 0, A) ∧ BI u t6 (b, 0, B)) (fun J hJ => ?_) ?_
  · have kd := k06.trans ((K0.refl w6).drew)
    have c5 : BI w6.drew t5 (b, 0, D) := b5
    have c6 : BI w6.drew t6 (b, 0, D) := b6
    refine ld_data c5 ?_
    dsimp only
    rw [sl, pur_sadd hss, hA]
    refine ⟨?_, ?_⟩
    · refine ld_data c6 ?_
      dsimp only
      rw [sl, pur_sadd hss2, hB]
      refine st_data c5 fun u1 d5 q1 => ?_
      refine st_data (c6.keep q1 (by omega)) fun u2 d6 q2 => ?_
      exact hJ _ ⟨(kd.trans' q1 fun q hq e => by have e : q = t5 := e; omega).trans' q2 fun q hq e => by have e : q = t6 := e; omega, d5.keep q2 (by omega), d6⟩
    · refine st_data c5 fun u1 d5 q1 => ?_
      have c6 := c6.keep q1 (by omega)
      refine ld_data c6 ?_
      dsimp only
      rw [sl, pur_sadd hss2, hB]
      refine st_data c6 fun u2 d6 q2 => ?_
      exact hJ _ ⟨(kd.trans' q1 fun q hq e => by have e : q = t5 := e; omega).trans' q2 fun q hq e => by have e : q = t6 := e; omega, d5.keep q2 (by omega), d6⟩
  clear b5 b6 k5 k6 k06 k04 k3 k4
  rintro u1 ⟨ku, b5, b6⟩ _j
  refine ld_im b5 ?_
  refine bld_im fun u2 va k2 ra oa => ?_
  rw [bd_32_0_1_2_3_5 one_int one_int one_int one_int oa]
  refine al_ev fun u3 t7 k3 z7 y7 b7 => ?_
  refine st_ev (e := ⟨1, 1, 1, 1, NS, va, [], [(b, 0, A)]⟩) b7 rfl oa fun u4 c7 k4 => ?_
  have s2 := k2.size
  have kA : K0 u2 u4 := k3.trans' k4 fun q hq e => by have e : q = t7 := e; omega
  have k14 : K0 u1 u4 := k2.trans kA
  have b5 := b5.keep0 k14
  have b6 := b6.keep0 k14
  clear b7 k4 k3
  refine ld_im b6 ?_
  refine bld_im fun u5 vb k5 rb ob => ?_
  rw [bd_32_0_1_2_3_5 one_int one_int one_int one_int ob]
  refine al_ev fun u6 t8 k6 z8 y8 b8 => ?_
  refine st_ev (e := ⟨1, 2, 2, 1, NS, vb, [], [(b, 0, B)]⟩) b8 rfl ob fun u7 c8 k7 => ?_
  have kB : K0 u5 u7 := k6.trans' k7 fun q hq e => by have e : q = t8 := e; omega
  have k47 : K0 u4 u7 := k5.trans kB
  have b5 := b5.keep0 k47
  have b6 := b6.keep0 k47
  have c7 := c7.keep0 k47
  have hz45 := k47.size
  have n78 : t7 ≠ t8 := fun e => by
    have := blk_lt c7
    have h5 := k5.size
    have h4 : t7 < siz u4 := blk_lt ‹BE u4 t7 _›
    omega
  clear b8 k6 k7
  have kA7 := kA.trans k47
  have kw7 := (ku.trans k14).trans k47
  have z5 := k5.size
  have za := kA.size
  refine jn0 (fun u => ∃ rv rdl, K0 w u ∧ K0 u2 u ∧ K0 u5 u ∧ BI u t5 (b, 0, A) ∧ BI u t6 (b, 0, B) ∧ BE u t7 ⟨1, 1, 1, 1, NS, va, [], [(b, 0, A)]⟩ ∧ BE u t8 ⟨1, 2, 2, 1, rv, vb, rdl, [(b, 0, B)]⟩ ∧ rdl = (if r = true then [(b, 0, A)] else []) ∧ Rd 3 u rv rdl.length (flat encM rdl)) (fun J hJ => ?_) ?_
  · cases r
    · simp only [condS_false]
      exact hJ _ ⟨NS, [], kw7, kA7, kB, b5, b6, c7, c8, rfl, no_im⟩
    · simp only [condS_true]
      refine ld_im b5 ?_
      refine bld_im' fun u8 vc k8 rc oc hvn => ?_
      obtain ⟨pc, cc, hvc⟩ := rc.form
      simp only [fa_32_4, Nat.zero_add]
      have d8 := c8.keep0 k8
      refine st_rv d8 ⟨pc, 1, cc, hvc⟩ [(b, 0, A)] fun u9 e8 k9 => ?_
      have hz8 : t8 < siz u7 := blk_lt c8
      have gt : ∀ {q : Nat}, q = t8 → siz u5 ≤ q := fun e => by omega
      refine hJ _ ⟨vc, [(b, 0, A)], (kw7.trans k8).trans' k9 fun q hq e => ?_, (kA7.trans k8).trans' k9 fun q hq e => ?_, (kB.trans k8).trans' k9 fun q hq e => ?_, (b5.keep0 k8).keep k9 (BIE (b5.keep0 k8) d8), (b6.keep0 k8).keep k9 (BIE (b6.keep0 k8) d8), (c7.keep0 k8).keep k9 n78, e8, rfl, ?_⟩
      · have := gt e; have := kw7.size; have := ku.size; omega
      · have := gt e; omega
      · have := gt e; omega
      · refine rc.keep k9 fun g hg hlt e => ?_
        have e : g = t8 := e
        have := hvn g hg
        omega
  rintro u ⟨rv, rdl, kw, kA, kB, b5, b6, c7, c8, hrd, rr⟩ _j
  have ex : EvR u ⟨1, 1, 1, 1, NS, va, [], [(b, 0, A)]⟩ := EvR.mk' (e := 1) (ls := 1) (by omega) (by omega) no_im (ra.keep0 kA) (by simp) (by simp) fun i hi => by rw [List.mem_singleton.1 hi]; exact ⟨⟨by dsimp only; omega, by dsimp only; omega⟩, sA⟩
  have ey : EvR u ⟨1, 2, 2, 1, rv, vb, rdl, [(b, 0, B)]⟩ := EvR.mk' (e := 2) (ls := 1) (by omega) (by omega) rr (rb.keep0 kB) (by rw [hrd]; split <;> simp) (by simp) fun i hi => by rw [List.mem_singleton.1 hi]; exact ⟨⟨by dsimp only; omega, by dsimp only; omega⟩, sB⟩
  refine jdg c7 c8 b6 ex ey rfl rfl fun v1 q1 => ?_
  simp only [pur_ext2_0, pur_ext2_1]
  refine jdg (c8.keep0 q1) (c7.keep0 q1) (b5.keep0 q1) (ey.keep0 q1) (ex.keep0 q1) rfl rfl fun v2 q2 => ?_
  simp only [pur_ext2_0, pur_ext2_1]
  have q12 := q1.trans q2
  refine jdg (c8.keep0 q12) (c7.keep0 q12) (b6.keep0 q12) (ey.keep0 q12) (ex.keep0 q12) rfl rfl fun v3 q3 => ?_
  simp only [pur_ext2_0, pur_ext2_1]
  refine alive_c fun v4 q4 => ?_
  have fin := hq v4 (((kw.trans q12).trans q3).trans q4).none
  have nBA : ¬ B = A := fun e => nAB e.symm
  cases r
  · simp [readsF, writeF, arPut, arGet, hrd, nAB, nBA, stp, Nat.reduceAdd, Int.reduceLT, Int.reduceLE, Int.reduceEq, Int.reduceNe, ne_eq, bne_self_eq_false, beq_self_eq_true]
    exact fin
  · simp [readsF, writeF, arPut, arGet, hrd, nAB, nBA, nZA, stp, Nat.reduceAdd, Int.reduceLT, Int.reduceLE, Int.reduceEq, Int.reduceNe, ne_eq, bne_self_eq_false, beq_self_eq_true]
    exact fin
end
end Go.Proofs.Ytmmnifbponhhfaa
