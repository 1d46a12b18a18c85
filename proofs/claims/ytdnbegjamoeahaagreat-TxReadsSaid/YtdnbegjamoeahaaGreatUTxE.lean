/- A transaction: a block's bytes; writing; the law's shape. Conditions: as each says. -/
import Derived.Test.YtdnbegjamoeahaaGreatUTxD
set_option linter.unusedSimpArgs false
set_option linter.unusedVariables false
namespace Go.Proofs.YtdnbegjamoeahaaGreatU
open Go.Sh Go.Proofs.YtdnbegjamoeahaaGreatU.Mi
set_option maxRecDepth 100000
section
variable {w w' : World} {Q : Value → World → Prop} {B t m a b : Nat} {s : TS}
theorem pur_sadd {P : Program} {ty : TypeId} {x y : Bool} {s u : ByteArray} {k : Value → Prop} (h : s.size + u.size ≤ 9223372036854775807) : pur P (binS .add ty x y (.string s) (.string u)) k = k (.string (s ++ u)) := pur_eq fun w => by
  have h' : (s.size : Int) + (u.size : Int) ≤ 9223372036854775807 := by omega
  simp [binS, eqG_str, binOp, Op.stringOp, h']
def zeros (n : Nat) : ByteArray := ⟨(Lib.repeatL [0] n).toArray⟩
theorem zeros_size (n : Nat) : (zeros n).size = n := by
  have := Lib.repeatL_length [0] n
  show (Lib.repeatL [0] n).toArray.size = n
  rw [List.size_toArray, this]; simp
theorem k0_below (h : RowKit.Below w.heap.size w w') : K0 w w' := ⟨h.os, h.tape, h.output, h.size, fun b hb _ => h.block b hb⟩
theorem repeat0_c {n : Nat} (hn : n ≤ 1000000) (hq : ∀ w', K0 w w' → Q (.string (zeros n)) w') : callS Tryz.prog 277 #[.string ⟨#[0]⟩, .int .i64 (n : Int)] Q w := by
  have X : Builder.Extra Tryz.prog YtdnbegjamoeahaaGreatU.repeatS_ren := { sizeBuilder := by kernel_rfl, liesBuilder := by kernel_rfl, t5 := by kernel_rfl, a5 := fun w => Tryz.isAgg5 w, z5 := fun w => Tryz.sizeOf5 w, v5 := fun w => Tryz.zeroValue5 w, infoByte := by kernel_rfl, cellsByte := by kernel_rfl, sizeByte := by kernel_rfl, neB5 := by decide }
  refine ⟨fun a w => Tryz.call277 a w, (Any.strings_Repeat YtdnbegjamoeahaaGreatU.repeatS X ⟨#[0]⟩ n w (by omega) (by show 1 * n ≤ _; omega)).mono fun e w' hb => ⟨_, hb.1, ?_⟩⟩
  exact hq w' (k0_below hb.2)
def padF (d : ByteArray) : ByteArray := d ++ zeros (96 - d.size)
theorem padF_size {d : ByteArray} (h : d.size ≤ 96) : (padF d).size = 96 := by
  unfold padF; rw [ByteArray.size_append, zeros_size]; omega
theorem pad_c {d : ByteArray} (hd : d.size ≤ 9223372036854775807) (hq0 : 96 < d.size → Q (.tuple #[.string ⟨#[]⟩, .int .i64 2]) w) (hq1 : ∀ w', d.size ≤ 96 → K0 w w' → Q (.tuple #[.string (padF d), .int .i64 0]) w') :
    callS Tryz.prog 209 #[.string d] Q w := by
  refine ref209 ?_
  unfold S209
  by_cases h : (96 : Int) < (d.size : Int)
  · simp only [stp, Nat.reduceAdd, Int.reduceLT, Int.reduceLE, Int.reduceEq, Int.reduceNe, ne_eq, bne_self_eq_false, beq_self_eq_true, stm, h]
    exact hq0 (by omega)
  · have e1 : IntKind.i64.wrap (96 - (d.size : Int)) = ((96 - d.size : Nat) : Int) := by rw [wrap_id (by omega) (by omega)]; omega
    simp only [stp, Nat.reduceAdd, Int.reduceLT, Int.reduceLE, Int.reduceEq, Int.reduceNe, ne_eq, bne_self_eq_false, beq_self_eq_true, stm, h, e1]
    refine ref255 ?_
    unfold S255
    refine repeat0_c (by omega) fun w1 k1 => ?_
    try simp only [stp, Nat.reduceAdd, Int.reduceLT, Int.reduceLE, Int.reduceEq, Int.reduceNe, ne_eq, bne_self_eq_false, beq_self_eq_true, stm]
    rw [pur_sadd (by rw [zeros_size]; omega)]
    exact hq1 _ (by omega) k1
/-! ### maps of texts, in plain words -/
def lkp (x : Int) : List (Int × ByteArray) → Option ByteArray
  | [] => none
  | p :: l => if p.1 = x then some p.2 else lkp x l
def puA (x : Int) (v : ByteArray) : List (Int × ByteArray) → List (Int × ByteArray)
  | [] => [(x, v)]
  | p :: l => if p.1 = x then (x, v) :: l else p :: puA x v l
theorem aget_lkp (x : Int) : ∀ l : List (Int × ByteArray), aget (.int .i64 x) (l.map kvP) = (lkp x l).map .string
  | [] => rfl
  | p :: l => by
    by_cases h : p.1 = x
    · simp [aget, lkp, kvP, h]
    · have : ¬ x = p.1 := fun e => h e.symm
      simp [aget, lkp, kvP, h, this, ← aget_lkp x l]
theorem aput_puA (x : Int) (v : ByteArray) : ∀ l : List (Int × ByteArray), aput (.int .i64 x) (.string v) (l.map kvP) = (puA x v l).map kvP
  | [] => rfl
  | p :: l => by
    by_cases h : p.1 = x
    · simp [aput, puA, kvP, h]
    · have : ¬ x = p.1 := fun e => h e.symm
      have ih := aput_puA x v l
      simp [aput, puA, kvP, h, this]
      exact ih
theorem lkp_puA (x y : Int) (v : ByteArray) : ∀ l : List (Int × ByteArray), lkp y (puA x v l) = if y = x then some v else lkp y l
  | [] => by
    by_cases h : y = x
    · simp [lkp, puA, h]
    · have : ¬ x = y := fun e => h e.symm
      simp [lkp, puA, h, this]
  | p :: l => by
    have ih := lkp_puA x y v l
    by_cases h : p.1 = x
    · by_cases h' : y = x
      · simp [lkp, puA, h, h']
      · have : ¬ x = y := fun e => h' e.symm
        simp [lkp, puA, h, h', this]
    · by_cases h' : p.1 = y
      · have : ¬ y = x := fun e => h (h'.trans e)
        simp [lkp, puA, h', this]
      · simp [lkp, puA, h, h', ih]
theorem puA_len (x : Int) (v : ByteArray) : ∀ l : List (Int × ByteArray), (puA x v l).length = if (lkp x l).isSome then l.length else l.length + 1
  | [] => rfl
  | p :: l => by
    have ih := puA_len x v l
    by_cases h : p.1 = x
    · simp [lkp, puA, h]
    · simp [lkp, puA, h, ih]; split <;> rfl
theorem kv_ok (l : List (Int × ByteArray)) : okKeys isI64 (l.map kvP) := fun p hp => by obtain ⟨q, _, rfl⟩ := List.mem_map.1 hp; exact ⟨_, rfl⟩
theorem twrote_c' {x : Int} (h : TX w B t s) (hq : Q (.tuple #[.string ((lkp x s.wr).getD ⟨#[]⟩), .bool (lkp x s.wr).isSome]) w) :
    callS Tryz.prog 102 #[.pointer (some ⟨t, 0, none⟩), .int .i64 x] Q w := by
  refine twrote_c h ?_
  rw [aget_lkp]
  cases hh : lkp x s.wr <;> rw [hh] at hq <;> exact hq
/-! ### writing -/
/-- What a write tells. -/
def wrC (s : TS) (x : Int) (d : ByteArray) : Int :=
  if valB s.l x = none then 30 else if 96 < d.size then 2 else if valB s.l x ≠ some 2 then 13
  else if (lkp x s.wr).isNone ∧ min (mostF s.sh.log) s.sh.cache ≤ s.wr.length then 31 else 0
def wrS (s : TS) (x : Int) (d : ByteArray) : TS := if wrC s x d = 0 then { s with wr := puA x (padF d) s.wr } else s
theorem TXr.cells_ne (h : TXr w B t s m a b) : t ≠ a ∧ t ≠ b := ⟨fun e => map_ne h.ma h.ct e.symm, fun e => map_ne h.mb h.ct e.symm⟩
theorem TXr.setW {l' : List (Int × ByteArray)} (h : TXr w B t s m a b) (k : Keep (fun g => g = a) w w') (hw : TM w' a l') : TXr w' B t { s with wr := l' } m a b := by
  obtain ⟨es, c, hb⟩ := tm_blk h.ma
  exact { h with ct := k.blk h.ct h.cells_ne.1, im := im_keepM h.im k (fun g cs ty hg _ e => by
      have e : g = a := e
      subst e; rw [hb] at hg; cases hg), ma := hw, mb := h.mb.keep k (Ne.symm h.ab) }
theorem TXr.kdA (h : TXr w B t s m a b) (k : Keep (fun g => g = a) w w') : KO B tp w w' := KO.ofB k fun g e => by
  obtain ⟨es, c, hb⟩ := tm_blk h.ma
  have e : g = a := e
  subst e
  exact ⟨h.Ba, _, hb, rfl⟩
theorem mapTo_tm {r : Nat} {l : List (Int × ByteArray)} {x : Int} {v : ByteArray} {w0 : World} (hm : MapTo w0 w' r (aput (.int .i64 x) (.string v) (l.map kvP))) (hs : Go.Sh.stp w' r) : TM w' r (puA x v l) :=
  ⟨by rw [hm.map, aput_puA], hs⟩
theorem twrite_c {x : Int} {d : ByteArray} (h : TX w B t s) (hd : d.size ≤ 9223372036854775807) (hn : s.wr.length ≤ 1000000) (hq : ∀ w', TX w' B t (wrS s x d) → KO B tp w w' → Q (.int .i64 (wrC s x d)) w') :
    callS Tryz.prog 97 #[.pointer (some ⟨t, 0, none⟩), .int .i64 x, .string d] Q w := by
  refine ref97 ?_
  unfold S97
  refine mayread_c h fun w1 k1 => ?_
  have h1 := h.keep0 k1
  cases hv : valB s.l x with
  | none =>
    have e : wrC s x d = 30 := by unfold wrC; rw [if_pos hv]
    simp only [stp, Nat.reduceAdd, Int.reduceLT, Int.reduceLE, Int.reduceEq, Int.reduceNe, ne_eq, bne_self_eq_false, beq_self_eq_true, stm, Option.isSome_none, Bool.false_eq_true, if_false]
    have e' : wrS s x d = s := by unfold wrS; rw [e]; rfl
    have := hq w1 (by rw [e']; exact h1) (KO.of0 k1)
    rw [e] at this; exact this
  | some md =>
    simp only [stp, Nat.reduceAdd, Int.reduceLT, Int.reduceLE, Int.reduceEq, Int.reduceNe, ne_eq, bne_self_eq_false, beq_self_eq_true, stm, Option.isSome_some, if_true]
    have hv0 : ¬ valB s.l x = none := by rw [hv]; simp
    refine pad_c hd (fun hbig => ?_) (fun w2 hsm k2 => ?_)
    · have e : wrC s x d = 2 := by unfold wrC; rw [if_neg hv0, if_pos hbig]
      simp only [stp, Nat.reduceAdd, Int.reduceLT, Int.reduceLE, Int.reduceEq, Int.reduceNe, ne_eq, bne_self_eq_false, beq_self_eq_true, stm]
      have e' : wrS s x d = s := by unfold wrS; rw [e]; rfl
      have := hq w1 (by rw [e']; exact h1) (KO.of0 k1)
      rw [e] at this; exact this
    · have k02 := k1.trans k2
      obtain ⟨m, a, b, h2⟩ := h1.keep0 k2
      have c5 : Sh.cel w2 t 5 = some (.pointer (some ⟨m, 0, none⟩)) := h2.cel 5
      simp only [stp, Nat.reduceAdd, Int.reduceLT, Int.reduceLE, Int.reduceEq, Int.reduceNe, ne_eq, bne_self_eq_false, beq_self_eq_true, stm, c5, Option.isSome_some, Option.getD_some]
      refine tget_c h2.im h2.ll fun w3 k3 => ?_
      have k03 := k02.trans k3
      have h3 := h2.keep0 k3
      have hbig : ¬ 96 < d.size := by omega
      by_cases h2' : md = 2
      rotate_left
      · have e : wrC s x d = 13 := by unfold wrC; rw [if_neg hv0, if_neg hbig, if_pos (by rw [hv]; intro e; injection e with e; exact h2' e)]
        have em : ¬ mdV (valB s.l x) = 2 := by rw [hv]; exact h2'
        simp only [stp, Nat.reduceAdd, Int.reduceLT, Int.reduceLE, Int.reduceEq, Int.reduceNe, ne_eq, bne_self_eq_false, beq_self_eq_true, stm, em]
        have e' : wrS s x d = s := by unfold wrS; rw [e]; rfl
        have := hq w3 (by rw [e']; exact ⟨m, a, b, h3⟩) (KO.of0 k03)
        rw [e] at this; exact this
      subst h2'
      have em : mdV (valB s.l x) = 2 := by rw [hv]; rfl
      have c6 : Sh.cel w3 t 6 = some (.map (some a)) := h3.cel 6
      simp only [stp, Nat.reduceAdd, Int.reduceLT, Int.reduceLE, Int.reduceEq, Int.reduceNe, ne_eq, bne_self_eq_false, beq_self_eq_true, stm, em, c6, Option.isSome_some, Option.getD_some]
      rw [rd_eq (lu_177 h3.ma.mp (kv_ok _) ⟨x, rfl⟩ true)]
      have hv2 : ¬ valB s.l x ≠ some 2 := by rw [hv]; simp
      rw [aget_lkp]
      simp only [stp, Nat.reduceAdd, Int.reduceLT, Int.reduceLE, Int.reduceEq, Int.reduceNe, ne_eq, bne_self_eq_false, beq_self_eq_true, stm, if_true, Option.isSome_map]
      have h4 : TXr w3.drew B t s m a b := h3.keep0 ((K0.refl w3).drew)
      have k04 : K0 w w3.drew := k03.drew
      have c6' : Sh.cel w3.drew t 6 = some (.map (some a)) := h4.cel 6
      have c2' : Sh.cel w3.drew t 2 = some (.int .i64 s.sh.log) := h4.cel 2
      have c3' : Sh.cel w3.drew t 3 = some (.int .i64 s.sh.cache) := h4.cel 3
      refine ⟨fun w' => w' = w3.drew, rfl, ?_⟩
      have put : wrC s x d = 0 → act Tryz.prog (thenU (Instr.mapUpdate 177 (.map (some a)) (.int .i64 x) (.string (padF d)))) (fun _ w_41 => Q (.int .i64 0) w_41) w3.drew := fun e => by
        refine act_mapUpdateS ky_3 (fun w => Tryz.runUnderlying177 w) h4.ma.mp (kv_ok _) ⟨x, rfl⟩ fun w5 hm hs => ?_
        have hs5 := hs h4.ma.st
        have hT := mapTo_tm hm hs5
        have e' : wrS s x d = { s with wr := puA x (padF d) s.wr } := by unfold wrS; rw [if_pos e]
        have := hq w5 (by rw [e']; exact ⟨m, a, b, h4.setW hm.keep hT⟩) ((KO.of0 k04).trans (h4.kdA hm.keep))
        rw [e] at this; exact this
      cases hl : lkp x s.wr with
      | some u =>
        have e : wrC s x d = 0 := by unfold wrC; rw [if_neg hv0, if_neg hbig, if_neg hv2, if_neg (by rw [hl]; simp)]
        simp only [stp, Nat.reduceAdd, Int.reduceLT, Int.reduceLE, Int.reduceEq, Int.reduceNe, ne_eq, bne_self_eq_false, beq_self_eq_true, stm, Option.isSome_some, Bool.not_true, c6', Option.getD_some, cel_drew, c6]
        exact put e
      | none =>
        simp only [stp, Nat.reduceAdd, Int.reduceLT, Int.reduceLE, Int.reduceEq, Int.reduceNe, ne_eq, bne_self_eq_false, beq_self_eq_true, stm, Option.isSome_none, Bool.not_false]
        refine hld_of (.map (some a)) (fun w' hw => by subst hw; exact rl_177 c6') ?_
        refine hld_of (.int .i64 (s.wr.length : Int)) (fun w' hw => by subst hw; have := lm_177 (w := w3.drew) h4.ma.mp; rw [List.length_map] at this; exact this) ?_
        try simp only [stp, Nat.reduceAdd, Int.reduceLT, Int.reduceLE, Int.reduceEq, Int.reduceNe, ne_eq, bne_self_eq_false, beq_self_eq_true, stm]
        refine hld_of (.int .i64 s.sh.log) (fun w' hw => by subst hw; exact rl_3 c2') ?_
        refine most_c (by have := h4.ok.l; omega) (by have := h4.ok.l; omega) ⟨rfl, ?_⟩
        try simp only [stp, Nat.reduceAdd, Int.reduceLT, Int.reduceLE, Int.reduceEq, Int.reduceNe, ne_eq, bne_self_eq_false, beq_self_eq_true, stm]
        refine hld_of (.int .i64 s.sh.cache) (fun w' hw => by subst hw; exact rl_3 c3') ?_
        by_cases hf : min (mostF s.sh.log) s.sh.cache ≤ (s.wr.length : Int)
        · have e : wrC s x d = 31 := by unfold wrC; rw [if_neg hv0, if_neg hbig, if_neg hv2, if_pos ⟨by rw [hl]; rfl, hf⟩]
          simp only [stp, Nat.reduceAdd, Int.reduceLT, Int.reduceLE, Int.reduceEq, Int.reduceNe, ne_eq, bne_self_eq_false, beq_self_eq_true, stm, hf]
          have e' : wrS s x d = s := by unfold wrS; rw [e]; rfl
          have := hq w3.drew (by rw [e']; exact ⟨m, a, b, h4⟩) (KO.of0 k04)
          rw [e] at this; exact this
        · have e : wrC s x d = 0 := by unfold wrC; rw [if_neg hv0, if_neg hbig, if_neg hv2, if_neg (fun h => hf h.2)]
          simp only [stp, Nat.reduceAdd, Int.reduceLT, Int.reduceLE, Int.reduceEq, Int.reduceNe, ne_eq, bne_self_eq_false, beq_self_eq_true, stm, hf, cel_drew, c6, Option.isSome_some, Option.getD_some]
          exact put e
end
end Go.Proofs.YtdnbegjamoeahaaGreatU
