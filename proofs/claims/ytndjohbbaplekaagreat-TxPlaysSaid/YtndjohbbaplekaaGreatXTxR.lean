/- A transaction: what is marked as read; operations in an argument. Conditions: as each says. -/
import Derived.Test.YtndjohbbaplekaaGreatXTxI
import Derived.Test.YtndjohbbaplekaaGreatXLayT
import Derived.Shelf.Pu.Clone
set_option linter.unusedSimpArgs false
set_option linter.unusedVariables false
namespace Go.Proofs.YtndjohbbaplekaaGreatX
open Go.Sh Go.Proofs.YtndjohbbaplekaaGreatX.Mi
set_option maxRecDepth 100000
section
variable {w w' : World} {Q : Value → World → Prop} {B t m a b : Nat} {s : TS}
theorem cloneT_c {s : ByteArray} (hs : s.size ≤ 1000000) (hq : ∀ w', K0 w w' → Q (.string s) w') : callS Tryz.prog 189 #[.string s] Q w := by
  refine ref189 ?_
  unfold S189
  refine ⟨fun a w => Tryz.call233 a w, (AnyPu.stringslite_Clone YtndjohbbaplekaaGreatX.cloneT s w (by omega)).mono fun e w' hb => ⟨_, hb.1, ?_⟩⟩
  exact hq w' ⟨hb.2.os, hb.2.tape, hb.2.output, hb.2.size, fun b hb' _ => hb.2.block b hb'⟩
def rdS (s : TS) (x : Int) (d : ByteArray) : TS := if (lkp x s.rd).isSome then s else { s with rd := puA x d s.rd }
theorem TXr.setR {l' : List (Int × ByteArray)} (h : TXr w B t s m a b) (k : Keep (fun g => g = b) w w') (hw : TM w' b l') : TXr w' B t { s with rd := l' } m a b := by
  obtain ⟨es, c, hb⟩ := tm_blk h.mb
  exact { h with ct := k.blk h.ct h.cells_ne.2, im := im_keepM h.im k (fun g cs ty hg _ e => by
      have e : g = b := e
      subst e; rw [hb] at hg; cases hg), ma := h.ma.keep k h.ab, mb := hw }
theorem TXr.kdB (h : TXr w B t s m a b) (k : Keep (fun g => g = b) w w') : KO B tp w w' := KO.ofB k fun g e => by
  obtain ⟨es, c, hb⟩ := tm_blk h.mb
  have e : g = b := e
  subst e
  exact ⟨h.Bb, _, hb, rfl⟩
theorem tmark_c {x : Int} {d : ByteArray} (h : TX w B t s) (hd : d.size ≤ 1000000) (hq : ∀ w', TX w' B t (rdS s x d) → KO B tp w w' → Q (.tuple #[]) w') :
    callS Tryz.prog 83 #[.pointer (some ⟨t, 0, none⟩), .int .i64 x, .string d] Q w := by
  refine ref83 ?_
  unfold S83
  refine tnone_c h ?_
  obtain ⟨m, a, b, h⟩ := h
  have c7 : Sh.cel w t 7 = some (.map (some b)) := h.cel 7
  simp only [stp, Nat.reduceAdd, Int.reduceLT, Int.reduceLE, Int.reduceEq, Int.reduceNe, ne_eq, bne_self_eq_false, beq_self_eq_true, stm, c7, Option.isSome_some, Option.getD_some]
  rw [rd_eq (lu_208 h.mb.mp (kv_ok _) ⟨x, rfl⟩ true)]
  rw [aget_lkp]
  cases hl : lkp x s.rd with
  | some u =>
    have e : rdS s x d = s := by unfold rdS; rw [hl]; rfl
    simp only [stp, Nat.reduceAdd, Int.reduceLT, Int.reduceLE, Int.reduceEq, Int.reduceNe, ne_eq, bne_self_eq_false, beq_self_eq_true, stm, if_true, Option.map_some, Option.isSome_some, Bool.not_true]
    exact hq _ (by rw [e]; exact ⟨m, a, b, h⟩) (KO.of0 (K0.refl w))
  | none =>
    have e : rdS s x d = { s with rd := puA x d s.rd } := by unfold rdS; rw [hl]; rfl
    simp only [stp, Nat.reduceAdd, Int.reduceLT, Int.reduceLE, Int.reduceEq, Int.reduceNe, ne_eq, bne_self_eq_false, beq_self_eq_true, stm, if_true, Option.map_none, Option.isSome_none, Bool.not_false]
    refine jn0 (fun u => TX u B t (rdS s x d) ∧ KO B tp w u) (fun J hJ => ?_) fun u hu _j => hq u hu.1 hu.2
    have put : ∀ {w2 : World}, K0 w w2 → act Tryz.prog (thenU (Instr.mapUpdate 208 (.map (some b)) (.int .i64 x) (.string d))) (fun _ w_41 => J w_41) w2 := fun {w2} k2 => by
      have h2 := h.keep0 k2
      refine act_mapUpdateS ky_3 (fun w => Tryz.runUnderlying208 w) h2.mb.mp (kv_ok _) ⟨x, rfl⟩ fun w5 hm hs => ?_
      have hs5 := hs h2.mb.st
      have hT := mapTo_tm hm hs5
      exact hJ w5 ⟨by rw [e]; exact ⟨m, a, b, h2.setR hm.keep hT⟩, (KO.of0 k2).trans (h2.kdB hm.keep)⟩
    try simp only [stp, Nat.reduceAdd, Int.reduceLT, Int.reduceLE, Int.reduceEq, Int.reduceNe, ne_eq, bne_self_eq_false, beq_self_eq_true, stm, cel_drew, c7, Option.isSome_some, Option.getD_some]
    refine ⟨?_, ?_⟩
    · refine cloneT_c hd fun w2 k2 => ?_
      exact put ((K0.refl w).drew.trans k2)
    · refine cloneT_c hd fun w2 k2 => ?_
      have k02 := (K0.refl w).drew.trans k2
      have c7' : Sh.cel w2 t 7 = some (.map (some b)) := (h.keep0 k02).cel 7
      simp only [stp, Nat.reduceAdd, Int.reduceLT, Int.reduceLE, Int.reduceEq, Int.reduceNe, ne_eq, bne_self_eq_false, beq_self_eq_true, stm, c7', Option.isSome_some, Option.getD_some]
      exact put k02
theorem lkp_mem {x : Int} : ∀ {l : List (Int × ByteArray)}, (lkp x l).isSome = true ↔ x ∈ l.map (·.1)
  | [] => by simp [lkp]
  | p :: l => by
    by_cases e : p.1 = x
    · simp [lkp, e]
    · have : ¬ x = p.1 := fun h => e h.symm
      simp only [lkp, e, if_false, List.map_cons, List.mem_cons, this, false_or]
      exact lkp_mem
/-! ### operations -/
abbrev OpT := Int × Int × ByteArray
def encO (o : OpT) : List Value := [.int .i64 o.1, .int .i64 o.2.1, .string o.2.2]
theorem encO_len (o : OpT) : (encO o).length = 3 := rfl
def goodO (o : OpT) : Prop := ((Lit.int .i64 o.1).wf = true) ∧ ((Lit.int .i64 o.2.1).wf = true) ∧ o.2.2.size ≤ maxLen
theorem decO (r : List Value) (h : AllOk [.int .i64, .int .i64, .str] r) : ∃ s, r = encO s ∧ goodO s := by
  cases r with
  | nil => exact h.elim
  | cons x0 r =>
    cases r with
    | nil => exact h.2.elim
    | cons x1 r =>
      cases r with
      | nil => exact h.2.2.elim
      | cons x2 r =>
        cases r with
        | cons x3 r => exact h.2.2.2.elim
        | nil =>
          obtain ⟨⟨n0, rfl, h0⟩, ⟨n1, rfl, h1⟩, ⟨s, rfl, h2⟩, _⟩ := h
          exact ⟨(n0, n1, s), rfl, h0, h1, h2⟩
theorem strTo {T ty : TypeId} {P : Program} {s : ByteArray} {n : Nat} {k : Value → Prop} (hT : ∀ w, (underlying T).run P w = .ok .string w) (h : n ≤ s.size) :
    pur P (Instr.sliceAt T (.string s) none (some (.int .i64 (n : Int))) none) k = k (.string (s.extract 0 n)) := pur_eq fun w => by
  simp [Instr.sliceAt, hT, Instr.slice, Instr.sliceBounds, Instr.sliceBound, asIntOf, h]
theorem padF_extract (d : ByteArray) : (padF d).extract 0 d.size = d := by
  unfold padF
  ext1
  simp [ByteArray.data_append, ByteArray.data_extract]
end
end Go.Proofs.YtndjohbbaplekaaGreatX
