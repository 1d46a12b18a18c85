/- The book of lists: is each list as it was, and does none share memory with another one? Conditions: as it says. -/
import Derived.Test.YtndjohbbaplekaaGreatHBookWInts
set_option linter.unusedSimpArgs false
set_option linter.unusedVariables false
namespace Go.Proofs.YtndjohbbaplekaaGreatH.Bk
open Go.Sh Go.Proofs.YtndjohbbaplekaaGreatH
set_option maxRecDepth 100000
abbrev tBk : TypeId := 51
section
variable {w : World} {Q : Value → World → Prop} {b B : Nat} {f : Nat → Value}
theorem bk_new : w.alloc (.cells #[Value.slice none 0 0, Value.slice none 0 0, Value.slice none 0 0, Value.slice none 0 0, Value.slice none 0 0, Value.slice none 0 0, Value.slice none 0 0, Value.slice none 0 0, Value.slice none 0 0, Value.slice none 0 0, Value.slice none 0 0, Value.slice none 0 0, Value.slice none 0 0, Value.slice none 0 0, Value.slice none 0 0, Value.slice none 0 0, Value.slice none 0 0, Value.slice none 0 0, Value.slice none 0 0, Value.slice none 0 0, Value.slice none 0 0, Value.slice none 0 0, Value.slice none 0 0, Value.slice none 0 0, Value.slice none 0 0, Value.slice none 0 0, Value.slice none 0 0, Value.slice none 0 0, Value.slice none 0 0, Value.slice none 0 0] tBk) = w.alloc (.cells ((List.range 30).map fun _ => Value.slice none 0 0).toArray tBk) := rfl
theorem apart_c {psInts qsInts : List (Value × List Int)} (hb : BkC tBk w b f) (hB : B ≤ siz w) (hn : ∀ o, o < 30 → o ∉ [2, 3] → f o = .slice none 0 0)
    (hInts : BkInts.KsX w B f psInts qsInts)
    (hq : ∀ w', Keep (fun g => B ≤ g) w w' → Q (.bool true) w') : callS Tryz.prog 22 #[.pointer (some ⟨b, 0, none⟩)] Q w := by
  refine ref22 ?_
  unfold S22
  have cc : ∀ {u : World}, BkC tBk u b f → ∀ o, o < 30 → o ∉ [2, 3] → cel u b o = some (.slice none 0 0) := fun {u} h o h1 h2 => by rw [h.cel h1, hn o h1 h2]
  have kk : Keep (fun g => B ≤ g) w w := Keep.refl _ _
  refine stillTexts0 (cc hb 0 (by decide) (by decide)) ?_
  simp only [pur_not, Bool.not_true, condS_false]
  refine BkInts.still_c hb hInts fun w1 k1 => ?_
  have hb := hb.keep k1 id
  have kk := kk.trans k1.none
  have hB : B ≤ siz w1 := Nat.le_trans hB k1.size
  have hInts := hInts.keep0 k1
  simp only [pur_not, Bool.not_true, condS_false]
  refine stillNums0 (cc hb 4 (by decide) (by decide)) ?_
  simp only [pur_not, Bool.not_true, condS_false]
  refine stillSpans0 (cc hb 6 (by decide) (by decide)) ?_
  simp only [pur_not, Bool.not_true, condS_false]
  refine stillLocks0 (cc hb 8 (by decide) (by decide)) ?_
  simp only [pur_not, Bool.not_true, condS_false]
  refine stillImages0 (cc hb 10 (by decide) (by decide)) ?_
  simp only [pur_not, Bool.not_true, condS_false]
  refine stillRecords0 (cc hb 12 (by decide) (by decide)) ?_
  simp only [pur_not, Bool.not_true, condS_false]
  refine stillPackets0 (cc hb 14 (by decide) (by decide)) ?_
  simp only [pur_not, Bool.not_true, condS_false]
  refine stillFrames0 (cc hb 16 (by decide) (by decide)) ?_
  simp only [pur_not, Bool.not_true, condS_false]
  refine stillWaits0 (cc hb 18 (by decide) (by decide)) ?_
  simp only [pur_not, Bool.not_true, condS_false]
  refine stillRevokes0 (cc hb 20 (by decide) (by decide)) ?_
  simp only [pur_not, Bool.not_true, condS_false]
  refine stillEntries0 (cc hb 22 (by decide) (by decide)) ?_
  simp only [pur_not, Bool.not_true, condS_false]
  refine stillParts0 (cc hb 24 (by decide) (by decide)) ?_
  simp only [pur_not, Bool.not_true, condS_false]
  refine stillMsgs0 (cc hb 26 (by decide) (by decide)) ?_
  simp only [pur_not, Bool.not_true, condS_false]
  refine stillSteps0 (cc hb 28 (by decide) (by decide)) ?_
  simp only [pur_not, Bool.not_true, condS_false]
  refine putRecords0 (cc hb 12 (by decide) (by decide)) ?_
  refine putMsgs0 (cc hb 26 (by decide) (by decide)) ?_
  refine putSteps0 (cc hb 28 (by decide) (by decide)) ?_
  refine putTexts0 (cc hb 0 (by decide) (by decide)) ?_
  refine BkInts.put_c hb hInts.p hInts.le hInts.bd fun w2 pInts k2 => ?_
  have leInts := hInts.le
  have bdInts := hInts.bd
  have hInts := pInts
  have hb := hb.ko k2 (fun _ => rfl)
  have kk := kk.trans (k2.below (Nat.le_refl _))
  have hB : B ≤ siz w2 := Nat.le_trans hB k2.size
  refine putNums0 (cc hb 4 (by decide) (by decide)) ?_
  refine putSpans0 (cc hb 6 (by decide) (by decide)) ?_
  refine putLocks0 (cc hb 8 (by decide) (by decide)) ?_
  refine putImages0 (cc hb 10 (by decide) (by decide)) ?_
  refine putPackets0 (cc hb 14 (by decide) (by decide)) ?_
  refine putFrames0 (cc hb 16 (by decide) (by decide)) ?_
  refine putWaits0 (cc hb 18 (by decide) (by decide)) ?_
  refine putRevokes0 (cc hb 20 (by decide) (by decide)) ?_
  refine putEntries0 (cc hb 22 (by decide) (by decide)) ?_
  refine putParts0 (cc hb 24 (by decide) (by decide)) ?_
  refine growTexts0 (cc hb 0 (by decide) (by decide)) ?_
  refine BkInts.grow_c hb hB hInts BkInts.mpx_mk (by rw [BkInts.mpx_len]; exact leInts) (BkInts.mpx_bd bdInts) fun w3 vInts osInts gInts lInts mInts bInts rInts k3 => ?_
  have hInts := rInts
  have hb := hb.ko k3 (fun _ => rfl)
  have kk := kk.trans (k3.below (Nat.le_refl _))
  have hB : B ≤ siz w3 := Nat.le_trans hB k3.size
  refine growNums0 (cc hb 4 (by decide) (by decide)) ?_
  refine growSpans0 (cc hb 6 (by decide) (by decide)) ?_
  refine growLocks0 (cc hb 8 (by decide) (by decide)) ?_
  refine growImages0 (cc hb 10 (by decide) (by decide)) ?_
  refine growRecords0 (cc hb 12 (by decide) (by decide)) ?_
  refine growPackets0 (cc hb 14 (by decide) (by decide)) ?_
  refine growFrames0 (cc hb 16 (by decide) (by decide)) ?_
  refine growWaits0 (cc hb 18 (by decide) (by decide)) ?_
  refine growRevokes0 (cc hb 20 (by decide) (by decide)) ?_
  refine growEntries0 (cc hb 22 (by decide) (by decide)) ?_
  refine growParts0 (cc hb 24 (by decide) (by decide)) ?_
  refine growMsgs0 (cc hb 26 (by decide) (by decide)) ?_
  refine growSteps0 (cc hb 28 (by decide) (by decide)) ?_
  refine markedTexts0 ?_
  have cTexts := cc hb 0 (by decide) (by decide)
  simp only [stp, Nat.reduceAdd, Int.reduceLT, Int.reduceLE, Int.reduceEq, Int.reduceNe, ne_eq, bne_self_eq_false, beq_self_eq_true, stm, cTexts, Option.isSome_some, Option.getD_some]
  refine markedTexts0 ?_
  simp only [stp, Nat.reduceAdd, Int.reduceLT, Int.reduceLE, Int.reduceEq, Int.reduceNe, ne_eq, bne_self_eq_false, beq_self_eq_true, stm]
  refine BkInts.marked_c gInts mInts (by rw [lInts, BkInts.mpx_len]; exact leInts) bInts fun w4 k4 => ?_
  have hb := hb.keep k4 id
  have kk := kk.trans k4.none
  have hB : B ≤ siz w4 := Nat.le_trans hB k4.size
  have gInts := gInts.keep0 k4
  have hInts := hInts.keep0 k4
  have cInts := hb.cel (o := 2) (by decide)
  simp only [stp, Nat.reduceAdd, Int.reduceLT, Int.reduceLE, Int.reduceEq, Int.reduceNe, ne_eq, bne_self_eq_false, beq_self_eq_true, stm, cInts, Option.isSome_some, Option.getD_some]
  refine BkInts.marked_c hInts BkInts.mpx_mk (by rw [BkInts.mpx_len]; exact leInts) (fun p hp => Nat.le_trans (BkInts.mpx_bd bdInts p hp) (by decide)) fun w5 k5 => ?_
  have hb := hb.keep k5 id
  have kk := kk.trans k5.none
  have hB : B ≤ siz w5 := Nat.le_trans hB k5.size
  have gInts := gInts.keep0 k5
  have hInts := hInts.keep0 k5
  simp only [stp, Nat.reduceAdd, Int.reduceLT, Int.reduceLE, Int.reduceEq, Int.reduceNe, ne_eq, bne_self_eq_false, beq_self_eq_true, stm]
  refine markedNums0 ?_
  have cNums := cc hb 4 (by decide) (by decide)
  simp only [stp, Nat.reduceAdd, Int.reduceLT, Int.reduceLE, Int.reduceEq, Int.reduceNe, ne_eq, bne_self_eq_false, beq_self_eq_true, stm, cNums, Option.isSome_some, Option.getD_some]
  refine markedNums0 ?_
  simp only [stp, Nat.reduceAdd, Int.reduceLT, Int.reduceLE, Int.reduceEq, Int.reduceNe, ne_eq, bne_self_eq_false, beq_self_eq_true, stm]
  refine markedSpans0 ?_
  have cSpans := cc hb 6 (by decide) (by decide)
  simp only [stp, Nat.reduceAdd, Int.reduceLT, Int.reduceLE, Int.reduceEq, Int.reduceNe, ne_eq, bne_self_eq_false, beq_self_eq_true, stm, cSpans, Option.isSome_some, Option.getD_some]
  refine markedSpans0 ?_
  simp only [stp, Nat.reduceAdd, Int.reduceLT, Int.reduceLE, Int.reduceEq, Int.reduceNe, ne_eq, bne_self_eq_false, beq_self_eq_true, stm]
  refine markedLocks0 ?_
  have cLocks := cc hb 8 (by decide) (by decide)
  simp only [stp, Nat.reduceAdd, Int.reduceLT, Int.reduceLE, Int.reduceEq, Int.reduceNe, ne_eq, bne_self_eq_false, beq_self_eq_true, stm, cLocks, Option.isSome_some, Option.getD_some]
  refine markedLocks0 ?_
  simp only [stp, Nat.reduceAdd, Int.reduceLT, Int.reduceLE, Int.reduceEq, Int.reduceNe, ne_eq, bne_self_eq_false, beq_self_eq_true, stm]
  refine markedImages0 ?_
  have cImages := cc hb 10 (by decide) (by decide)
  simp only [stp, Nat.reduceAdd, Int.reduceLT, Int.reduceLE, Int.reduceEq, Int.reduceNe, ne_eq, bne_self_eq_false, beq_self_eq_true, stm, cImages, Option.isSome_some, Option.getD_some]
  refine markedImages0 ?_
  simp only [stp, Nat.reduceAdd, Int.reduceLT, Int.reduceLE, Int.reduceEq, Int.reduceNe, ne_eq, bne_self_eq_false, beq_self_eq_true, stm]
  refine markedRecords0 ?_
  have cRecords := cc hb 12 (by decide) (by decide)
  simp only [stp, Nat.reduceAdd, Int.reduceLT, Int.reduceLE, Int.reduceEq, Int.reduceNe, ne_eq, bne_self_eq_false, beq_self_eq_true, stm, cRecords, Option.isSome_some, Option.getD_some]
  refine markedRecords0 ?_
  simp only [stp, Nat.reduceAdd, Int.reduceLT, Int.reduceLE, Int.reduceEq, Int.reduceNe, ne_eq, bne_self_eq_false, beq_self_eq_true, stm]
  refine markedPackets0 ?_
  have cPackets := cc hb 14 (by decide) (by decide)
  simp only [stp, Nat.reduceAdd, Int.reduceLT, Int.reduceLE, Int.reduceEq, Int.reduceNe, ne_eq, bne_self_eq_false, beq_self_eq_true, stm, cPackets, Option.isSome_some, Option.getD_some]
  refine markedPackets0 ?_
  simp only [stp, Nat.reduceAdd, Int.reduceLT, Int.reduceLE, Int.reduceEq, Int.reduceNe, ne_eq, bne_self_eq_false, beq_self_eq_true, stm]
  refine markedFrames0 ?_
  have cFrames := cc hb 16 (by decide) (by decide)
  simp only [stp, Nat.reduceAdd, Int.reduceLT, Int.reduceLE, Int.reduceEq, Int.reduceNe, ne_eq, bne_self_eq_false, beq_self_eq_true, stm, cFrames, Option.isSome_some, Option.getD_some]
  refine markedFrames0 ?_
  simp only [stp, Nat.reduceAdd, Int.reduceLT, Int.reduceLE, Int.reduceEq, Int.reduceNe, ne_eq, bne_self_eq_false, beq_self_eq_true, stm]
  refine markedWaits0 ?_
  have cWaits := cc hb 18 (by decide) (by decide)
  simp only [stp, Nat.reduceAdd, Int.reduceLT, Int.reduceLE, Int.reduceEq, Int.reduceNe, ne_eq, bne_self_eq_false, beq_self_eq_true, stm, cWaits, Option.isSome_some, Option.getD_some]
  refine markedWaits0 ?_
  simp only [stp, Nat.reduceAdd, Int.reduceLT, Int.reduceLE, Int.reduceEq, Int.reduceNe, ne_eq, bne_self_eq_false, beq_self_eq_true, stm]
  refine markedRevokes0 ?_
  have cRevokes := cc hb 20 (by decide) (by decide)
  simp only [stp, Nat.reduceAdd, Int.reduceLT, Int.reduceLE, Int.reduceEq, Int.reduceNe, ne_eq, bne_self_eq_false, beq_self_eq_true, stm, cRevokes, Option.isSome_some, Option.getD_some]
  refine markedRevokes0 ?_
  simp only [stp, Nat.reduceAdd, Int.reduceLT, Int.reduceLE, Int.reduceEq, Int.reduceNe, ne_eq, bne_self_eq_false, beq_self_eq_true, stm]
  refine markedEntries0 ?_
  have cEntries := cc hb 22 (by decide) (by decide)
  simp only [stp, Nat.reduceAdd, Int.reduceLT, Int.reduceLE, Int.reduceEq, Int.reduceNe, ne_eq, bne_self_eq_false, beq_self_eq_true, stm, cEntries, Option.isSome_some, Option.getD_some]
  refine markedEntries0 ?_
  simp only [stp, Nat.reduceAdd, Int.reduceLT, Int.reduceLE, Int.reduceEq, Int.reduceNe, ne_eq, bne_self_eq_false, beq_self_eq_true, stm]
  refine markedParts0 ?_
  have cParts := cc hb 24 (by decide) (by decide)
  simp only [stp, Nat.reduceAdd, Int.reduceLT, Int.reduceLE, Int.reduceEq, Int.reduceNe, ne_eq, bne_self_eq_false, beq_self_eq_true, stm, cParts, Option.isSome_some, Option.getD_some]
  refine markedParts0 ?_
  simp only [stp, Nat.reduceAdd, Int.reduceLT, Int.reduceLE, Int.reduceEq, Int.reduceNe, ne_eq, bne_self_eq_false, beq_self_eq_true, stm]
  refine markedMsgs0 ?_
  have cMsgs := cc hb 26 (by decide) (by decide)
  simp only [stp, Nat.reduceAdd, Int.reduceLT, Int.reduceLE, Int.reduceEq, Int.reduceNe, ne_eq, bne_self_eq_false, beq_self_eq_true, stm, cMsgs, Option.isSome_some, Option.getD_some]
  refine markedMsgs0 ?_
  simp only [stp, Nat.reduceAdd, Int.reduceLT, Int.reduceLE, Int.reduceEq, Int.reduceNe, ne_eq, bne_self_eq_false, beq_self_eq_true, stm]
  refine markedSteps0 ?_
  have cSteps := cc hb 28 (by decide) (by decide)
  simp only [stp, Nat.reduceAdd, Int.reduceLT, Int.reduceLE, Int.reduceEq, Int.reduceNe, ne_eq, bne_self_eq_false, beq_self_eq_true, stm, cSteps, Option.isSome_some, Option.getD_some]
  refine markedSteps0 ?_
  try simp only [stp, Nat.reduceAdd, Int.reduceLT, Int.reduceLE, Int.reduceEq, Int.reduceNe, ne_eq, bne_self_eq_false, beq_self_eq_true, stm]
  exact hq _ kk
end
end Go.Proofs.YtndjohbbaplekaaGreatH.Bk
