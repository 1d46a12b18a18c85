/- The book of lists: is each list as it was, and does none share memory with another one? Conditions: as it says. -/
import Derived.Test.YtmmnifbponhhfaaGreatTBookWNums
import Derived.Test.YtmmnifbponhhfaaGreatTBookWImages
set_option linter.unusedSimpArgs false
set_option linter.unusedVariables false
namespace Go.Proofs.YtmmnifbponhhfaaGreatT.Bk
open Go.Sh Go.Proofs.YtmmnifbponhhfaaGreatT
set_option maxRecDepth 100000
abbrev tBk : TypeId := 43
section
variable {w : World} {Q : Value → World → Prop} {b B : Nat} {f : Nat → Value}
theorem bk_new : w.alloc (.cells #[Value.slice none 0 0, Value.slice none 0 0, Value.slice none 0 0, Value.slice none 0 0, Value.slice none 0 0, Value.slice none 0 0, Value.slice none 0 0, Value.slice none 0 0, Value.slice none 0 0, Value.slice none 0 0, Value.slice none 0 0, Value.slice none 0 0, Value.slice none 0 0, Value.slice none 0 0, Value.slice none 0 0, Value.slice none 0 0, Value.slice none 0 0, Value.slice none 0 0, Value.slice none 0 0, Value.slice none 0 0, Value.slice none 0 0, Value.slice none 0 0, Value.slice none 0 0, Value.slice none 0 0, Value.slice none 0 0, Value.slice none 0 0, Value.slice none 0 0, Value.slice none 0 0, Value.slice none 0 0, Value.slice none 0 0] tBk) = w.alloc (.cells ((List.range 30).map fun _ => Value.slice none 0 0).toArray tBk) := rfl
theorem apart_c {psNums qsNums : List (Value × List Int)} {psImages qsImages : List (Value × List (Int × Int × ByteArray))} (hb : BkC tBk w b f) (hB : B ≤ siz w) (hn : ∀ o, o < 30 → o ∉ [4, 5, 10, 11] → f o = .slice none 0 0)
    (hNums : BkNums.KsX w B f psNums qsNums) (hImages : BkImages.KsX w B f psImages qsImages)
    (hq : ∀ w', Keep (fun g => B ≤ g) w w' → Q (.bool true) w') : callS Tryz.prog 17 #[.pointer (some ⟨b, 0, none⟩)] Q w := by
  refine ref17 ?_
  unfold S17
  have cc : ∀ {u : World}, BkC tBk u b f → ∀ o, o < 30 → o ∉ [4, 5, 10, 11] → cel u b o = some (.slice none 0 0) := fun {u} h o h1 h2 => by rw [h.cel h1, hn o h1 h2]
  have kk : Keep (fun g => B ≤ g) w w := Keep.refl _ _
  refine stillTexts0 (cc hb 0 (by decide) (by decide)) ?_
  simp only [pur_not, Bool.not_true, condS_false]
  refine stillInts0 (cc hb 2 (by decide) (by decide)) ?_
  simp only [pur_not, Bool.not_true, condS_false]
  refine BkNums.still_c hb hNums fun w1 k1 => ?_
  have hb := hb.keep k1 id
  have kk := kk.trans k1.none
  have hB : B ≤ siz w1 := Nat.le_trans hB k1.size
  have hNums := hNums.keep0 k1
  have hImages := hImages.keep0 k1
  simp only [pur_not, Bool.not_true, condS_false]
  refine stillSpans0 (cc hb 6 (by decide) (by decide)) ?_
  simp only [pur_not, Bool.not_true, condS_false]
  refine stillLocks0 (cc hb 8 (by decide) (by decide)) ?_
  simp only [pur_not, Bool.not_true, condS_false]
  refine BkImages.still_c hb hImages fun w2 k2 => ?_
  have hb := hb.keep k2 id
  have kk := kk.trans k2.none
  have hB : B ≤ siz w2 := Nat.le_trans hB k2.size
  have hNums := hNums.keep0 k2
  have hImages := hImages.keep0 k2
  simp only [pur_not, Bool.not_true, condS_false]
  refine stillRecords0 (cc hb 12 (by decide) (by decide)) ?_
  simp only [pur_not, Bool.not_true, condS_false]
  refine stillPackets0 (cc hb 14 (by decide) (by decide)) ?_
  simp only [pur_not, Bool.not_true, condS_false]
  refine stillFrames0 (cc hb 16 (by decide) (by decide)) ?_
  simp only [pur_not, Bool.not_true, condS_false]
  refine stillWaits0 (cc hb 18 (by decide) (by decide)) ?_
  simp only [pur_not, Bool.not_true, condS_false]
  refine stillRevokes0 (cc hb 20 (by decide) (by decide)) ?_
  simp only [pur_not, Bool.not_true, condS_false]
  refine stillEntries0 (cc hb 22 (by decide) (by decide)) ?_
  simp only [pur_not, Bool.not_true, condS_false]
  refine stillParts0 (cc hb 24 (by decide) (by decide)) ?_
  simp only [pur_not, Bool.not_true, condS_false]
  refine stillMsgs0 (cc hb 26 (by decide) (by decide)) ?_
  simp only [pur_not, Bool.not_true, condS_false]
  refine stillSteps0 (cc hb 28 (by decide) (by decide)) ?_
  simp only [pur_not, Bool.not_true, condS_false]
  refine putRecords0 (cc hb 12 (by decide) (by decide)) ?_
  refine putMsgs0 (cc hb 26 (by decide) (by decide)) ?_
  refine putSteps0 (cc hb 28 (by decide) (by decide)) ?_
  refine putTexts0 (cc hb 0 (by decide) (by decide)) ?_
  refine putInts0 (cc hb 2 (by decide) (by decide)) ?_
  refine BkNums.put_c hb hNums.p hNums.le hNums.bd fun w3 pNums k3 => ?_
  have leNums := hNums.le
  have bdNums := hNums.bd
  have hNums := pNums
  have hb := hb.ko k3 (fun _ => rfl)
  have kk := kk.trans (k3.below (Nat.le_refl _))
  have hB : B ≤ siz w3 := Nat.le_trans hB k3.size
  have hImages := hImages.ko k3 (fun _ => rfl) (fun _ => rfl)
  refine putSpans0 (cc hb 6 (by decide) (by decide)) ?_
  refine putLocks0 (cc hb 8 (by decide) (by decide)) ?_
  refine BkImages.put_c hb hImages.p hImages.le hImages.bd fun w4 pImages k4 => ?_
  have leImages := hImages.le
  have bdImages := hImages.bd
  have hImages := pImages
  have hb := hb.ko k4 (fun _ => rfl)
  have kk := kk.trans (k4.below (Nat.le_refl _))
  have hB : B ≤ siz w4 := Nat.le_trans hB k4.size
  have hNums := hNums.ko k4 (fun _ => rfl) (fun _ => rfl)
  refine putPackets0 (cc hb 14 (by decide) (by decide)) ?_
  refine putFrames0 (cc hb 16 (by decide) (by decide)) ?_
  refine putWaits0 (cc hb 18 (by decide) (by decide)) ?_
  refine putRevokes0 (cc hb 20 (by decide) (by decide)) ?_
  refine putEntries0 (cc hb 22 (by decide) (by decide)) ?_
  refine putParts0 (cc hb 24 (by decide) (by decide)) ?_
  refine growTexts0 (cc hb 0 (by decide) (by decide)) ?_
  refine growInts0 (cc hb 2 (by decide) (by decide)) ?_
  refine BkNums.grow_c hb hB hNums BkNums.mpx_mk (by rw [BkNums.mpx_len]; exact leNums) (BkNums.mpx_bd bdNums) fun w5 vNums osNums gNums lNums mNums bNums rNums k5 => ?_
  have hNums := rNums
  have hb := hb.ko k5 (fun _ => rfl)
  have kk := kk.trans (k5.below (Nat.le_refl _))
  have hB : B ≤ siz w5 := Nat.le_trans hB k5.size
  have hImages := hImages.ko k5 (fun _ => rfl) (fun _ => rfl)
  refine growSpans0 (cc hb 6 (by decide) (by decide)) ?_
  refine growLocks0 (cc hb 8 (by decide) (by decide)) ?_
  refine BkImages.grow_c hb hB hImages BkImages.mpx_mk (by rw [BkImages.mpx_len]; exact leImages) (BkImages.mpx_bd bdImages) fun w6 vImages osImages gImages lImages mImages bImages rImages k6 => ?_
  have hImages := rImages
  have hb := hb.ko k6 (fun _ => rfl)
  have kk := kk.trans (k6.below (Nat.le_refl _))
  have hB : B ≤ siz w6 := Nat.le_trans hB k6.size
  have gNums := gNums.ko k6 (fun _ => rfl) (fun _ => rfl)
  have hNums := hNums.ko k6 (fun _ => rfl) (fun _ => rfl)
  refine growRecords0 (cc hb 12 (by decide) (by decide)) ?_
  refine growPackets0 (cc hb 14 (by decide) (by decide)) ?_
  refine growFrames0 (cc hb 16 (by decide) (by decide)) ?_
  refine growWaits0 (cc hb 18 (by decide) (by decide)) ?_
  refine growRevokes0 (cc hb 20 (by decide) (by decide)) ?_
  refine growEntries0 (cc hb 22 (by decide) (by decide)) ?_
  refine growParts0 (cc hb 24 (by decide) (by decide)) ?_
  refine growMsgs0 (cc hb 26 (by decide) (by decide)) ?_
  refine growSteps0 (cc hb 28 (by decide) (by decide)) ?_
  refine markedTexts0 ?_
  have cTexts := cc hb 0 (by decide) (by decide)
  simp only [stp, Nat.reduceAdd, Int.reduceLT, Int.reduceLE, Int.reduceEq, Int.reduceNe, ne_eq, bne_self_eq_false, beq_self_eq_true, stm, cTexts, Option.isSome_some, Option.getD_some]
  refine markedTexts0 ?_
  simp only [stp, Nat.reduceAdd, Int.reduceLT, Int.reduceLE, Int.reduceEq, Int.reduceNe, ne_eq, bne_self_eq_false, beq_self_eq_true, stm]
  refine markedInts0 ?_
  have cInts := cc hb 2 (by decide) (by decide)
  simp only [stp, Nat.reduceAdd, Int.reduceLT, Int.reduceLE, Int.reduceEq, Int.reduceNe, ne_eq, bne_self_eq_false, beq_self_eq_true, stm, cInts, Option.isSome_some, Option.getD_some]
  refine markedInts0 ?_
  simp only [stp, Nat.reduceAdd, Int.reduceLT, Int.reduceLE, Int.reduceEq, Int.reduceNe, ne_eq, bne_self_eq_false, beq_self_eq_true, stm]
  refine BkNums.marked_c gNums mNums (by rw [lNums, BkNums.mpx_len]; exact leNums) bNums fun w7 k7 => ?_
  have hb := hb.keep k7 id
  have kk := kk.trans k7.none
  have hB : B ≤ siz w7 := Nat.le_trans hB k7.size
  have gNums := gNums.keep0 k7
  have hNums := hNums.keep0 k7
  have gImages := gImages.keep0 k7
  have hImages := hImages.keep0 k7
  have cNums := hb.cel (o := 4) (by decide)
  simp only [stp, Nat.reduceAdd, Int.reduceLT, Int.reduceLE, Int.reduceEq, Int.reduceNe, ne_eq, bne_self_eq_false, beq_self_eq_true, stm, cNums, Option.isSome_some, Option.getD_some]
  refine BkNums.marked_c hNums BkNums.mpx_mk (by rw [BkNums.mpx_len]; exact leNums) (fun p hp => Nat.le_trans (BkNums.mpx_bd bdNums p hp) (by decide)) fun w8 k8 => ?_
  have hb := hb.keep k8 id
  have kk := kk.trans k8.none
  have hB : B ≤ siz w8 := Nat.le_trans hB k8.size
  have gNums := gNums.keep0 k8
  have hNums := hNums.keep0 k8
  have gImages := gImages.keep0 k8
  have hImages := hImages.keep0 k8
  simp only [stp, Nat.reduceAdd, Int.reduceLT, Int.reduceLE, Int.reduceEq, Int.reduceNe, ne_eq, bne_self_eq_false, beq_self_eq_true, stm]
  refine markedSpans0 ?_
  have cSpans := cc hb 6 (by decide) (by decide)
  simp only [stp, Nat.reduceAdd, Int.reduceLT, Int.reduceLE, Int.reduceEq, Int.reduceNe, ne_eq, bne_self_eq_false, beq_self_eq_true, stm, cSpans, Option.isSome_some, Option.getD_some]
  refine markedSpans0 ?_
  simp only [stp, Nat.reduceAdd, Int.reduceLT, Int.reduceLE, Int.reduceEq, Int.reduceNe, ne_eq, bne_self_eq_false, beq_self_eq_true, stm]
  refine markedLocks0 ?_
  have cLocks := cc hb 8 (by decide) (by decide)
  simp only [stp, Nat.reduceAdd, Int.reduceLT, Int.reduceLE, Int.reduceEq, Int.reduceNe, ne_eq, bne_self_eq_false, beq_self_eq_true, stm, cLocks, Option.isSome_some, Option.getD_some]
  refine markedLocks0 ?_
  simp only [stp, Nat.reduceAdd, Int.reduceLT, Int.reduceLE, Int.reduceEq, Int.reduceNe, ne_eq, bne_self_eq_false, beq_self_eq_true, stm]
  refine BkImages.marked_c gImages mImages (by rw [lImages, BkImages.mpx_len]; exact leImages) bImages fun w9 k9 => ?_
  have hb := hb.keep k9 id
  have kk := kk.trans k9.none
  have hB : B ≤ siz w9 := Nat.le_trans hB k9.size
  have gNums := gNums.keep0 k9
  have hNums := hNums.keep0 k9
  have gImages := gImages.keep0 k9
  have hImages := hImages.keep0 k9
  have cImages := hb.cel (o := 10) (by decide)
  simp only [stp, Nat.reduceAdd, Int.reduceLT, Int.reduceLE, Int.reduceEq, Int.reduceNe, ne_eq, bne_self_eq_false, beq_self_eq_true, stm, cImages, Option.isSome_some, Option.getD_some]
  refine BkImages.marked_c hImages BkImages.mpx_mk (by rw [BkImages.mpx_len]; exact leImages) (fun p hp => Nat.le_trans (BkImages.mpx_bd bdImages p hp) (by decide)) fun w10 k10 => ?_
  have hb := hb.keep k10 id
  have kk := kk.trans k10.none
  have hB : B ≤ siz w10 := Nat.le_trans hB k10.size
  have gNums := gNums.keep0 k10
  have hNums := hNums.keep0 k10
  have gImages := gImages.keep0 k10
  have hImages := hImages.keep0 k10
  simp only [stp, Nat.reduceAdd, Int.reduceLT, Int.reduceLE, Int.reduceEq, Int.reduceNe, ne_eq, bne_self_eq_false, beq_self_eq_true, stm]
  refine markedRecords0 ?_
  have cRecords := cc hb 12 (by decide) (by decide)
  simp only [stp, Nat.reduceAdd, Int.reduceLT, Int.reduceLE, Int.reduceEq, Int.reduceNe, ne_eq, bne_self_eq_false, beq_self_eq_true, stm, cRecords, Option.isSome_some, Option.getD_some]
  refine markedRecords0 ?_
  simp only [stp, Nat.reduceAdd, Int.reduceLT, Int.reduceLE, Int.reduceEq, Int.reduceNe, ne_eq, bne_self_eq_false, beq_self_eq_true, stm]
  refine markedPackets0 ?_
  have cPackets := cc hb 14 (by decide) (by decide)
  simp only [stp, Nat.reduceAdd, Int.reduceLT, Int.reduceLE, Int.reduceEq, Int.reduceNe, ne_eq, bne_self_eq_false, beq_self_eq_true, stm, cPackets, Option.isSome_some, Option.getD_some]
  refine markedPackets0 ?_
  simp only [stp, Nat.reduceAdd, Int.reduceLT, Int.reduceLE, Int.reduceEq, Int.reduceNe, ne_eq, bne_self_eq_false, beq_self_eq_true, stm]
  refine markedFrames0 ?_
  have cFrames := cc hb 16 (by decide) (by decide)
  simp only [stp, Nat.reduceAdd, Int.reduceLT, Int.reduceLE, Int.reduceEq, Int.reduceNe, ne_eq, bne_self_eq_false, beq_self_eq_true, stm, cFrames, Option.isSome_some, Option.getD_some]
  refine markedFrames0 ?_
  simp only [stp, Nat.reduceAdd, Int.reduceLT, Int.reduceLE, Int.reduceEq, Int.reduceNe, ne_eq, bne_self_eq_false, beq_self_eq_true, stm]
  refine markedWaits0 ?_
  have cWaits := cc hb 18 (by decide) (by decide)
  simp only [stp, Nat.reduceAdd, Int.reduceLT, Int.reduceLE, Int.reduceEq, Int.reduceNe, ne_eq, bne_self_eq_false, beq_self_eq_true, stm, cWaits, Option.isSome_some, Option.getD_some]
  refine markedWaits0 ?_
  simp only [stp, Nat.reduceAdd, Int.reduceLT, Int.reduceLE, Int.reduceEq, Int.reduceNe, ne_eq, bne_self_eq_false, beq_self_eq_true, stm]
  refine markedRevokes0 ?_
  have cRevokes := cc hb 20 (by decide) (by decide)
  simp only [stp, Nat.reduceAdd, Int.reduceLT, Int.reduceLE, Int.reduceEq, Int.reduceNe, ne_eq, bne_self_eq_false, beq_self_eq_true, stm, cRevokes, Option.isSome_some, Option.getD_some]
  refine markedRevokes0 ?_
  simp only [stp, Nat.reduceAdd, Int.reduceLT, Int.reduceLE, Int.reduceEq, Int.reduceNe, ne_eq, bne_self_eq_false, beq_self_eq_true, stm]
  refine markedEntries0 ?_
  have cEntries := cc hb 22 (by decide) (by decide)
  simp only [stp, Nat.reduceAdd, Int.reduceLT, Int.reduceLE, Int.reduceEq, Int.reduceNe, ne_eq, bne_self_eq_false, beq_self_eq_true, stm, cEntries, Option.isSome_some, Option.getD_some]
  refine markedEntries0 ?_
  simp only [stp, Nat.reduceAdd, Int.reduceLT, Int.reduceLE, Int.reduceEq, Int.reduceNe, ne_eq, bne_self_eq_false, beq_self_eq_true, stm]
  refine markedParts0 ?_
  have cParts := cc hb 24 (by decide) (by decide)
  simp only [stp, Nat.reduceAdd, Int.reduceLT, Int.reduceLE, Int.reduceEq, Int.reduceNe, ne_eq, bne_self_eq_false, beq_self_eq_true, stm, cParts, Option.isSome_some, Option.getD_some]
  refine markedParts0 ?_
  simp only [stp, Nat.reduceAdd, Int.reduceLT, Int.reduceLE, Int.reduceEq, Int.reduceNe, ne_eq, bne_self_eq_false, beq_self_eq_true, stm]
  refine markedMsgs0 ?_
  have cMsgs := cc hb 26 (by decide) (by decide)
  simp only [stp, Nat.reduceAdd, Int.reduceLT, Int.reduceLE, Int.reduceEq, Int.reduceNe, ne_eq, bne_self_eq_false, beq_self_eq_true, stm, cMsgs, Option.isSome_some, Option.getD_some]
  refine markedMsgs0 ?_
  simp only [stp, Nat.reduceAdd, Int.reduceLT, Int.reduceLE, Int.reduceEq, Int.reduceNe, ne_eq, bne_self_eq_false, beq_self_eq_true, stm]
  refine markedSteps0 ?_
  have cSteps := cc hb 28 (by decide) (by decide)
  simp only [stp, Nat.reduceAdd, Int.reduceLT, Int.reduceLE, Int.reduceEq, Int.reduceNe, ne_eq, bne_self_eq_false, beq_self_eq_true, stm, cSteps, Option.isSome_some, Option.getD_some]
  refine markedSteps0 ?_
  try simp only [stp, Nat.reduceAdd, Int.reduceLT, Int.reduceLE, Int.reduceEq, Int.reduceNe, ne_eq, bne_self_eq_false, beq_self_eq_true, stm]
  exact hq _ kk
end
end Go.Proofs.YtmmnifbponhhfaaGreatT.Bk
