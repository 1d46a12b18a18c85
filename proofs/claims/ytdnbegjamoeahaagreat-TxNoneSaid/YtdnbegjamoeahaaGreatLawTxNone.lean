/- The row's step of 'TxNone': from what the function computes to the given statement. Conditions: none. -/
import Derived.Test.YtdnbegjamoeahaaGreatRows
import Derived.WalkKit
import Derived.ProofKit
import Derived.OpenShut
import Derived.ShutString
import Derived.ChangeOld
import Derived.Below
import Derived.Test.YtdnbegjamoeahaaGreatTShU
import Derived.Test.YtdnbegjamoeahaaGreatTTxNone
set_option linter.unusedSimpArgs false
set_option linter.unusedVariables false
namespace Go.Proofs.YtdnbegjamoeahaaGreat.txNone
open Go.ChangeShapes Go.WideShapes Go.ChangeAt Go.RowKit
open Go.ChangeMaps (open_string shut_string)
set_option linter.unusedVariables false
theorem own : ownKnob Tryz.prog.godebug = none := by kernel_rfl
theorem laidOut : laidOutB Tryz.prog = true := by kernel_rfl
set_option maxRecDepth 100000 in
theorem lifted (os : Os) (started : os.Started) (H : Type) (enc : TypeId × Value → H) :
    ReturnsInHanded {} Tryz.checked os 11 .any (Rows.txNoneSpec.pre6 enc Tryz.prog Tryz.f11 Rows.txNoneRow.domain false) (Rows.txNoneSpec.post enc Tryz.prog Tryz.f11 false true false false) := by
  refine returnsInHanded_of_change (C := Tryz.checked) own started (by kernel_rfl) Tryz.func11
    (ChangeSpec.witness6 (enc := enc) (C := Tryz.checked) false ⟨#[], #[.int .i64 0, .string ⟨#[]⟩], []⟩ 8 (by kernel_rfl) (by kernel_rfl) (by kernel_rfl) (by kernel_rfl)) ?_
  intro W base args ds gs before hval0 hW hcnd _
  have hval : ∀ (j : Nat) t v, Tryz.f11.params[j]? = some t → args[j]? = some v → Value.okWide Tryz.prog W .any base t v := hval0
  have hW' := hW
  obtain ⟨p, q, hA0, hV, rfl, hfz, hnd⟩ := hW
  have hA : DataW.TrodAll enc Tryz.prog W 0 (fun _ => true) true Tryz.f11.params.toList args.toList ds p := hA0
  rw [Tryz.params11] at hA hval
  obtain ⟨v0, vs0, d0, ds0, p0, q0, hargs, rfl, rfl, h0, r0⟩ := trodAll_cons hA
  obtain ⟨v1, vs1, d1, ds1, p1, q1, rfl, rfl, rfl, h1, r1⟩ := trodAll_cons r0
  obtain ⟨rfl, rfl, rfl⟩ := trodAll_nil r1
  obtain rfl : args = #[v0, v1] := by cases args; simp_all
  obtain ⟨rfl, rfl⟩ := trodVars_none hV
  obtain ⟨a0, rfl, rfl, rfl, w0⟩ := open_int Tryz.underlying3 (hval 0 3 v0 rfl rfl) h0
  obtain ⟨a1, rfl, rfl, rfl, w1⟩ := open_string Tryz.underlying9 (hval 1 9 v1 rfl rfl) h1
  clear hA0 hval0
  refine Calls.mono (Go.Proofs.YtdnbegjamoeahaaGreatT.txnone_law (w := W) w0 w1 (Q := fun v w' => v = .bool true ∧ Below W.heap.size W w') (fun w' k => ⟨rfl, k.below rfl⟩)).2 fun e W' ⟨v, he, hv, bel⟩ => ?_
  subst he hv
  exact ⟨_, rfl, _, _, _, [], _, [], hW', trodAll_mk1 (shut_bool Tryz.underlying4 _), (trodAll_cons_mk (shut_int Tryz.underlying3 w0) (trodAll_cons_mk (shut_string Tryz.underlying9 w1) trodAll_mk0)), rfl, bel.frame _, fun h => by cases h⟩

theorem lj0 : (Rows.txNoneRow.wf (OpenSpec.ofChange Rows.txNoneSpec)) = true := by kernel_rfl
theorem lj1 : (laidOutB Tryz.pinned.checked.prog) = true := by kernel_rfl
theorem lj2 : (mapsRowed Tryz.pinned.checked.prog) = true := by kernel_rfl
theorem lj3 : (Tryz.f11.params.all (Tryz.pinned.checked.prog.readableRec ·)) = true := by kernel_rfl
theorem lj4 : (namedTie Tryz.pinned.checked.prog Rows.txNoneRow.named Rows.txNoneSpec.vars) = true := by kernel_rfl
theorem lj5 : ((Rows.txNoneRow.stops == [])) = true := by kernel_rfl
theorem lj6 : ((Tryz.pinned.checked.prog.stops == [])) = true := by kernel_rfl
theorem lj7 : ((Rows.txNoneRow.knobs == [])) = true := by kernel_rfl
theorem lj8 : ((Tryz.pinned.checked.prog.stopKnobs == [])) = true := by kernel_rfl
theorem lj9 : ((Rows.txNoneRow.inPlace == Tryz.pinned.checked.prog.inPlace 11)) = true := by kernel_rfl
theorem lj10 : ((Rows.txNoneRow.unfollowed == Tryz.pinned.checked.prog.unfollowed 11)) = true := by kernel_rfl
theorem lj11 : ((Rows.txNoneRow.recurses == Tryz.pinned.checked.prog.recurses 11)) = true := by kernel_rfl
theorem lj12 : ((Rows.txNoneRow.named == Tryz.pinned.checked.prog.varsNamed 11)) = true := by kernel_rfl
theorem lj13 : ((Rows.txNoneRow.maps == (Tryz.f11.params.toList ++ Rows.txNoneSpec.plain.varTypes Tryz.pinned.checked.prog).any (Tryz.pinned.checked.prog.mapsRec ·))) = true := by kernel_rfl
theorem lj14 : ((Rows.txNoneRow.ifaces == (Tryz.f11.params.toList ++ Rows.txNoneSpec.plain.varTypes Tryz.pinned.checked.prog).any (Tryz.pinned.checked.prog.ifacesRec ·))) = true := by kernel_rfl
theorem lj15 : ((Rows.txNoneRow.mapsOut == Tryz.pinned.checked.prog.mapsAmong Tryz.f11.resultTypes.toList)) = true := by kernel_rfl
theorem lj16 : ((Rows.txNoneRow.loops == (Tryz.f11.params.toList ++ Rows.txNoneSpec.plain.varTypes Tryz.pinned.checked.prog).any (Tryz.pinned.checked.prog.loopsFrom ·))) = true := by kernel_rfl
theorem lj17 : ((Rows.txNoneRow.wideKeys == (Tryz.f11.params.toList ++ Rows.txNoneSpec.plain.varTypes Tryz.pinned.checked.prog ++ Tryz.f11.resultTypes.toList).any (Tryz.pinned.checked.prog.wideKeysFrom ·))) = true := by kernel_rfl
theorem lj18 : (Rows.txNoneSpec.vars.all (Tryz.pinned.checked.prog.varReadable ·)) = true := by kernel_rfl
theorem lj19 : (Tryz.f11.resultTypes.all (fun t => Tryz.pinned.checked.prog.readableRec t && decide (t < Tryz.pinned.checked.prog.types.size))) = true := by kernel_rfl
theorem lj20 : ((Rows.txNoneRow.ifacesOut == Tryz.f11.resultTypes.toList.any (Tryz.pinned.checked.prog.ifacesRec ·))) = true := by kernel_rfl
theorem lj21 : ((Rows.txNoneRow.loopsOut == Tryz.f11.resultTypes.toList.any (Tryz.pinned.checked.prog.loopsFrom ·))) = true := by kernel_rfl
theorem lj22 : ((Rows.txNoneRow.plainKeys == Tryz.pinned.checked.prog.plainKeys)) = true := by kernel_rfl
theorem lj23 : (Rows.txNoneRow.shortTexts.isNone) = true := by kernel_rfl
theorem lj24 : (Tryz.pinned.checked.prog.stopsHeard) = true := by kernel_rfl
theorem lj25 : (Tryz.pinned.checked.prog.mayEnter) = true := by kernel_rfl
theorem lj26 : ((Rows.txNoneRow.lifted == Tryz.pinned.checked.prog.liftsFinal)) = true := by kernel_rfl
theorem lj27 : ((Tryz.pinned.checked.prog.make == some Rows.txNoneRow.make)) = true := by kernel_rfl
theorem lj28 : ((Rows.txNoneRow.kinds == (if Rows.txNoneRow.domain.isEmpty then [] else Tryz.f11.params.toList.map fun t => match Tryz.pinned.checked.prog.underlying t with | some (.int k) => some k | _ => none))) = true := by kernel_rfl
theorem lj29 : ((Rows.txNoneRow.pinned == Rows.txNoneRow.pinnedBy)) = true := by kernel_rfl
theorem lj30 : ((Rows.txNoneRow.veiled == (Tryz.f11.params.toList ++ Rows.txNoneSpec.plain.varTypes Tryz.pinned.checked.prog ++ Tryz.f11.resultTypes.toList).any (Tryz.pinned.checked.prog.veiledRec ·))) = true := by kernel_rfl
theorem lj31 : (Rows.txNoneRow.veiledFits Tryz.pinned.checked.prog Tryz.f11.params.toList (Tryz.f11.params.toList ++ Rows.txNoneSpec.plain.varTypes Tryz.pinned.checked.prog ++ Tryz.f11.resultTypes.toList)) = true := by kernel_rfl
theorem and2 {a b : Bool} (h : a = true) (h' : b = true) : (a && b) = true := by subst h h'; rfl
set_option maxRecDepth 100000 in
theorem closed : joinedFacts Tryz.pinned.checked.prog 11 Tryz.f11 Rows.txNoneSpec Rows.txNoneRow = true := (and2 (and2 (and2 (and2 (and2 (and2 (and2 (and2 (and2 (and2 (and2 (and2 (and2 (and2 (and2 (and2 (and2 (and2 (and2 (and2 (and2 (and2 (and2 (and2 (and2 (and2 (and2 (and2 (and2 (and2 (and2 lj0 lj1) lj2) lj3) lj4) lj5) lj6) lj7) lj8) lj9) lj10) lj11) lj12) lj13) lj14) lj15) lj16) lj17) lj18) lj19) lj20) lj21) lj22) lj23) lj24) lj25) lj26) lj27) lj28) lj29) lj30) lj31)
theorem over : Rows.txNoneRow.holds Tryz.pinned (OpenSpec.ofChange Rows.txNoneSpec) :=
  OpenClaim.holds_of_wide 11 Tryz.f11 rfl rfl rfl rfl rfl rfl rfl ⟨rfl, rfl, rfl, rfl, rfl⟩ rfl rfl rfl rfl rfl (by kernel_rfl) Tryz.func11 closed
    (of_decide_eq_true (by kernel_rfl)) (by unfold Func.isWrapper; first | (rw [if_pos (by decide +kernel)]; kernel_rfl) | (rw [if_neg (by decide +kernel)]; exact ⟨rfl, rfl⟩))
    (fun os started H enc _ => lifted os started H enc)
/-- The statement. -/
theorem proved : Rows.TxNoneSaid := over
end Go.Proofs.YtdnbegjamoeahaaGreat.txNone
