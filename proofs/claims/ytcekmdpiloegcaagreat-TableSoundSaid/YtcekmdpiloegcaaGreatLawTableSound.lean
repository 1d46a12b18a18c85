/- The row's step of 'TableSound': from what the function computes to the given statement. Conditions: none. -/
import Derived.Test.YtcekmdpiloegcaaGreatRows
import Derived.WalkKit
import Derived.ProofKit
import Derived.OpenShut
import Derived.ShutString
import Derived.ChangeOld
import Derived.Below
import Derived.Test.YtcekmdpiloegcaaGreatShU
import Derived.Test.YtcekmdpiloegcaaGreatTabSound
set_option linter.unusedSimpArgs false
set_option linter.unusedVariables false
namespace Go.Proofs.YtcekmdpiloegcaaGreat.tableSound
open Go.ChangeShapes Go.WideShapes Go.ChangeAt Go.RowKit
open Go.ChangeMaps (open_string shut_string)
set_option linter.unusedVariables false
theorem own : ownKnob Tryz.prog.godebug = none := by kernel_rfl
theorem laidOut : laidOutB Tryz.prog = true := by kernel_rfl
set_option maxRecDepth 100000 in
theorem lifted (os : Os) (started : os.Started) (H : Type) (enc : TypeId × Value → H) :
    ReturnsInHanded {} Tryz.checked os 3 .any (Rows.tableSoundSpec.pre6 enc Tryz.prog Tryz.f3 Rows.tableSoundRow.domain false) (Rows.tableSoundSpec.post enc Tryz.prog Tryz.f3 false true false false) := by
  refine returnsInHanded_of_change (C := Tryz.checked) own started (by kernel_rfl) Tryz.func3
    (ChangeSpec.witness6 (enc := enc) (C := Tryz.checked) false ⟨#[], #[.int .i64 0, .slice none 0 0], []⟩ 8 (by kernel_rfl) (by kernel_rfl) (by kernel_rfl) (by kernel_rfl)) ?_
  intro W base args ds gs before hval0 hW hcnd _
  have hval : ∀ (j : Nat) t v, Tryz.f3.params[j]? = some t → args[j]? = some v → Value.okWide Tryz.prog W .any base t v := hval0
  have hW' := hW
  obtain ⟨p, q, hA0, hV, rfl, hfz, hnd⟩ := hW
  have hA : DataW.TrodAll enc Tryz.prog W 0 (fun _ => true) true Tryz.f3.params.toList args.toList ds p := hA0
  rw [Tryz.params3] at hA hval
  obtain ⟨v0, vs0, d0, ds0, p0, q0, hargs, rfl, rfl, h0, r0⟩ := trodAll_cons hA
  obtain ⟨v1, vs1, d1, ds1, p1, q1, rfl, rfl, rfl, h1, r1⟩ := trodAll_cons r0
  obtain ⟨rfl, rfl, rfl⟩ := trodAll_nil r1
  obtain rfl : args = #[v0, v1] := by cases args; simp_all
  obtain ⟨rfl, rfl⟩ := trodVars_none hV
  obtain ⟨a0, rfl, rfl, rfl, w0⟩ := open_int Tryz.underlying3 (hval 0 3 v0 rfl rfl) h0
  have k1 := h1
  have lt1 : ∀ x ∈ p1, x.block < W.heap.size := by obtain ⟨m, hm⟩ := k1; exact DataW.trod_lt m _ _ _ hm
  obtain ⟨a1, len1, cap1, rfl⟩ := okWide_slice Tryz.underlying22 (hval 1 22 v1 rfl rfl)
  obtain ⟨z1, zl1, w1, zm1, zw1⟩ := Sh.rows_as (d := 9) enc6 good6 dec6 (fun _ => rfl) (by decide) Tryz.underlying22 (by kernel_rfl) (by kernel_rfl) h1
  clear hA0 hval0
  refine Calls.mono (sound_law (w := W) w0 w1 (by omega) zw1 (Q := fun v w' => v = .bool true ∧ Below W.heap.size W w') (fun w' k => ⟨rfl, k.below rfl⟩)).2 fun e W' ⟨v, he, hv, bel⟩ => ?_
  subst he hv
  exact ⟨_, rfl, _, _, _, [], _, [], hW', trodAll_mk1 (shut_bool Tryz.underlying4 _), (trodAll_cons_mk (shut_int Tryz.underlying3 w0) (trodAll_cons_mk (Below.trod laidOut (by kernel_rfl) (of_decide_eq_true (by kernel_rfl)) k1 bel lt1) trodAll_mk0)), rfl, bel.frame _, fun h => by cases h⟩

theorem lj0 : (Rows.tableSoundRow.wf (OpenSpec.ofChange Rows.tableSoundSpec)) = true := by kernel_rfl
theorem lj1 : (laidOutB Tryz.pinned.checked.prog) = true := by kernel_rfl
theorem lj2 : (mapsRowed Tryz.pinned.checked.prog) = true := by kernel_rfl
theorem lj3 : (Tryz.f3.params.all (Tryz.pinned.checked.prog.readableRec ·)) = true := by kernel_rfl
theorem lj4 : (namedTie Tryz.pinned.checked.prog Rows.tableSoundRow.named Rows.tableSoundSpec.vars) = true := by kernel_rfl
theorem lj5 : ((Rows.tableSoundRow.stops == [])) = true := by kernel_rfl
theorem lj6 : ((Tryz.pinned.checked.prog.stops == [])) = true := by kernel_rfl
theorem lj7 : ((Rows.tableSoundRow.knobs == [])) = true := by kernel_rfl
theorem lj8 : ((Tryz.pinned.checked.prog.stopKnobs == [])) = true := by kernel_rfl
theorem lj9 : ((Rows.tableSoundRow.inPlace == Tryz.pinned.checked.prog.inPlace 3)) = true := by kernel_rfl
theorem lj10 : ((Rows.tableSoundRow.unfollowed == Tryz.pinned.checked.prog.unfollowed 3)) = true := by kernel_rfl
theorem lj11 : ((Rows.tableSoundRow.recurses == Tryz.pinned.checked.prog.recurses 3)) = true := by kernel_rfl
theorem lj12 : ((Rows.tableSoundRow.named == Tryz.pinned.checked.prog.varsNamed 3)) = true := by kernel_rfl
theorem lj13 : ((Rows.tableSoundRow.maps == (Tryz.f3.params.toList ++ Rows.tableSoundSpec.plain.varTypes Tryz.pinned.checked.prog).any (Tryz.pinned.checked.prog.mapsRec ·))) = true := by kernel_rfl
theorem lj14 : ((Rows.tableSoundRow.ifaces == (Tryz.f3.params.toList ++ Rows.tableSoundSpec.plain.varTypes Tryz.pinned.checked.prog).any (Tryz.pinned.checked.prog.ifacesRec ·))) = true := by kernel_rfl
theorem lj15 : ((Rows.tableSoundRow.mapsOut == Tryz.pinned.checked.prog.mapsAmong Tryz.f3.resultTypes.toList)) = true := by kernel_rfl
theorem lj16 : ((Rows.tableSoundRow.loops == (Tryz.f3.params.toList ++ Rows.tableSoundSpec.plain.varTypes Tryz.pinned.checked.prog).any (Tryz.pinned.checked.prog.loopsFrom ·))) = true := by kernel_rfl
theorem lj17 : ((Rows.tableSoundRow.wideKeys == (Tryz.f3.params.toList ++ Rows.tableSoundSpec.plain.varTypes Tryz.pinned.checked.prog ++ Tryz.f3.resultTypes.toList).any (Tryz.pinned.checked.prog.wideKeysFrom ·))) = true := by kernel_rfl
theorem lj18 : (Rows.tableSoundSpec.vars.all (Tryz.pinned.checked.prog.varReadable ·)) = true := by kernel_rfl
theorem lj19 : (Tryz.f3.resultTypes.all (fun t => Tryz.pinned.checked.prog.readableRec t && decide (t < Tryz.pinned.checked.prog.types.size))) = true := by kernel_rfl
theorem lj20 : ((Rows.tableSoundRow.ifacesOut == Tryz.f3.resultTypes.toList.any (Tryz.pinned.checked.prog.ifacesRec ·))) = true := by kernel_rfl
theorem lj21 : ((Rows.tableSoundRow.loopsOut == Tryz.f3.resultTypes.toList.any (Tryz.pinned.checked.prog.loopsFrom ·))) = true := by kernel_rfl
theorem lj22 : ((Rows.tableSoundRow.plainKeys == Tryz.pinned.checked.prog.plainKeys)) = true := by kernel_rfl
theorem lj23 : (Rows.tableSoundRow.shortTexts.isNone) = true := by kernel_rfl
theorem lj24 : (Tryz.pinned.checked.prog.stopsHeard) = true := by kernel_rfl
theorem lj25 : (Tryz.pinned.checked.prog.mayEnter) = true := by kernel_rfl
theorem lj26 : ((Rows.tableSoundRow.lifted == Tryz.pinned.checked.prog.liftsFinal)) = true := by kernel_rfl
theorem lj27 : ((Tryz.pinned.checked.prog.make == some Rows.tableSoundRow.make)) = true := by kernel_rfl
theorem lj28 : ((Rows.tableSoundRow.kinds == (if Rows.tableSoundRow.domain.isEmpty then [] else Tryz.f3.params.toList.map fun t => match Tryz.pinned.checked.prog.underlying t with | some (.int k) => some k | _ => none))) = true := by kernel_rfl
theorem lj29 : ((Rows.tableSoundRow.pinned == Rows.tableSoundRow.pinnedBy)) = true := by kernel_rfl
theorem lj30 : ((Rows.tableSoundRow.veiled == (Tryz.f3.params.toList ++ Rows.tableSoundSpec.plain.varTypes Tryz.pinned.checked.prog ++ Tryz.f3.resultTypes.toList).any (Tryz.pinned.checked.prog.veiledRec ·))) = true := by kernel_rfl
theorem lj31 : (Rows.tableSoundRow.veiledFits Tryz.pinned.checked.prog Tryz.f3.params.toList (Tryz.f3.params.toList ++ Rows.tableSoundSpec.plain.varTypes Tryz.pinned.checked.prog ++ Tryz.f3.resultTypes.toList)) = true := by kernel_rfl
theorem and2 {a b : Bool} (h : a = true) (h' : b = true) : (a && b) = true := by subst h h'; rfl
set_option maxRecDepth 100000 in
theorem closed : joinedFacts Tryz.pinned.checked.prog 3 Tryz.f3 Rows.tableSoundSpec Rows.tableSoundRow = true := (and2 (and2 (and2 (and2 (and2 (and2 (and2 (and2 (and2 (and2 (and2 (and2 (and2 (and2 (and2 (and2 (and2 (and2 (and2 (and2 (and2 (and2 (and2 (and2 (and2 (and2 (and2 (and2 (and2 (and2 (and2 lj0 lj1) lj2) lj3) lj4) lj5) lj6) lj7) lj8) lj9) lj10) lj11) lj12) lj13) lj14) lj15) lj16) lj17) lj18) lj19) lj20) lj21) lj22) lj23) lj24) lj25) lj26) lj27) lj28) lj29) lj30) lj31)
theorem over : Rows.tableSoundRow.holds Tryz.pinned (OpenSpec.ofChange Rows.tableSoundSpec) :=
  OpenClaim.holds_of_wide 3 Tryz.f3 rfl rfl rfl rfl rfl rfl rfl ⟨rfl, rfl, rfl, rfl, rfl⟩ rfl rfl rfl rfl rfl (by kernel_rfl) Tryz.func3 closed
    (of_decide_eq_true (by kernel_rfl)) (by unfold Func.isWrapper; first | (rw [if_pos (by decide +kernel)]; kernel_rfl) | (rw [if_neg (by decide +kernel)]; exact ⟨rfl, rfl⟩))
    (fun os started H enc _ => lifted os started H enc)
/-- The statement. -/
theorem proved : Rows.TableSoundSaid := over
end Go.Proofs.YtcekmdpiloegcaaGreat.tableSound
