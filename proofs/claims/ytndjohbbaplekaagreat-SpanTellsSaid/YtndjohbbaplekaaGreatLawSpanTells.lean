/- The row's step of 'SpanTells': from what the function computes to the given statement. Conditions: none. -/
import Derived.Test.YtndjohbbaplekaaGreatRows
import Derived.WalkKit
import Derived.ProofKit
import Derived.OpenShut
import Derived.ShutString
import Derived.ChangeOld
import Derived.Below
import Derived.Test.YtndjohbbaplekaaGreatPShU
import Derived.Test.YtndjohbbaplekaaGreatPSpanTells
set_option linter.unusedSimpArgs false
set_option linter.unusedVariables false
namespace Go.Proofs.YtndjohbbaplekaaGreat.spanTells
open Go.ChangeShapes Go.WideShapes Go.ChangeAt Go.RowKit
open Go.ChangeMaps (open_string shut_string)
set_option linter.unusedVariables false
theorem own : ownKnob Tryz.prog.godebug = none := by kernel_rfl
theorem laidOut : laidOutB Tryz.prog = true := by kernel_rfl
set_option maxRecDepth 100000 in
theorem lifted (os : Os) (started : os.Started) (H : Type) (enc : TypeId × Value → H) :
    ReturnsInHanded {} Tryz.checked os 4 .any (Rows.spanTellsSpec.pre6 enc Tryz.prog Tryz.f4 Rows.spanTellsRow.domain false) (Rows.spanTellsSpec.post enc Tryz.prog Tryz.f4 false true false false) := by
  refine returnsInHanded_of_change (C := Tryz.checked) own started (by kernel_rfl) Tryz.func4
    (ChangeSpec.witness6 (enc := enc) (C := Tryz.checked) false ⟨#[], #[.slice none 0 0, .slice none 0 0, .int .i64 0, .int .i64 0], []⟩ 8 (by kernel_rfl) (by kernel_rfl) (by kernel_rfl) (by kernel_rfl)) ?_
  intro W base args ds gs before hval0 hW hcnd _
  have hval : ∀ (j : Nat) t v, Tryz.f4.params[j]? = some t → args[j]? = some v → Value.okWide Tryz.prog W .any base t v := hval0
  have hW' := hW
  obtain ⟨p, q, hA0, hV, rfl, hfz, hnd⟩ := hW
  have hA : DataW.TrodAll enc Tryz.prog W 0 (fun _ => true) true Tryz.f4.params.toList args.toList ds p := hA0
  rw [Tryz.params4] at hA hval
  obtain ⟨v0, vs0, d0, ds0, p0, q0, hargs, rfl, rfl, h0, r0⟩ := trodAll_cons hA
  obtain ⟨v1, vs1, d1, ds1, p1, q1, rfl, rfl, rfl, h1, r1⟩ := trodAll_cons r0
  obtain ⟨v2, vs2, d2, ds2, p2, q2, rfl, rfl, rfl, h2, r2⟩ := trodAll_cons r1
  obtain ⟨v3, vs3, d3, ds3, p3, q3, rfl, rfl, rfl, h3, r3⟩ := trodAll_cons r2
  obtain ⟨rfl, rfl, rfl⟩ := trodAll_nil r3
  obtain rfl : args = #[v0, v1, v2, v3] := by cases args; simp_all
  obtain ⟨rfl, rfl⟩ := trodVars_none hV
  have k0 := h0
  have lt0 : ∀ x ∈ p0, x.block < W.heap.size := by obtain ⟨m, hm⟩ := k0; exact DataW.trod_lt m _ _ _ hm
  obtain ⟨a0, len0, cap0, rfl⟩ := okWide_slice Tryz.underlying70 (hval 0 70 v0 rfl rfl)
  obtain ⟨z0, zl0, w0, zm0, zw0⟩ := Sh.rows_as (d := 9) Sh.encS Sh.rngS Sh.dec_span (fun _ => rfl) (by decide) Tryz.underlying70 (by kernel_rfl) (by kernel_rfl) h0
  have k1 := h1
  have lt1 : ∀ x ∈ p1, x.block < W.heap.size := by obtain ⟨m, hm⟩ := k1; exact DataW.trod_lt m _ _ _ hm
  obtain ⟨a1, len1, cap1, rfl⟩ := okWide_slice Tryz.underlying70 (hval 1 70 v1 rfl rfl)
  obtain ⟨z1, zl1, w1, zm1, zw1⟩ := Sh.rows_as (d := 9) Sh.encS Sh.rngS Sh.dec_span (fun _ => rfl) (by decide) Tryz.underlying70 (by kernel_rfl) (by kernel_rfl) h1
  obtain ⟨a2, rfl, rfl, rfl, w2⟩ := open_int Tryz.underlying3 (hval 2 3 v2 rfl rfl) h2
  obtain ⟨a3, rfl, rfl, rfl, w3⟩ := open_int Tryz.underlying3 (hval 3 3 v3 rfl rfl) h3
  clear hA0 hval0
  refine Calls.mono (Go.Proofs.YtndjohbbaplekaaGreatP.tells_law (w := W) w0 (by omega) zw0 w1 (by omega) zw1 w2 w3 (Q := fun v w' => v = .bool true ∧ Below W.heap.size W w') (fun w' k => ⟨rfl, k.below rfl⟩)).2 fun e W' ⟨v, he, hv, bel⟩ => ?_
  subst he hv
  exact ⟨_, rfl, _, _, _, [], _, [], hW', trodAll_mk1 (shut_bool Tryz.underlying4 _), (trodAll_cons_mk (Below.trod laidOut (by kernel_rfl) (of_decide_eq_true (by kernel_rfl)) k0 bel lt0) (trodAll_cons_mk (Below.trod laidOut (by kernel_rfl) (of_decide_eq_true (by kernel_rfl)) k1 bel lt1) (trodAll_cons_mk (shut_int Tryz.underlying3 w2) (trodAll_cons_mk (shut_int Tryz.underlying3 w3) trodAll_mk0)))), rfl, bel.frame _, fun h => by cases h⟩

theorem lj0 : (Rows.spanTellsRow.wf (OpenSpec.ofChange Rows.spanTellsSpec)) = true := by kernel_rfl
theorem lj1 : (laidOutB Tryz.pinned.checked.prog) = true := by kernel_rfl
theorem lj2 : (mapsRowed Tryz.pinned.checked.prog) = true := by kernel_rfl
theorem lj3 : (Tryz.f4.params.all (Tryz.pinned.checked.prog.readableRec ·)) = true := by kernel_rfl
theorem lj4 : (namedTie Tryz.pinned.checked.prog Rows.spanTellsRow.named Rows.spanTellsSpec.vars) = true := by kernel_rfl
theorem lj5 : ((Rows.spanTellsRow.stops == [])) = true := by kernel_rfl
theorem lj6 : ((Tryz.pinned.checked.prog.stops == [])) = true := by kernel_rfl
theorem lj7 : ((Rows.spanTellsRow.knobs == [])) = true := by kernel_rfl
theorem lj8 : ((Tryz.pinned.checked.prog.stopKnobs == [])) = true := by kernel_rfl
theorem lj9 : ((Rows.spanTellsRow.inPlace == Tryz.pinned.checked.prog.inPlace 4)) = true := by kernel_rfl
theorem lj10 : ((Rows.spanTellsRow.unfollowed == Tryz.pinned.checked.prog.unfollowed 4)) = true := by kernel_rfl
theorem lj11 : ((Rows.spanTellsRow.recurses == Tryz.pinned.checked.prog.recurses 4)) = true := by kernel_rfl
theorem lj12 : ((Rows.spanTellsRow.named == Tryz.pinned.checked.prog.varsNamed 4)) = true := by kernel_rfl
theorem lj13 : ((Rows.spanTellsRow.maps == (Tryz.f4.params.toList ++ Rows.spanTellsSpec.plain.varTypes Tryz.pinned.checked.prog).any (Tryz.pinned.checked.prog.mapsRec ·))) = true := by kernel_rfl
theorem lj14 : ((Rows.spanTellsRow.ifaces == (Tryz.f4.params.toList ++ Rows.spanTellsSpec.plain.varTypes Tryz.pinned.checked.prog).any (Tryz.pinned.checked.prog.ifacesRec ·))) = true := by kernel_rfl
theorem lj15 : ((Rows.spanTellsRow.mapsOut == Tryz.pinned.checked.prog.mapsAmong Tryz.f4.resultTypes.toList)) = true := by kernel_rfl
theorem lj16 : ((Rows.spanTellsRow.loops == (Tryz.f4.params.toList ++ Rows.spanTellsSpec.plain.varTypes Tryz.pinned.checked.prog).any (Tryz.pinned.checked.prog.loopsFrom ·))) = true := by kernel_rfl
theorem lj17 : ((Rows.spanTellsRow.wideKeys == (Tryz.f4.params.toList ++ Rows.spanTellsSpec.plain.varTypes Tryz.pinned.checked.prog ++ Tryz.f4.resultTypes.toList).any (Tryz.pinned.checked.prog.wideKeysFrom ·))) = true := by kernel_rfl
theorem lj18 : (Rows.spanTellsSpec.vars.all (Tryz.pinned.checked.prog.varReadable ·)) = true := by kernel_rfl
theorem lj19 : (Tryz.f4.resultTypes.all (fun t => Tryz.pinned.checked.prog.readableRec t && decide (t < Tryz.pinned.checked.prog.types.size))) = true := by kernel_rfl
theorem lj20 : ((Rows.spanTellsRow.ifacesOut == Tryz.f4.resultTypes.toList.any (Tryz.pinned.checked.prog.ifacesRec ·))) = true := by kernel_rfl
theorem lj21 : ((Rows.spanTellsRow.loopsOut == Tryz.f4.resultTypes.toList.any (Tryz.pinned.checked.prog.loopsFrom ·))) = true := by kernel_rfl
theorem lj22 : ((Rows.spanTellsRow.plainKeys == Tryz.pinned.checked.prog.plainKeys)) = true := by kernel_rfl
theorem lj23 : (Rows.spanTellsRow.shortTexts.isNone) = true := by kernel_rfl
theorem lj24 : (Tryz.pinned.checked.prog.stopsHeard) = true := by kernel_rfl
theorem lj25 : (Tryz.pinned.checked.prog.mayEnter) = true := by kernel_rfl
theorem lj26 : ((Rows.spanTellsRow.lifted == Tryz.pinned.checked.prog.liftsFinal)) = true := by kernel_rfl
theorem lj27 : ((Tryz.pinned.checked.prog.make == some Rows.spanTellsRow.make)) = true := by kernel_rfl
theorem lj28 : ((Rows.spanTellsRow.kinds == (if Rows.spanTellsRow.domain.isEmpty then [] else Tryz.f4.params.toList.map fun t => match Tryz.pinned.checked.prog.underlying t with | some (.int k) => some k | _ => none))) = true := by kernel_rfl
theorem lj29 : ((Rows.spanTellsRow.pinned == Rows.spanTellsRow.pinnedBy)) = true := by kernel_rfl
theorem lj30 : ((Rows.spanTellsRow.veiled == (Tryz.f4.params.toList ++ Rows.spanTellsSpec.plain.varTypes Tryz.pinned.checked.prog ++ Tryz.f4.resultTypes.toList).any (Tryz.pinned.checked.prog.veiledRec ·))) = true := by kernel_rfl
theorem lj31 : (Rows.spanTellsRow.veiledFits Tryz.pinned.checked.prog Tryz.f4.params.toList (Tryz.f4.params.toList ++ Rows.spanTellsSpec.plain.varTypes Tryz.pinned.checked.prog ++ Tryz.f4.resultTypes.toList)) = true := by kernel_rfl
theorem and2 {a b : Bool} (h : a = true) (h' : b = true) : (a && b) = true := by subst h h'; rfl
set_option maxRecDepth 100000 in
theorem closed : joinedFacts Tryz.pinned.checked.prog 4 Tryz.f4 Rows.spanTellsSpec Rows.spanTellsRow = true := (and2 (and2 (and2 (and2 (and2 (and2 (and2 (and2 (and2 (and2 (and2 (and2 (and2 (and2 (and2 (and2 (and2 (and2 (and2 (and2 (and2 (and2 (and2 (and2 (and2 (and2 (and2 (and2 (and2 (and2 (and2 lj0 lj1) lj2) lj3) lj4) lj5) lj6) lj7) lj8) lj9) lj10) lj11) lj12) lj13) lj14) lj15) lj16) lj17) lj18) lj19) lj20) lj21) lj22) lj23) lj24) lj25) lj26) lj27) lj28) lj29) lj30) lj31)
theorem over : Rows.spanTellsRow.holds Tryz.pinned (OpenSpec.ofChange Rows.spanTellsSpec) :=
  OpenClaim.holds_of_wide 4 Tryz.f4 rfl rfl rfl rfl rfl rfl rfl ⟨rfl, rfl, rfl, rfl, rfl⟩ rfl rfl rfl rfl rfl (by kernel_rfl) Tryz.func4 closed
    (of_decide_eq_true (by kernel_rfl)) (by unfold Func.isWrapper; first | (rw [if_pos (by decide +kernel)]; kernel_rfl) | (rw [if_neg (by decide +kernel)]; exact ⟨rfl, rfl⟩))
    (fun os started H enc _ => lifted os started H enc)
/-- The statement. -/
theorem proved : Rows.SpanTellsSaid := over
end Go.Proofs.YtndjohbbaplekaaGreat.spanTells
