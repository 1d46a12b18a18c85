/- The row's step of 'TxPlays': from what the function computes to the given statement. Conditions: none. -/
import Derived.Test.YtndjohbbaplekaaGreatRows
import Derived.WalkKit
import Derived.ProofKit
import Derived.OpenShut
import Derived.ShutString
import Derived.ChangeOld
import Derived.Below
import Derived.Test.YtndjohbbaplekaaGreatXShU
import Derived.Test.YtndjohbbaplekaaGreatXTxPlays
set_option linter.unusedSimpArgs false
set_option linter.unusedVariables false
namespace Go.Proofs.YtndjohbbaplekaaGreat.txPlays
open Go.ChangeShapes Go.WideShapes Go.ChangeAt Go.RowKit
open Go.ChangeMaps (open_string shut_string)
set_option linter.unusedVariables false
theorem own : ownKnob Tryz.prog.godebug = none := by kernel_rfl
theorem laidOut : laidOutB Tryz.prog = true := by kernel_rfl
set_option maxRecDepth 100000 in
theorem lifted (os : Os) (started : os.Started) (H : Type) (enc : TypeId × Value → H) :
    ReturnsInHanded {} Tryz.checked os 7 .any (Rows.txPlaysSpec.pre6 enc Tryz.prog Tryz.f7 Rows.txPlaysRow.domain false) (Rows.txPlaysSpec.post enc Tryz.prog Tryz.f7 false true false false) := by
  refine returnsInHanded_of_change (C := Tryz.checked) own started (by kernel_rfl) Tryz.func7
    (ChangeSpec.witness6 (enc := enc) (C := Tryz.checked) false ⟨#[], #[.agg #[(.int .i64 0), (.int .i64 0), (.int .i64 0), (.int .i64 0), (.int .i64 0)], .bool false, .slice none 0 0, .slice none 0 0], []⟩ 8 (by kernel_rfl) (by kernel_rfl) (by kernel_rfl) (by kernel_rfl)) ?_
  intro W base args ds gs before hval0 hW hcnd _
  have hval : ∀ (j : Nat) t v, Tryz.f7.params[j]? = some t → args[j]? = some v → Value.okWide Tryz.prog W .any base t v := hval0
  have hW' := hW
  obtain ⟨p, q, hA0, hV, rfl, hfz, hnd⟩ := hW
  have hA : DataW.TrodAll enc Tryz.prog W 0 (fun _ => true) true Tryz.f7.params.toList args.toList ds p := hA0
  rw [Tryz.params7] at hA hval
  obtain ⟨v0, vs0, d0, ds0, p0, q0, hargs, rfl, rfl, h0, r0⟩ := trodAll_cons hA
  obtain ⟨v1, vs1, d1, ds1, p1, q1, rfl, rfl, rfl, h1, r1⟩ := trodAll_cons r0
  obtain ⟨v2, vs2, d2, ds2, p2, q2, rfl, rfl, rfl, h2, r2⟩ := trodAll_cons r1
  obtain ⟨v3, vs3, d3, ds3, p3, q3, rfl, rfl, rfl, h3, r3⟩ := trodAll_cons r2
  obtain ⟨rfl, rfl, rfl⟩ := trodAll_nil r3
  obtain rfl : args = #[v0, v1, v2, v3] := by cases args; simp_all
  obtain ⟨rfl, rfl⟩ := trodVars_none hV
  have k0 := h0
  have lt0 : ∀ x ∈ p0, x.block < W.heap.size := by obtain ⟨m, hm⟩ := k0; exact DataW.trod_lt m _ _ _ hm
  obtain ⟨a0, rfl, w0⟩ := Sh.agg_as (d := 9) Sh.enc5 Sh.good5 Sh.dec5 Tryz.underlying122 (by kernel_rfl) (by kernel_rfl) (hval 0 122 v0 rfl rfl) h0
  obtain ⟨a1, rfl, rfl, rfl⟩ := open_bool Tryz.underlying4 (hval 1 4 v1 rfl rfl) h1
  have k2 := h2
  have lt2 : ∀ x ∈ p2, x.block < W.heap.size := by obtain ⟨m, hm⟩ := k2; exact DataW.trod_lt m _ _ _ hm
  obtain ⟨a2, len2, cap2, rfl⟩ := okWide_slice Tryz.underlying109 (hval 2 109 v2 rfl rfl)
  obtain ⟨z2, zl2, w2, zm2, zw2⟩ := Sh.rows_as (d := 9) Sh.enc3 Sh.good3 Sh.dec3 (fun _ => rfl) (by decide) Tryz.underlying109 (by kernel_rfl) (by kernel_rfl) h2
  have k3 := h3
  have lt3 : ∀ x ∈ p3, x.block < W.heap.size := by obtain ⟨m, hm⟩ := k3; exact DataW.trod_lt m _ _ _ hm
  obtain ⟨a3, len3, cap3, rfl⟩ := okWide_slice Tryz.underlying123 (hval 3 123 v3 rfl rfl)
  obtain ⟨z3, zl3, w3, zm3, zw3⟩ := Sh.rows_as (d := 9) YtndjohbbaplekaaGreatX.encO YtndjohbbaplekaaGreatX.goodO YtndjohbbaplekaaGreatX.decO (fun _ => rfl) (by decide) Tryz.underlying123 (by kernel_rfl) (by kernel_rfl) h3
  clear hA0 hval0
  refine Calls.mono (Go.Proofs.YtndjohbbaplekaaGreatX.plays_law (w := W) w0 w2 (by omega) zw2 w3 (by omega) zw3 (Q := fun v w' => v = .bool true ∧ Below W.heap.size W w') (fun w' k => ⟨rfl, k.below rfl⟩)).2 fun e W' ⟨v, he, hv, bel⟩ => ?_
  subst he hv
  exact ⟨_, rfl, _, _, _, [], _, [], hW', trodAll_mk1 (shut_bool Tryz.underlying4 _), (trodAll_cons_mk (Below.trod laidOut (by kernel_rfl) (of_decide_eq_true (by kernel_rfl)) k0 bel lt0) (trodAll_cons_mk (shut_bool Tryz.underlying4 a1) (trodAll_cons_mk (Below.trod laidOut (by kernel_rfl) (of_decide_eq_true (by kernel_rfl)) k2 bel lt2) (trodAll_cons_mk (Below.trod laidOut (by kernel_rfl) (of_decide_eq_true (by kernel_rfl)) k3 bel lt3) trodAll_mk0)))), rfl, bel.frame _, fun h => by cases h⟩

theorem lj0 : (Rows.txPlaysRow.wf (OpenSpec.ofChange Rows.txPlaysSpec)) = true := by kernel_rfl
theorem lj1 : (laidOutB Tryz.pinned.checked.prog) = true := by kernel_rfl
theorem lj2 : (mapsRowed Tryz.pinned.checked.prog) = true := by kernel_rfl
theorem lj3 : (Tryz.f7.params.all (Tryz.pinned.checked.prog.readableRec ·)) = true := by kernel_rfl
theorem lj4 : (namedTie Tryz.pinned.checked.prog Rows.txPlaysRow.named Rows.txPlaysSpec.vars) = true := by kernel_rfl
theorem lj5 : ((Rows.txPlaysRow.stops == [])) = true := by kernel_rfl
theorem lj6 : ((Tryz.pinned.checked.prog.stops == [])) = true := by kernel_rfl
theorem lj7 : ((Rows.txPlaysRow.knobs == [])) = true := by kernel_rfl
theorem lj8 : ((Tryz.pinned.checked.prog.stopKnobs == [])) = true := by kernel_rfl
theorem lj9 : ((Rows.txPlaysRow.inPlace == Tryz.pinned.checked.prog.inPlace 7)) = true := by kernel_rfl
theorem lj10 : ((Rows.txPlaysRow.unfollowed == Tryz.pinned.checked.prog.unfollowed 7)) = true := by kernel_rfl
theorem lj11 : ((Rows.txPlaysRow.recurses == Tryz.pinned.checked.prog.recurses 7)) = true := by kernel_rfl
theorem lj12 : ((Rows.txPlaysRow.named == Tryz.pinned.checked.prog.varsNamed 7)) = true := by kernel_rfl
theorem lj13 : ((Rows.txPlaysRow.maps == (Tryz.f7.params.toList ++ Rows.txPlaysSpec.plain.varTypes Tryz.pinned.checked.prog).any (Tryz.pinned.checked.prog.mapsRec ·))) = true := by kernel_rfl
theorem lj14 : ((Rows.txPlaysRow.ifaces == (Tryz.f7.params.toList ++ Rows.txPlaysSpec.plain.varTypes Tryz.pinned.checked.prog).any (Tryz.pinned.checked.prog.ifacesRec ·))) = true := by kernel_rfl
theorem lj15 : ((Rows.txPlaysRow.mapsOut == Tryz.pinned.checked.prog.mapsAmong Tryz.f7.resultTypes.toList)) = true := by kernel_rfl
theorem lj16 : ((Rows.txPlaysRow.loops == (Tryz.f7.params.toList ++ Rows.txPlaysSpec.plain.varTypes Tryz.pinned.checked.prog).any (Tryz.pinned.checked.prog.loopsFrom ·))) = true := by kernel_rfl
theorem lj17 : ((Rows.txPlaysRow.wideKeys == (Tryz.f7.params.toList ++ Rows.txPlaysSpec.plain.varTypes Tryz.pinned.checked.prog ++ Tryz.f7.resultTypes.toList).any (Tryz.pinned.checked.prog.wideKeysFrom ·))) = true := by kernel_rfl
theorem lj18 : (Rows.txPlaysSpec.vars.all (Tryz.pinned.checked.prog.varReadable ·)) = true := by kernel_rfl
theorem lj19 : (Tryz.f7.resultTypes.all (fun t => Tryz.pinned.checked.prog.readableRec t && decide (t < Tryz.pinned.checked.prog.types.size))) = true := by kernel_rfl
theorem lj20 : ((Rows.txPlaysRow.ifacesOut == Tryz.f7.resultTypes.toList.any (Tryz.pinned.checked.prog.ifacesRec ·))) = true := by kernel_rfl
theorem lj21 : ((Rows.txPlaysRow.loopsOut == Tryz.f7.resultTypes.toList.any (Tryz.pinned.checked.prog.loopsFrom ·))) = true := by kernel_rfl
theorem lj22 : ((Rows.txPlaysRow.plainKeys == Tryz.pinned.checked.prog.plainKeys)) = true := by kernel_rfl
theorem lj23 : (Rows.txPlaysRow.shortTexts.isNone) = true := by kernel_rfl
theorem lj24 : (Tryz.pinned.checked.prog.stopsHeard) = true := by kernel_rfl
theorem lj25 : (Tryz.pinned.checked.prog.mayEnter) = true := by kernel_rfl
theorem lj26 : ((Rows.txPlaysRow.lifted == Tryz.pinned.checked.prog.liftsFinal)) = true := by kernel_rfl
theorem lj27 : ((Tryz.pinned.checked.prog.make == some Rows.txPlaysRow.make)) = true := by kernel_rfl
theorem lj28 : ((Rows.txPlaysRow.kinds == (if Rows.txPlaysRow.domain.isEmpty then [] else Tryz.f7.params.toList.map fun t => match Tryz.pinned.checked.prog.underlying t with | some (.int k) => some k | _ => none))) = true := by kernel_rfl
theorem lj29 : ((Rows.txPlaysRow.pinned == Rows.txPlaysRow.pinnedBy)) = true := by kernel_rfl
theorem lj30 : ((Rows.txPlaysRow.veiled == (Tryz.f7.params.toList ++ Rows.txPlaysSpec.plain.varTypes Tryz.pinned.checked.prog ++ Tryz.f7.resultTypes.toList).any (Tryz.pinned.checked.prog.veiledRec ·))) = true := by kernel_rfl
theorem lj31 : (Rows.txPlaysRow.veiledFits Tryz.pinned.checked.prog Tryz.f7.params.toList (Tryz.f7.params.toList ++ Rows.txPlaysSpec.plain.varTypes Tryz.pinned.checked.prog ++ Tryz.f7.resultTypes.toList)) = true := by kernel_rfl
theorem and2 {a b : Bool} (h : a = true) (h' : b = true) : (a && b) = true := by subst h h'; rfl
set_option maxRecDepth 100000 in
theorem closed : joinedFacts Tryz.pinned.checked.prog 7 Tryz.f7 Rows.txPlaysSpec Rows.txPlaysRow = true := (and2 (and2 (and2 (and2 (and2 (and2 (and2 (and2 (and2 (and2 (and2 (and2 (and2 (and2 (and2 (and2 (and2 (and2 (and2 (and2 (and2 (and2 (and2 (and2 (and2 (and2 (and2 (and2 (and2 (and2 (and2 lj0 lj1) lj2) lj3) lj4) lj5) lj6) lj7) lj8) lj9) lj10) lj11) lj12) lj13) lj14) lj15) lj16) lj17) lj18) lj19) lj20) lj21) lj22) lj23) lj24) lj25) lj26) lj27) lj28) lj29) lj30) lj31)
theorem over : Rows.txPlaysRow.holds Tryz.pinned (OpenSpec.ofChange Rows.txPlaysSpec) :=
  OpenClaim.holds_of_wide 7 Tryz.f7 rfl rfl rfl rfl rfl rfl rfl ⟨rfl, rfl, rfl, rfl, rfl⟩ rfl rfl rfl rfl rfl (by kernel_rfl) Tryz.func7 closed
    (of_decide_eq_true (by kernel_rfl)) (by unfold Func.isWrapper; first | (rw [if_pos (by decide +kernel)]; kernel_rfl) | (rw [if_neg (by decide +kernel)]; exact ⟨rfl, rfl⟩))
    (fun os started H enc _ => lifted os started H enc)
/-- The statement. -/
theorem proved : Rows.TxPlaysSaid := over
end Go.Proofs.YtndjohbbaplekaaGreat.txPlays
