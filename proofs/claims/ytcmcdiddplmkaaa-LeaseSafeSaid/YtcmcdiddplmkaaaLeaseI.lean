/- The keys of a map of one key at most, collected and sorted, at this program's numbers. Conditions: the map holds one key at most. -/
import Derived.Test.YtcmcdiddplmkaaaT
import Derived.Test.YtcmcdiddplmkaaaShL
import Derived.Test.YtcmcdiddplmkaaaShR
import Derived.Test.YtcmcdiddplmkaaaIter
set_option linter.unusedSimpArgs false
set_option linter.unusedVariables false
namespace Go.Proofs.Ytcmcdiddplmkaaa
open Go.Sh Go.Sort Go.Maps Go.RowKit
set_option maxRecDepth 100000
section
variable {w : World} {Q : Value → World → Prop}

/-- Block b is a map of one key at most. -/
def Solo (w : World) (b : Nat) (l : List (Value × Value)) : Prop := ∃ es cl, blk w b = some (.map es cl) ∧ l = es.toList.map (fun e => (e.key, e.val)) ∧ MapKept.Stamped es cl ∧ es.size ≤ 1
theorem Solo.mp {b : Nat} {l : List (Value × Value)} (h : Solo w b l) : mp w b = some l := by
  obtain ⟨es, cl, hb, rfl, _⟩ := h
  simp [Sh.mp, hb, kvO]
theorem Solo.len {b : Nat} {l : List (Value × Value)} (h : Solo w b l) : l.length ≤ 1 := by
  obtain ⟨es, cl, _, rfl, _, hs⟩ := h
  simpa using hs

theorem collect_c {Bm mb : Nat} {l : List (Value × Value)} {zs : List Int} (hBm : cel w Bm 0 = some (.map (some mb))) (hm : Solo w mb l) (hz : l.map (·.1) = zs.map (fun z => Value.int .i64 z)) (hwf : ∀ z ∈ zs, (Lit.int .i64 z).wf = true)
    (hq : ∀ w' v, Own w' (siz w) 3 1 v zs.length (zs.map fun z => .int .i64 z) → Keep (fun _ => False) w w' → Q v w') : callS Try.prog 37 #[.func (.func 39) #[] #[.pointer (some ⟨Bm, 0, none⟩)]] Q w := by
  refine ⟨fun a w => Try.call37 a w, ?_⟩
  obtain ⟨es, cl, hb, hl, hst, hsz⟩ := hm
  have hkeys : es.toList.map (·.key) = zs.map (fun z => Value.int .i64 z) := by rw [← hz, hl, List.map_map]; rfl
  have hread : ∀ x ∈ es.toList, ∃ z ∈ zs, x.key = .int .i64 z := fun x hx => by
    have : x.key ∈ es.toList.map (·.key) := List.mem_map_of_mem hx
    rw [hkeys] at this
    obtain ⟨z, hz, e⟩ := List.mem_map.1 this
    exact ⟨z, hz, e.symm⟩
  have hrd : ∀ x ∈ es.toList, ∀ z, x.key = .int .i64 z → z ∈ zs → Go.WideElems.rd (H := Unit) Try.prog 3 (fun _ => some (.nil, [])) x = some (.int .i64 z, .nil) := fun x hx z e hz => by
    simp only [Go.WideElems.rd, e, Go.Maps.keyOf_int_mk Try.underlying3 (hwf z hz)]
    rfl
  let D0 : DataW Unit := .map ((es.toList.map (Go.WideElems.rg Try.prog 3 (fun _ => some (.nil, [])))).foldr DataW.insert [])
  have hown : World.ownsMap (H := Unit) w Try.prog 3 (fun _ => some (.nil, [])) mb 1 D0 := ⟨es, cl, hb, ⟨by unfold maxLen; omega, hst, fun x hx => by obtain ⟨z, hz, e⟩ := hread x hx; exact ⟨_, hrd x hx z e hz⟩⟩, hsz, rfl⟩
  have hD : intKeys D0 = zs ∧ Maps.size D0 = zs.length := by
    have hlen : es.toList.length = zs.length := by have := congrArg List.length hkeys; simpa using this
    rcases hes : es.toList with _ | ⟨x, r⟩
    · rw [hes] at hlen
      have : zs = [] := List.length_eq_zero_iff.1 hlen.symm
      subst this
      simp only [D0, hes]
      exact ⟨rfl, rfl⟩
    · have hr : r = [] := by
        have h5 : es.toList.length ≤ 1 := by rw [Array.length_toList]; exact hsz
        rw [hes, List.length_cons] at h5
        exact List.length_eq_zero_iff.1 (by omega)
      subst hr
      obtain ⟨z, hz', e⟩ := hread x (by rw [hes]; simp)
      have h1 := hrd x (by rw [hes]; simp) z e hz'
      have hzs : zs = [z] := by
        rw [hes] at hkeys
        rcases zs with _ | ⟨y, zs⟩
        · simp at hkeys
        · simp only [List.map_cons, List.map_nil, List.cons.injEq] at hkeys
          have h2 : zs = [] := by simpa using hkeys.2.symm
          rw [h2]
          rw [hkeys.1] at e
          injection e with _ e
          rw [e]
      subst hzs
      simp only [D0, hes, List.map_cons, List.map_nil, List.foldr_cons, List.foldr_nil, Go.WideElems.rg, h1, Option.getD_some]
      exact ⟨rfl, rfl⟩
  have hseq := AnyZI.keys_gives (ρ := keysA_ren) keysA Fence.wide 2 trivial rfl (by omega) Bm mb 1 D0 w (cel_lt hBm) (by rw [cell_cel]; exact hBm) hown
  have hzl : zs.length ≤ 1 := by have := congrArg List.length hkeys; rw [List.length_map, List.length_map, Array.length_toList] at this; omega
  have cS := AnyZI.collect_in (ρ := collectA_ren) collectA Fence.wide 4 trivial trivial rfl (by omega) 39 #[.pointer (some ⟨Bm, 0, none⟩)] trivial (fun a w => Try.call39 a w) _ _ (by rw [hD.2]; unfold maxLen; omega) (by rw [hD.2]; omega) w hseq
  refine Calls.mono (callsIn_wide.1 cS) fun e w' ⟨v, ss, he, hS, hrow, _, hbel⟩ => ⟨v, he, ?_⟩
  rw [hD.1] at hS
  have hss : ss = zs := by
    rcases zs with _ | ⟨z, zs⟩
    · exact List.Perm.eq_nil hS
    · have : zs = [] := List.length_eq_zero_iff.1 (by rw [List.length_cons] at hzl; omega)
      subst this
      exact List.Perm.eq_singleton hS
  subst hss
  exact hq w' v hrow ⟨hbel.os, hbel.tape, hbel.output, hbel.size, fun b hb _ => hbel.block b hb⟩
end
end Go.Proofs.Ytcmcdiddplmkaaa
