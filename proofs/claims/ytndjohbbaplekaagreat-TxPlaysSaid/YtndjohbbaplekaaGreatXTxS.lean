/- A map's keys, sorted; blocks, rising. Conditions: as each says. -/
import Derived.Test.YtndjohbbaplekaaGreatXTxBase
import Derived.Test.YtndjohbbaplekaaGreatXLayS
import Derived.Test.YtndjohbbaplekaaGreatXSortI
import Derived.Shelf.SlIterI.Collect
set_option linter.unusedSimpArgs false
set_option linter.unusedVariables false
namespace Go.Proofs.YtndjohbbaplekaaGreatX
open Go.Sh Go.Proofs.YtndjohbbaplekaaGreatX.Mi
set_option maxRecDepth 100000
section
variable {w w' : World} {Q : Value → World → Prop} {B t m a b : Nat} {s : TS}
theorem intKeys_of {es : List MapEntry} {zs : List Int} (hkeys : es.map (·.key) = zs.map (fun z => Value.int .i64 z)) (hwf : ∀ z ∈ zs, (Lit.int .i64 z).wf = true) :
    (intKeys (.map ((es.map (Go.WideElems.rg (H := Unit) Tryz.prog 3 (fun _ => some (.nil, [])))).foldr DataW.insert []))).Perm zs := by
  have hrd : ∀ x ∈ es, ∀ z, x.key = .int .i64 z → z ∈ zs → Go.WideElems.rd (H := Unit) Tryz.prog 3 (fun _ => some (.nil, [])) x = some (.int .i64 z, .nil) := fun x hx z e hz => by
    simp only [Go.WideElems.rd, e, Go.Maps.keyOf_int_mk Tryz.underlying3 (hwf z hz)]
    rfl
  have hp := (Go.WideShapes.sorted_perm (es.map (Go.WideElems.rg (H := Unit) Tryz.prog 3 (fun _ => some (.nil, []))))).map (fun p => Go.intOf p.1)
  refine hp.trans (List.Perm.of_eq ?_)
  have inj : ∀ {l l' : List Int}, l.map (fun z => Value.int .i64 z) = l'.map (fun z => Value.int .i64 z) → l = l' := fun {l l'} h => (List.map_inj_right (fun x y e => by injection e)).1 h
  apply inj
  rw [List.map_map, List.map_map, ← hkeys]
  refine List.map_congr_left fun x hx => ?_
  have : x.key ∈ es.map (·.key) := List.mem_map_of_mem hx
  rw [hkeys] at this
  obtain ⟨z, hz, e⟩ := List.mem_map.1 this
  simp only [Function.comp, Go.WideElems.rg, hrd x hx z e.symm hz, Option.getD_some, Go.intOf]
  exact e
/-- The keys of a map of texts, in whatever order. -/
theorem collect_c {Bm mb : Nat} {l : List (Int × ByteArray)} (hBm : Sh.cel w Bm 0 = some (.map (some mb))) (hm : TM w mb l) (hn : l.length ≤ 1000000) (hwf : ∀ p ∈ l, (Lit.int .i64 p.1).wf = true)
    (hq : ∀ w' v ks, List.Perm ks (l.map (·.1)) → Sh.Own w' (siz w) 3 1 v ks.length (ks.map (Value.int .i64)) → K0 w w' → Q v w') :
    callS Tryz.prog 253 #[.func (.func 255) #[] #[.pointer (some ⟨Bm, 0, none⟩)]] Q w := by
  refine ⟨fun a w => Tryz.call253 a w, ?_⟩
  obtain ⟨es, cl, hb, hst⟩ := hm.st
  have hmp := hm.mp
  rw [Sh.mp, hb] at hmp
  have hkv : es.toList.map (fun e => (e.key, e.val)) = l.map kvP := Option.some.inj hmp
  have hkeys : es.toList.map (·.key) = (l.map (·.1)).map (fun z => Value.int .i64 z) := by
    have := congrArg (List.map (·.1)) hkv
    rw [List.map_map, List.map_map] at this
    rw [List.map_map]; exact this
  have hlen : es.size = l.length := by have := congrArg List.length hkeys; simpa using this
  have hwf' : ∀ z ∈ l.map (·.1), (Lit.int .i64 z).wf = true := fun z hz => by obtain ⟨p, hp, rfl⟩ := List.mem_map.1 hz; exact hwf p hp
  let D0 : DataW Unit := .map ((es.toList.map (Go.WideElems.rg Tryz.prog 3 (fun _ => some (.nil, [])))).foldr DataW.insert [])
  have hown : World.ownsMap (H := Unit) w Tryz.prog 3 (fun _ => some (.nil, [])) mb l.length D0 := ⟨es, cl, hb, ⟨by unfold maxLen; omega, hst, fun x hx => by
    have : x.key ∈ es.toList.map (·.key) := List.mem_map_of_mem hx
    rw [hkeys] at this
    obtain ⟨z, hz, e⟩ := List.mem_map.1 this
    exact ⟨(.int .i64 z, .nil), by
      simp only [Go.WideElems.rd, ← e, Go.Maps.keyOf_int_mk Tryz.underlying3 (hwf' z hz)]
      rfl⟩⟩, by omega, rfl⟩
  have hD : (intKeys D0).Perm (l.map (·.1)) := intKeys_of hkeys hwf'
  have hDs : Maps.size D0 = l.length := by
    have := (Go.WideShapes.sorted_perm (es.toList.map (Go.WideElems.rg (H := Unit) Tryz.prog 3 (fun _ => some (.nil, []))))).length_eq
    simp only [List.length_map, Array.length_toList] at this
    show ((es.toList.map (Go.WideElems.rg (H := Unit) Tryz.prog 3 (fun _ => some (.nil, [])))).foldr DataW.insert []).length = _
    omega
  have hseq := AnyZI.keys_gives (ρ := keysZ_ren) keysZ Fence.wide 2 trivial rfl (by omega) Bm mb l.length D0 w (cel_lt hBm) (by rw [cell_cel]; exact hBm) hown
  have cS := AnyZI.collect_in (ρ := collZ_ren) collZ Fence.wide 4 trivial trivial rfl (by omega) 255 #[.pointer (some ⟨Bm, 0, none⟩)] trivial (fun a w => Tryz.call255 a w) _ _ (by rw [hDs]; unfold maxLen; omega) (by rw [hDs]; omega) w hseq
  refine Calls.mono (callsIn_wide.1 cS) fun e w' ⟨v, ss, he, hS, hrow, _, hbel⟩ => ⟨v, he, ?_⟩
  exact hq w' v ss (hS.trans hD) hrow ⟨hbel.os, hbel.tape, hbel.output, hbel.size, fun b hb _ => hbel.block b hb⟩
def srt (ks : List Int) : List Int := ks.mergeSort fun x y => decide (x ≤ y)
theorem srt_perm (ks : List Int) : (srt ks).Perm ks := List.mergeSort_perm _ _
theorem srt_sorted (ks : List Int) : (srt ks).Pairwise (· ≤ ·) := by
  have tr : ∀ a b c : Int, decide (a ≤ b) = true → decide (b ≤ c) = true → decide (a ≤ c) = true := fun a b c h1 h2 => by simp only [decide_eq_true_eq] at *; exact Int.le_trans h1 h2
  have tot : ∀ a b : Int, (decide (a ≤ b) || decide (b ≤ a)) = true := fun a b => by simp only [Bool.or_eq_true, decide_eq_true_eq]; exact Int.le_total a b
  exact (List.pairwise_mergeSort tr tot ks).imp fun h => by simpa using h
/-- The keys of a map of texts, rising. -/
theorem sorted_c {Bm mb : Nat} {l : List (Int × ByteArray)} (hBm : Sh.cel w Bm 0 = some (.map (some mb))) (hm : TM w mb l) (hn : l.length ≤ 1000000) (hwf : ∀ p ∈ l, (Lit.int .i64 p.1).wf = true)
    (hq : ∀ w' v ks, List.Perm ks (l.map (·.1)) → ks.Pairwise (· ≤ ·) → Sh.Own w' (siz w) 3 1 v ks.length (ks.map (Value.int .i64)) → K0 w w' → Q v w') :
    callS Tryz.prog 234 #[.func (.func 255) #[] #[.pointer (some ⟨Bm, 0, none⟩)]] Q w := by
  refine ref234 ?_
  unfold S234
  refine collect_c hBm hm hn hwf fun w1 v ks hp o1 k1 => ?_
  have hl : ks.length = l.length := by have := hp.length_eq; simpa using this
  refine sortInts_c (ρ := sortZ_ren) sortZ (fun a w => Tryz.call254 a w) o1 (by omega) fun w2 o2 k2 => ?_
  have hsl : (srt ks).length = ks.length := (srt_perm ks).length_eq
  refine hq w2 v (srt ks) ((srt_perm ks).trans hp) (srt_sorted ks) (by rw [hsl]; exact o2) (k1.trans' k2 fun q hq e => by have := (Sh.Own.lt o1 e).1; omega)
end
end Go.Proofs.YtndjohbbaplekaaGreatX
