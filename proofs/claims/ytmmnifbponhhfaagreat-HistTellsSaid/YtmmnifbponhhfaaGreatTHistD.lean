/- Histories in memory: an array's keys, rising; a history played. Conditions: as each says. -/
import Derived.Shelf.Pu.Clone
import Derived.Test.YtmmnifbponhhfaaGreatTHistC
import Derived.Test.YtmmnifbponhhfaaGreatTLayS
import Derived.Test.YtmmnifbponhhfaaGreatTLayT
import Derived.Test.YtmmnifbponhhfaaGreatTSortI
import Derived.Shelf.SlIterI.Collect
set_option linter.unusedSimpArgs false
set_option linter.unusedVariables false
namespace Go.Proofs.YtmmnifbponhhfaaGreatT
open Go.Sh Go.Sh.Hi
set_option maxRecDepth 100000
section
variable {w w' : World} {Q : Value → World → Prop} {e : Ev} {A : Ar} {m B : Nat} {v : Value} {l : List Ev}
theorem cloneT_c {s : ByteArray} (hs : s.size ≤ 1000000) (hq : ∀ w', K0 w w' → Q (.string s) w') : callS Tryz.prog 32 #[.string s] Q w := by
  refine ref32 ?_
  unfold S32
  refine ⟨fun a w => Tryz.call105 a w, (AnyPu.stringslite_Clone YtmmnifbponhhfaaGreatT.cloneT s w (by omega)).mono fun e w' hb => ⟨_, hb.1, ?_⟩⟩
  exact hq w' ⟨hb.2.os, hb.2.tape, hb.2.output, hb.2.size, fun b hb' _ => hb.2.block b hb'⟩
theorem intKeys_of {es : List MapEntry} {zs : List Int} (hkeys : es.map (·.key) = zs.map (fun z => Value.int .i64 z)) (hwf : ∀ z ∈ zs, (Lit.int .i64 z).wf = true) :
    (intKeys (.map ((es.map (Go.WideElems.rg (H := Unit) Tryz.prog 3 (fun _ => some (.nil, [])))).foldr DataW.insert []))).Perm zs := by
  have hrd : ∀ x ∈ es, ∀ z, x.key = .int .i64 z → z ∈ zs → Go.WideElems.rd (H := Unit) Tryz.prog 3 (fun _ => some (.nil, [])) x = some (.int .i64 z, .nil) := fun x hx z e hz => by
    simp only [Go.WideElems.rd, e, Go.Maps.keyOf_int_mk Tryz.underlying3 (hwf z hz)]
    rfl
  have hp := (Go.WideShapes.sorted_perm (es.map (Go.WideElems.rg (H := Unit) Tryz.prog 3 (fun _ => some (.nil, []))))).map (fun p => Go.intOf p.1)
  refine hp.trans (List.Perm.of_eq ?_)
  have inj : ∀ {l l' : List Int}, l.map (fun z => Value.int .i64 z) = l'.map (fun z => Value.int .i64 z) → l = l' := fun {l l'} h => (List.map_inj_right (fun x y e => by injection e)).1 h
  apply inj
  rw [List.map_map, List.map_map, ← hkeys]
  refine List.map_congr_left fun x hx => ?_
  have : x.key ∈ es.map (·.key) := List.mem_map_of_mem hx
  rw [hkeys] at this
  obtain ⟨z, hz, e⟩ := List.mem_map.1 this
  simp only [Function.comp, Go.WideElems.rg, hrd x hx z e.symm hz, Option.getD_some, Go.intOf]
  exact e
/-- The keys of a map of texts, in whatever order. -/
theorem collect_c {Bm mb : Nat} {l : Ar} (hBm : Sh.cel w Bm 0 = some (.map (some mb))) (hm : AM w mb l) (hn : l.length ≤ 1000000) (hwf : ∀ p ∈ l, (Lit.int .i64 p.1).wf = true)
    (hq : ∀ w' v ks, List.Perm ks (l.map (·.1)) → Sh.Own w' (siz w) 3 1 v ks.length (ks.map (Value.int .i64)) → K0 w w' → Q v w') :
    callS Tryz.prog 102 #[.func (.func 104) #[] #[.pointer (some ⟨Bm, 0, none⟩)]] Q w := by
  refine ⟨fun a w => Tryz.call102 a w, ?_⟩
  obtain ⟨es, cl, hb, hst⟩ := hm.st
  have hmp := hm.mp
  rw [Sh.mp, hb] at hmp
  have hkv : es.toList.map (fun e => (e.key, e.val)) = l.map kvP := Option.some.inj hmp
  have hkeys : es.toList.map (·.key) = (l.map (·.1)).map (fun z => Value.int .i64 z) := by
    have := congrArg (List.map (·.1)) hkv
    rw [List.map_map, List.map_map] at this
    rw [List.map_map]; exact this
  have hlen : es.size = l.length := by have := congrArg List.length hkeys; simpa using this
  have hwf' : ∀ z ∈ l.map (·.1), (Lit.int .i64 z).wf = true := fun z hz => by obtain ⟨p, hp, rfl⟩ := List.mem_map.1 hz; exact hwf p hp
  let D0 : DataW Unit := .map ((es.toList.map (Go.WideElems.rg Tryz.prog 3 (fun _ => some (.nil, [])))).foldr DataW.insert [])
  have hown : World.ownsMap (H := Unit) w Tryz.prog 3 (fun _ => some (.nil, [])) mb l.length D0 := ⟨es, cl, hb, ⟨by unfold maxLen; omega, hst, fun x hx => by
    have : x.key ∈ es.toList.map (·.key) := List.mem_map_of_mem hx
    rw [hkeys] at this
    obtain ⟨z, hz, e⟩ := List.mem_map.1 this
    exact ⟨(.int .i64 z, .nil), by
      simp only [Go.WideElems.rd, ← e, Go.Maps.keyOf_int_mk Tryz.underlying3 (hwf' z hz)]
      rfl⟩⟩, by omega, rfl⟩
  have hD : (intKeys D0).Perm (l.map (·.1)) := intKeys_of hkeys hwf'
  have hDs : Maps.size D0 = l.length := by
    have := (Go.WideShapes.sorted_perm (es.toList.map (Go.WideElems.rg (H := Unit) Tryz.prog 3 (fun _ => some (.nil, []))))).length_eq
    simp only [List.length_map, Array.length_toList] at this
    show ((es.toList.map (Go.WideElems.rg (H := Unit) Tryz.prog 3 (fun _ => some (.nil, [])))).foldr DataW.insert []).length = _
    omega
  have hseq := AnyZI.keys_gives (ρ := keysZ_ren) keysZ Fence.wide 2 trivial rfl (by omega) Bm mb l.length D0 w (cel_lt hBm) (by rw [cell_cel]; exact hBm) hown
  have cS := AnyZI.collect_in (ρ := collZ_ren) collZ Fence.wide 4 trivial trivial rfl (by omega) 104 #[.pointer (some ⟨Bm, 0, none⟩)] trivial (fun a w => Tryz.call104 a w) _ _ (by rw [hDs]; unfold maxLen; omega) (by rw [hDs]; omega) w hseq
  refine Calls.mono (callsIn_wide.1 cS) fun e w' ⟨v, ss, he, hS, hrow, _, hbel⟩ => ⟨v, he, ?_⟩
  exact hq w' v ss (hS.trans hD) hrow ⟨hbel.os, hbel.tape, hbel.output, hbel.size, fun b hb _ => hbel.block b hb⟩
def srt (ks : List Int) : List Int := ks.mergeSort fun x y => decide (x ≤ y)
theorem srt_perm (ks : List Int) : (srt ks).Perm ks := List.mergeSort_perm _ _
theorem srt_sorted (ks : List Int) : (srt ks).Pairwise (· ≤ ·) := by
  have tr : ∀ a b c : Int, decide (a ≤ b) = true → decide (b ≤ c) = true → decide (a ≤ c) = true := fun a b c h1 h2 => by simp only [decide_eq_true_eq] at *; exact Int.le_trans h1 h2
  have tot : ∀ a b : Int, (decide (a ≤ b) || decide (b ≤ a)) = true := fun a b => by simp only [Bool.or_eq_true, decide_eq_true_eq]; exact Int.le_total a b
  exact (List.pairwise_mergeSort tr tot ks).imp fun h => by simpa using h
/-- The keys of a map of texts, rising. -/
theorem sorted_c {Bm mb : Nat} {l : Ar} (hBm : Sh.cel w Bm 0 = some (.map (some mb))) (hm : AM w mb l) (hn : l.length ≤ 1000000) (hwf : ∀ p ∈ l, (Lit.int .i64 p.1).wf = true)
    (hq : ∀ w' v ks, List.Perm ks (l.map (·.1)) → ks.Pairwise (· ≤ ·) → Sh.Own w' (siz w) 3 1 v ks.length (ks.map (Value.int .i64)) → K0 w w' → Q v w') :
    callS Tryz.prog 30 #[.func (.func 104) #[] #[.pointer (some ⟨Bm, 0, none⟩)]] Q w := by
  refine ref30 ?_
  unfold S30
  refine collect_c hBm hm hn hwf fun w1 v ks hp o1 k1 => ?_
  have hl : ks.length = l.length := by have := hp.length_eq; simpa using this
  refine sortInts_c (ρ := sortZ_ren) sortZ (fun a w => Tryz.call103 a w) o1 (by omega) fun w2 o2 k2 => ?_
  have hsl : (srt ks).length = ks.length := (srt_perm ks).length_eq
  refine hq w2 v (srt ks) ((srt_perm ks).trans hp) (srt_sorted ks) (by rw [hsl]; exact o2) (k1.trans' k2 fun q hq e => by have := (Sh.Own.lt o1 e).1; omega)
/-! ### the epochs that are gone -/
abbrev whoV (a b : Int) : Value := .agg #[.int .i64 a, .int .u64 b]
structure GM (w : World) (g : Nat) (G : List (Int × Int)) : Prop where
  ex : ∃ l, Sh.mp w g = some l ∧ okKeys okS_78 l ∧ ∀ a b, (aget (whoV a b) l).isSome = decide ((a, b) ∈ G)
theorem GM.keep {F : Nat → Prop} {g : Nat} {G : List (Int × Int)} (h : GM w g G) (k : Keep F w w') (hn : ¬ F g) : GM w' g G := by
  obtain ⟨l, h1, h2, h3⟩ := h.ex
  exact ⟨l, by rw [Sh.mp, k.block g (mp_lt h1) hn]; exact h1, h2, h3⟩
theorem GM.keep0 {g : Nat} {G : List (Int × Int)} (h : GM w g G) (k : K0 w w') : GM w' g G := h.keep k id
theorem GM.new : GM (w.alloc (.map #[] 0)) (siz w) [] := ⟨[], by rw [Sh.mp, blk_alloc_new]; rfl, fun p hp => by simp at hp, fun a b => by simp [aget]⟩
theorem who_ok (a b : Int) : okS_78 (whoV a b) := ⟨a, b, rfl⟩
theorem GM.put {g : Nat} {G : List (Int × Int)} {a b : Int} {x : Value} {l : List (Value × Value)} (h1 : okKeys okS_78 l) (h2 : ∀ a b, (aget (whoV a b) l).isSome = decide ((a, b) ∈ G)) (hm : MapTo w w' g (aput (whoV a b) x l)) : GM w' g (G ++ [(a, b)]) := by
  refine ⟨_, hm.map, aput_ok (who_ok a b) h1, fun a' b' => ?_⟩
  rw [aget_aput]
  by_cases h : whoV a' b' = whoV a b
  · rw [if_pos h]
    have : a' = a ∧ b' = b := by
      simp only [Value.agg.injEq, Array.mk.injEq, List.cons.injEq, Value.int.injEq, true_and, and_true] at h
      exact h
    simp [this.1, this.2]
  · rw [if_neg h, h2]
    have : ¬ (a' = a ∧ b' = b) := fun e => h (by rw [e.1, e.2])
    simp [this]
/-! ### small facts -/
theorem arPut_keys {b x : Int} {d : ByteArray} : ∀ {A : Ar}, x ∈ (arPut b d A).map (·.1) → x = b ∨ x ∈ A.map (·.1)
  | [], h => by simp [arPut] at h; exact .inl h
  | p :: A, h => by
    unfold arPut at h
    split at h
    · simp only [List.map_cons, List.mem_cons] at h ⊢
      rcases h with h | h
      · exact .inl h
      · exact .inr (.inr h)
    · simp only [List.map_cons, List.mem_cons] at h ⊢
      rcases h with h | h
      · exact .inr (.inl h)
      · rcases arPut_keys h with h | h
        · exact .inl h
        · exact .inr (.inr h)
theorem arPut_len {b : Int} {d : ByteArray} : ∀ {A : Ar}, (arPut b d A).length ≤ A.length + 1
  | [] => by simp [arPut]
  | p :: A => by
    unfold arPut
    split
    · simp
    · have := arPut_len (b := b) (d := d) (A := A); simp; omega
theorem writeF_all {P : Int × ByteArray → Prop} : ∀ {l : List Im} {A : Ar}, (∀ p ∈ A, P p) → (∀ i ∈ l, P (i.1, i.2.2)) → ∀ p ∈ writeF A l, P p
  | [], A, h, _ => h
  | i :: l, A, h, hl => by
    show ∀ p ∈ writeF (arPut i.1 i.2.2 A) l, P p
    refine writeF_all (fun p hp => ?_) (fun j hj => hl j (by simp [hj]))
    have gen : ∀ {A : Ar}, (∀ p ∈ A, P p) → ∀ p ∈ arPut i.1 i.2.2 A, P p := by
      intro A
      induction A with
      | nil => intro _ p hp; simp [arPut] at hp; rw [hp]; exact hl i (by simp)
      | cons q A ih =>
        intro h p hp
        unfold arPut at hp
        split at hp
        · rcases List.mem_cons.1 hp with rfl | hp
          · exact hl i (by simp)
          · exact h p (by simp [hp])
        · rcases List.mem_cons.1 hp with rfl | hp
          · exact h _ (by simp)
          · exact ih (fun p hp => h p (by simp [hp])) p hp
    exact gen h p hp
theorem writeF_len : ∀ {l : List Im} {A : Ar}, (writeF A l).length ≤ A.length + l.length
  | [], A => by simp [writeF]
  | i :: l, A => by
    show (writeF (arPut i.1 i.2.2 A) l).length ≤ _
    have h1 := writeF_len (l := l) (A := arPut i.1 i.2.2 A)
    have h2 := arPut_len (b := i.1) (d := i.2.2) (A := A)
    simp; omega
theorem aloneF_all {z : ByteArray} {P : Int × ByteArray → Prop} : ∀ (l : List Ev), (∀ e ∈ l, ∀ i ∈ e.wr, P (i.1, i.2.2)) → ∀ p ∈ (aloneF z l).1, P p := by
  refine rev_ind (fun _ p hp => by simp [aloneF] at hp) (fun l e ih h => ?_)
  rw [aloneF_snoc]
  exact writeF_all (ih fun x hx => h x (by simp [hx])) (h e (by simp))
theorem aloneF_len {z : ByteArray} : ∀ (l : List Ev), (∀ e ∈ l, e.wr.length ≤ 100) → (aloneF z l).1.length ≤ 100 * l.length := by
  refine rev_ind (fun _ => by simp [aloneF]) (fun l e ih h => ?_)
  rw [aloneF_snoc]
  have h1 := writeF_len (l := e.wr) (A := (aloneF z l).1)
  have h2 := ih fun x hx => h x (by simp [hx])
  have h3 := h e (by simp)
  simp only [List.length_append, List.length_singleton]
  omega
theorem great_ok {l : List Ev} (he : EvR w e) (ho : ∀ x ∈ l, EvR w x) : EvR w (greatF e l) := by
  unfold greatF
  split
  · exact he
  · exact { he with ls := ⟨Int.le_trans he.ls.1 maxL_ge, by
      have := maxL_lt (p := fun x => decide (x.kind = 1) && same x e) (B := 18446744073709551616) (l := l) (m := e.lsn) (by have := he.ls.2; omega) (fun x hx => by have := (ho x hx).ls.2; omega)
      show maxL _ _ _ ≤ _
      omega⟩ }
theorem playF_take {z : ByteArray} {cuts : List Int} {i : Nat} (hi : i < l.length) : playF z (l.take (i + 1)) cuts = stepF z (l.take i) l[i] (playF z (l.take i) cuts) := by
  rw [List.take_add_one, List.getElem?_eq_getElem hi]
  exact playF_snoc
end
end Go.Proofs.YtmmnifbponhhfaaGreatT
