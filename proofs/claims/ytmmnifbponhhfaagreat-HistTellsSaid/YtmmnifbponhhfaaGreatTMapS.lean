/- Maps whose keys are structs of plain values: a look-up, a store. Conditions: the keys of one kind. -/
import Derived.Test.YtmmnifbponhhfaaGreatTShM
import Derived.Test.YtmmnifbponhhfaaGreatTShS
set_option linter.unusedSimpArgs false
set_option linter.unusedVariables false
namespace Go.Sh
section
variable {P : Program} {w : World}
/-- The keys' type, where two of them are told apart field by field. -/
structure KeysF (P : Program) (t : TypeId) (ok : Value → Prop) : Prop where
  und : ∃ fs, ∀ w, (underlying t).run P w = .ok (.struct fs) w
  check : ∀ e n k w, ok k → (Instr.checkKey e (n + 2) t k).run P w = .ok () w
  agg : ∀ k, ok k → ∃ cs, k = .agg cs
  eq : ∀ a b w, ok a → ok b → (a = b → (Op.equal t a b).run P w = .ok true w) ∧ (a ≠ b → (Op.equal t a b).run P w = .ok false w)
  bits : ∀ a n, ok a → Instr.sameBits (n + 2) a a = true
variable {t : TypeId} {ok : Value → Prop}
theorem findAsking_spec (K : KeysF P t ok) {k : Value} (hk : ok k) : ∀ (es : List MapEntry) (i : Nat), okKeys ok (es.map fun e => (e.key, e.val)) →
    (aget k (es.map fun e => (e.key, e.val)) = none ∧ (Instr.findAsking t k es i).run P w = .ok none w) ∨
    ∃ j e, es[j]? = some e ∧ e.key = k ∧ aget k (es.map fun e => (e.key, e.val)) = some e.val ∧ (Instr.findAsking t k es i).run P w = .ok (some (i + j, e.val)) w ∧
      (∀ v, aput k v (es.map fun e => (e.key, e.val)) = (es.modify j fun e => { e with key := k, val := v }).map fun e => (e.key, e.val))
  | [], i, _ => .inl ⟨rfl, rfl⟩
  | e :: es, i, ho => by
    have he : ok e.key := ho (e.key, e.val) (by simp)
    have hs := K.eq k e.key w hk he
    by_cases h : k = e.key
    · right
      refine ⟨0, e, rfl, h.symm, ?_, ?_, fun v => ?_⟩
      · simp [aget, h]
      · simp only [Instr.findAsking, Sem.run_bind, hs.1 h, Result.andThen_ok, if_true, Sem.run_pure, Nat.add_zero]
      · simp [aput, h]
    · rcases findAsking_spec K hk es (i + 1) (fun p hp => ho p (by simp at hp ⊢; exact .inr hp)) with ⟨h1, h2⟩ | ⟨j, e', h1, h2, h3, h4, h5⟩
      · left
        refine ⟨?_, ?_⟩
        · simp only [List.map_cons, aget, if_neg h]; exact h1
        · simp only [Instr.findAsking, Sem.run_bind, hs.2 h, Result.andThen_ok, Bool.false_eq_true, if_false]; exact h2
      · right
        refine ⟨j + 1, e', by simpa using h1, h2, ?_, ?_, fun v => ?_⟩
        · simp only [List.map_cons, aget, if_neg h]; exact h3
        · simp only [Instr.findAsking, Sem.run_bind, hs.2 h, Result.andThen_ok, Bool.false_eq_true, if_false]; rw [h4]; congr 3; omega
        · simp only [List.map_cons, aput, if_neg h]; rw [h5]; simp
theorem findKey_spec (K : KeysF P t ok) {k : Value} (hk : ok k) (es : List MapEntry) (ho : okKeys ok (es.map fun e => (e.key, e.val))) :
    (aget k (es.map fun e => (e.key, e.val)) = none ∧ (Instr.findKey t k es).run P w = .ok none w) ∨
    ∃ j e, es[j]? = some e ∧ e.key = k ∧ aget k (es.map fun e => (e.key, e.val)) = some e.val ∧ (Instr.findKey t k es).run P w = .ok (some (j, e.val)) w ∧
      (∀ v, aput k v (es.map fun e => (e.key, e.val)) = (es.modify j fun e => { e with key := k, val := v }).map fun e => (e.key, e.val)) := by
  obtain ⟨fs, hu⟩ := K.und
  cases es with
  | nil => left; exact ⟨rfl, by simp [Instr.findKey, hu, Instr.findNow]⟩
  | cons e es =>
    have hn : Instr.findNow (.struct fs) k (e :: es) 0 = none := by
      obtain ⟨cs, hc⟩ := K.agg k hk
      rw [hc]; rfl
    have hr : (Instr.findKey t k (e :: es)).run P w = (Instr.findAsking t k (e :: es) 0).run P w := by
      unfold Instr.findKey
      rw [Sem.run_bind, hu, Result.andThen_ok, hn]
    rcases findAsking_spec (w := w) K hk (e :: es) 0 ho with ⟨h1, h2⟩ | ⟨j, e', h1, h2, h3, h4, h5⟩
    · exact .inl ⟨h1, by rw [hr]; exact h2⟩
    · exact .inr ⟨j, e', h1, h2, h3, by rw [hr, h4, Nat.zero_add], h5⟩
theorem run_lookupF (K : KeysF P t ok) {T el : TypeId} {r : Nat} {l : List (Value × Value)} {k z : Value} (hT : ∀ w, (underlying T).run P w = .ok (.map t el) w) (hz : ∀ w, (zeroValue el).run P w = .ok z w)
    (hm : mp w r = some l) (hl : okKeys ok l) (hk : ok k) (c : Bool) :
    (Instr.lookup T (.map (some r)) k c).run P w = .ok (if c then .tuple #[(aget k l).getD z, .bool (aget k l).isSome] else (aget k l).getD z) w := by
  obtain ⟨es, cl, hb, rfl⟩ := mp_blk hm
  have hg : (getObj r).run P w = .ok (.map es cl) w := by simp only [getObj, Sem.run, hb]
  rcases findKey_spec (w := w) K hk es.toList hl with ⟨h1, h2⟩ | ⟨j, e, h1, h2, h3, h4, _⟩
  · simp [Instr.lookup, hT, hg, (show (Instr.checkKey es.isEmpty 10000 t k).run P w = .ok () w from K.check es.isEmpty 9998 k w hk), h2, hz, h1]
  · simp [Instr.lookup, hT, hg, (show (Instr.checkKey es.isEmpty 10000 t k).run P w = .ok () w from K.check es.isEmpty 9998 k w hk), h4, h3]
theorem act_mapUpdateF (K : KeysF P t ok) {T el : TypeId} {r : Nat} {l : List (Value × Value)} {k v : Value} {Q : Value → World → Prop} (hT : ∀ w, (underlying T).run P w = .ok (.map t el) w)
    (hm : mp w r = some l) (hl : okKeys ok l) (hk : ok k) (h : ∀ w', MapTo w w' r (aput k v l) → Q undef w') : act P (thenU (Instr.mapUpdate T (.map (some r)) k v)) Q w := by
  obtain ⟨es, cl, hb, rfl⟩ := mp_blk hm
  have hg : (getObj r).run P w = .ok (.map es cl) w := by simp only [getObj, Sem.run, hb]
  rcases findKey_spec (w := w) K hk es.toList hl with ⟨h1, h2⟩ | ⟨j, e, h1, h2, h3, h4, h5⟩
  · have hrun : (Instr.mapUpdate T (.map (some r)) k v).run P w = .ok () { w with heap := w.heap.setIfInBounds r (.map (es.push { key := k, val := v, born := cl }) (cl + 1)) } := by
      simp [Instr.mapUpdate, hT, hg, (show (Instr.checkKey false 10000 t k).run P w = .ok () w from K.check false 9998 k w hk), h2, run_setObj hb]
    rw [act_eq (v := undef) (w' := { w with heap := w.heap.setIfInBounds r (.map (es.push { key := k, val := v, born := cl }) (cl + 1)) }) (by simp [thenU, hrun])]
    refine h _ ?_
    have hmt := mapTo_set (w := w) (es' := es.push { key := k, val := v, born := cl }) (c' := cl + 1) hb
    have e1 : aput k v (es.toList.map fun e => (e.key, e.val)) = ((es.push { key := k, val := v, born := cl }).toList.map fun e => (e.key, e.val)) := by
      have : ∀ (m : List (Value × Value)), aget k m = none → aput k v m = m ++ [(k, v)] := by
        intro m
        induction m with
        | nil => intro _; rfl
        | cons p m ih =>
          obtain ⟨k', v'⟩ := p
          intro hm
          by_cases hh : k = k'
          · simp [aget, hh] at hm
          · simp only [aget, if_neg hh] at hm
            simp only [aput, if_neg hh, ih hm, List.cons_append]
      rw [this _ h1]; simp
    rw [e1]; exact hmt
  · have hj : es[j]? = some e := by simpa using h1
    have hst : (Instr.keyThatStays k k).run P w = .ok k w := by simp [Instr.keyThatStays, show Instr.sameBits 10000 k k = true from K.bits k 9998 hk]
    have hrun : (Instr.mapUpdate T (.map (some r)) k v).run P w = .ok () { w with heap := w.heap.setIfInBounds r (.map (es.modify j fun e => { e with key := k, val := v }) cl) } := by
      simp [Instr.mapUpdate, hT, hg, (show (Instr.checkKey false 10000 t k).run P w = .ok () w from K.check false 9998 k w hk), h4, hj, h2, hst, run_setObj hb]
    rw [act_eq (v := undef) (w' := { w with heap := w.heap.setIfInBounds r (.map (es.modify j fun e => { e with key := k, val := v }) cl) }) (by simp [thenU, hrun])]
    refine h _ ?_
    have hmt := mapTo_set (w := w) (es' := es.modify j fun e => { e with key := k, val := v }) (c' := cl) hb
    rw [h5 v]
    simpa using hmt
end
end Go.Sh
