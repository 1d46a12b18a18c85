/- Maps: a look-up, a store, a delete, the length, over a block that holds a map whose keys are integers or texts.
   Conditions: the keys of one kind. -/
import Derived.Test.YtcekmdpiloegcaaGreatShP
import Derived.Laws.StructEq
import Derived.MapKept
set_option linter.unusedSimpArgs false
set_option linter.unusedVariables false
namespace Go.Sh

section
variable {P : Program} {w : World}

def kvO (x : Option Obj) : Option (List (Value × Value)) :=
  match x with
  | some (.map es _) => some (es.toList.map fun e => (e.key, e.val))
  | _ => none
/-- The keys and values of the map in block b, in the order in which they came. -/
def mp (w : World) (b : Nat) : Option (List (Value × Value)) := kvO (blk w b)

open Classical in
noncomputable def aget (k : Value) : List (Value × Value) → Option Value
  | [] => none
  | (k', v) :: r => if k = k' then some v else aget k r
open Classical in
noncomputable def aput (k v : Value) : List (Value × Value) → List (Value × Value)
  | [] => [(k, v)]
  | (k', v') :: r => if k = k' then (k, v) :: r else (k', v') :: aput k v r
open Classical in
noncomputable def adel (k : Value) : List (Value × Value) → List (Value × Value)
  | [] => []
  | (k', v') :: r => if k = k' then r else (k', v') :: adel k r

/-- The keys' type: how two of them are told apart. -/
structure Keys (P : Program) (t : TypeId) (ok : Value → Prop) (d : TypeDesc) : Prop where
  und : ∀ w, (underlying t).run P w = .ok d w
  check : ∀ e n k w, ok k → (Instr.checkKey e (n + 1) t k).run P w = .ok () w
  same : ∀ a b, ok a → ok b → (a = b → Instr.sameNow d a b = some true) ∧ (a ≠ b → Instr.sameNow d a b = some false)
  bits : ∀ a n, ok a → Instr.sameBits n a a = true

def isI64 (v : Value) : Prop := ∃ n, v = .int .i64 n
def isText (v : Value) : Prop := ∃ s, v = .string s

theorem keys_int {t : TypeId} (h : ∀ w, (underlying t).run P w = .ok (.int .i64) w) : Keys P t isI64 (.int .i64) where
  und := h
  check := fun e n k w ⟨m, hm⟩ => by subst hm; simp [Instr.checkKey, h]
  same := fun a b ⟨n, hn⟩ ⟨m, hm⟩ => by
    subst hn; subst hm
    refine ⟨fun e => ?_, fun e => ?_⟩
    · injection e with _ e; simp [Instr.sameNow, e]
    · have : n ≠ m := fun h => e (by rw [h])
      simp [Instr.sameNow, this]
  bits := fun a n ⟨m, hm⟩ => by subst hm; cases n <;> simp [Instr.sameBits]

theorem bytes_beq (a b : ByteArray) : (a == b) = decide (a = b) := by rw [beq_toListBytes, strEq]

theorem keys_text {t : TypeId} (h : ∀ w, (underlying t).run P w = .ok .string w) : Keys P t isText .string where
  und := h
  check := fun e n k w ⟨m, hm⟩ => by subst hm; simp [Instr.checkKey, h]
  same := fun a b ⟨n, hn⟩ ⟨m, hm⟩ => by
    subst hn; subst hm
    refine ⟨fun e => ?_, fun e => ?_⟩
    · injection e with e; simp [Instr.sameNow, bytes_beq, e]
    · have : n ≠ m := fun h => e (by rw [h])
      simp [Instr.sameNow, bytes_beq, this]
  bits := fun a n ⟨m, hm⟩ => by subst hm; cases n <;> simp [Instr.sameBits, bytes_beq]

def okKeys (ok : Value → Prop) (l : List (Value × Value)) : Prop := ∀ p ∈ l, ok p.1

section
variable {t : TypeId} {ok : Value → Prop} {d : TypeDesc}

theorem findNow_spec (K : Keys P t ok d) {k : Value} (hk : ok k) : ∀ (es : List MapEntry) (i : Nat), okKeys ok (es.map fun e => (e.key, e.val)) →
    (aget k (es.map fun e => (e.key, e.val)) = none ∧ Instr.findNow d k es i = some none) ∨
    ∃ j e, es[j]? = some e ∧ e.key = k ∧ aget k (es.map fun e => (e.key, e.val)) = some e.val ∧ Instr.findNow d k es i = some (some (i + j, e.val)) ∧
      (∀ v, aput k v (es.map fun e => (e.key, e.val)) = (es.modify j fun e => { e with key := k, val := v }).map fun e => (e.key, e.val)) ∧
      adel k (es.map fun e => (e.key, e.val)) = (es.eraseIdx j).map fun e => (e.key, e.val)
  | [], i, _ => .inl ⟨rfl, rfl⟩
  | e :: es, i, ho => by
    have he : ok e.key := ho (e.key, e.val) (by simp)
    have hs := K.same k e.key hk he
    by_cases h : k = e.key
    · right
      refine ⟨0, e, rfl, h.symm, ?_, ?_, fun v => ?_, ?_⟩
      · simp [aget, h]
      · simp only [Instr.findNow, hs.1 h]; simp
      · simp [aput, h]
      · simp [adel, h]
    · rcases findNow_spec K hk es (i + 1) (fun p hp => ho p (by simp at hp ⊢; exact .inr hp)) with ⟨h1, h2⟩ | ⟨j, e', h1, h2, h3, h4, h5, h6⟩
      · left
        refine ⟨?_, ?_⟩
        · simp only [List.map_cons, aget, if_neg h]; exact h1
        · simp only [Instr.findNow, hs.2 h]; exact h2
      · right
        refine ⟨j + 1, e', by simpa using h1, h2, ?_, ?_, fun v => ?_, ?_⟩
        · simp only [List.map_cons, aget, if_neg h]; exact h3
        · simp only [Instr.findNow, hs.2 h]; rw [h4]; congr 3; omega
        · simp only [List.map_cons, aput, if_neg h]; rw [h5]; simp
        · simp only [List.map_cons, adel, if_neg h]; rw [h6]; simp

theorem mp_blk {b : Nat} {l : List (Value × Value)} (h : mp w b = some l) : ∃ es c, w.heap[b]? = some (.map es c) ∧ l = es.toList.map fun e => (e.key, e.val) := by
  simp only [mp, kvO, blk] at h
  split at h
  · rename_i es c hb; exact ⟨es, c, hb, by injection h with h; exact h.symm⟩
  · cases h

theorem mp_lt {b : Nat} {l : List (Value × Value)} (h : mp w b = some l) : b < siz w := by
  simp only [mp, kvO] at h
  split at h
  · rename_i es c hb; exact blk_lt hb
  · cases h

theorem aget_nil_of_empty {es : Array MapEntry} (h : es.isEmpty = true) (k : Value) : aget k (es.toList.map fun e => (e.key, e.val)) = none := by
  have : es = #[] := by simpa using h
  subst this; rfl

theorem run_lookup (K : Keys P t ok d) {T el : TypeId} {r : Nat} {l : List (Value × Value)} {k z : Value} (hT : ∀ w, (underlying T).run P w = .ok (.map t el) w) (hz : ∀ w, (zeroValue el).run P w = .ok z w)
    (hm : mp w r = some l) (hl : okKeys ok l) (hk : ok k) (c : Bool) :
    (Instr.lookup T (.map (some r)) k c).run P w = .ok (if c then .tuple #[(aget k l).getD z, .bool (aget k l).isSome] else (aget k l).getD z) w := by
  obtain ⟨es, cl, hb, rfl⟩ := mp_blk hm
  have hg : (getObj r).run P w = .ok (.map es cl) w := by simp only [getObj, Sem.run, hb]
  rcases findNow_spec K hk es.toList 0 hl with ⟨h1, h2⟩ | ⟨j, e, h1, h2, h3, h4, _, _⟩
  · simp [Instr.lookup, hT, hg, K.check es.isEmpty 9999 k w hk, Instr.findKey, K.und, h2, hz, h1]
  · simp [Instr.lookup, hT, hg, K.check es.isEmpty 9999 k w hk, Instr.findKey, K.und, h4, h3]

theorem run_lookup_nil (K : Keys P t ok d) {T el : TypeId} {k z : Value} (hT : ∀ w, (underlying T).run P w = .ok (.map t el) w) (hz : ∀ w, (zeroValue el).run P w = .ok z w) (hk : ok k) (c : Bool) (w : World) :
    (Instr.lookup T (.map none) k c).run P w = .ok (if c then .tuple #[z, .bool false] else z) w := by
  have h := K.check (#[] : Array MapEntry).isEmpty 9999 k w hk
  have h' : (Instr.checkKey true 10000 t k).run P w = .ok () w := h
  cases c <;> simp [Instr.lookup, hT, h', hz, Instr.findKey, K.und, Instr.findNow]

/-- Only block r has turned, into this map. -/
structure MapTo (w w' : World) (r : Nat) (l : List (Value × Value)) : Prop where
  os : w'.os = w.os
  tape : w'.tape = w.tape
  output : w'.output = w.output
  size : siz w' = siz w
  map : mp w' r = some l
  block : ∀ b, b ≠ r → blk w' b = blk w b

theorem MapTo.keep {w' : World} {r : Nat} {l : List (Value × Value)} (h : MapTo w w' r l) : Keep (fun b => b = r) w w' := ⟨h.os, h.tape, h.output, Nat.le_of_eq h.size.symm, fun b _ hn => h.block b hn⟩

theorem mapTo_set {r : Nat} {es es' : Array MapEntry} {c c' : Nat} (h : w.heap[r]? = some (.map es c)) : MapTo w { w with heap := w.heap.setIfInBounds r (.map es' c') } r (es'.toList.map fun e => (e.key, e.val)) := by
  have hr := (Array.getElem?_eq_some_iff.1 h).1
  refine ⟨rfl, rfl, rfl, by simp [siz], ?_, fun b hb => ?_⟩
  · simp [mp, kvO, blk, hr]
  · simp only [blk]; rw [Array.getElem?_setIfInBounds_ne (Ne.symm hb)]

theorem run_setObj {r : Nat} {es es' : Array MapEntry} {c c' : Nat} (h : w.heap[r]? = some (.map es c)) : (setObj r (.map es' c')).run P w = .ok () { w with heap := w.heap.setIfInBounds r (.map es' c') } := by
  simp only [setObj, Sem.run, h]

theorem aget_notin {k : Value} : ∀ {l : List (Value × Value)}, aget k l = none → k ∉ l.map (·.1)
  | [], _ => by simp
  | (k', v') :: l, h => by
    simp only [aget] at h
    by_cases e : k = k'
    · simp [e] at h
    · rw [if_neg e] at h
      simp only [List.map_cons, List.mem_cons, not_or]
      exact ⟨e, aget_notin h⟩
open Classical in
theorem aget_aput : ∀ (l : List (Value × Value)) (k0 v0 k1 : Value), aget k1 (aput k0 v0 l) = if k1 = k0 then some v0 else aget k1 l
  | [], k0, v0, k1 => by simp only [aput, aget]
  | (k', v') :: l, k0, v0, k1 => by
    by_cases e1 : k0 = k'
    · subst e1
      by_cases e2 : k1 = k0
      · simp [aput, aget, e2]
      · simp [aput, aget, e2]
    · by_cases e2 : k1 = k'
      · subst e2; simp [aput, aget, e1, Ne.symm e1]
      · simp [aput, aget, e1, e2, aget_aput l k0 v0 k1]
/-- The map's entries are stamped, each otherwise, and its keys differ. -/
def stp (w : World) (r : Nat) : Prop := ∃ es cl, blk w r = some (.map es cl) ∧ MapKept.Stamped es cl
theorem blk_setMap {w : World} {r cl c' : Nat} {es es' : Array MapEntry} (hb : w.heap[r]? = some (.map es cl)) : blk { w with heap := w.heap.setIfInBounds r (.map es' c') } r = some (.map es' c') := by
  have := (Array.getElem?_eq_some_iff.1 hb).1
  simp [blk, this]
theorem stamped_push {es : Array MapEntry} {cl : Nat} {k v : Value} (h : MapKept.Stamped es cl) (hk : k ∉ es.toList.map (·.key)) : MapKept.Stamped (es.push { key := k, val := v, born := cl }) (cl + 1) := by
  obtain ⟨h1, h2, h3⟩ := h
  refine ⟨fun x hx => ?_, ?_, ?_⟩
  · rw [Array.toList_push, List.mem_append, List.mem_singleton] at hx
    rcases hx with hx | rfl
    · have := h1 x hx; omega
    · exact Nat.lt_succ_self _
  · rw [Array.toList_push, List.map_append, List.nodup_append]
    refine ⟨h2, by simp, fun a ha b hb => ?_⟩
    obtain ⟨x, hx, rfl⟩ := List.mem_map.1 ha
    simp only [List.map_cons, List.map_nil, List.mem_singleton] at hb
    have := h1 x hx
    omega
  · rw [Array.toList_push, List.map_append, List.nodup_append]
    refine ⟨h3, by simp, fun a ha b hb => ?_⟩
    simp only [List.map_cons, List.map_nil, List.mem_singleton] at hb
    intro e
    exact hk (by rw [← hb, ← e]; exact ha)
theorem map_modify {α : Type} {es : Array MapEntry} {j : Nat} {f : MapEntry → MapEntry} {e : MapEntry} (g : MapEntry → α) (hj : es[j]? = some e) (hg : g (f e) = g e) : (es.modify j f).toList.map g = es.toList.map g := by
  refine List.ext_getElem? fun i => ?_
  rw [List.getElem?_map, List.getElem?_map, Array.getElem?_toList, Array.getElem?_toList, Array.getElem?_modify]
  by_cases hij : j = i
  · subst hij; rw [if_pos rfl, hj]; simp [hg]
  · rw [if_neg hij]
theorem stamped_modify {es : Array MapEntry} {cl j : Nat} {k v : Value} {e : MapEntry} (h : MapKept.Stamped es cl) (hj : es[j]? = some e) (hk : e.key = k) : MapKept.Stamped (es.modify j fun e => { e with key := k, val := v }) cl := by
  obtain ⟨h1, h2, h3⟩ := h
  have hb := map_modify (f := fun e => { e with key := k, val := v }) (·.born) hj rfl
  refine ⟨fun x hx => ?_, by rw [hb]; exact h2, by rw [map_modify (f := fun e => { e with key := k, val := v }) (·.key) hj hk.symm]; exact h3⟩
  have : x.born ∈ es.toList.map (·.born) := by rw [← hb]; exact List.mem_map_of_mem hx
  obtain ⟨y, hy, e1⟩ := List.mem_map.1 this
  rw [← e1]; exact h1 y hy
theorem act_mapUpdateS (K : Keys P t ok d) {T el : TypeId} {r : Nat} {l : List (Value × Value)} {k v : Value} {Q : Value → World → Prop} (hT : ∀ w, (underlying T).run P w = .ok (.map t el) w)
    (hm : mp w r = some l) (hl : okKeys ok l) (hk : ok k) (h : ∀ w', MapTo w w' r (aput k v l) → (stp w r → stp w' r) → Q undef w') : act P (thenU (Instr.mapUpdate T (.map (some r)) k v)) Q w := by
  obtain ⟨es, cl, hb, rfl⟩ := mp_blk hm
  have hg : (getObj r).run P w = .ok (.map es cl) w := by simp only [getObj, Sem.run, hb]
  rcases findNow_spec K hk es.toList 0 hl with ⟨h1, h2⟩ | ⟨j, e, h1, h2, h3, h4, h5, _⟩
  · have hrun : (Instr.mapUpdate T (.map (some r)) k v).run P w = .ok () { w with heap := w.heap.setIfInBounds r (.map (es.push { key := k, val := v, born := cl }) (cl + 1)) } := by
      simp [Instr.mapUpdate, hT, hg, K.check false 9999 k w hk, Instr.findKey, K.und, h2, run_setObj hb]
    rw [act_eq (v := undef) (w' := { w with heap := w.heap.setIfInBounds r (.map (es.push { key := k, val := v, born := cl }) (cl + 1)) }) (by simp [thenU, hrun])]
    refine h _ ?_ ?_
    have hmt := mapTo_set (w := w) (es' := es.push { key := k, val := v, born := cl }) (c' := cl + 1) hb
    have e1 : aput k v (es.toList.map fun e => (e.key, e.val)) = ((es.push { key := k, val := v, born := cl }).toList.map fun e => (e.key, e.val)) := by
      have : ∀ (m : List (Value × Value)), aget k m = none → aput k v m = m ++ [(k, v)] := by
        intro m
        induction m with
        | nil => intro _; rfl
        | cons p m ih =>
          obtain ⟨k', v'⟩ := p
          intro hm
          by_cases hh : k = k'
          · simp [aget, hh] at hm
          · simp only [aget, if_neg hh] at hm
            simp only [aput, if_neg hh, ih hm, List.cons_append]
      rw [this _ h1]; simp
    rw [e1]; exact hmt
    rintro ⟨es', cl', hb', hs'⟩
    rw [show blk w r = some (.map es cl) from hb] at hb'
    injection hb' with hb'
    injection hb' with e1 e2
    subst e1 e2
    refine ⟨_, _, blk_setMap hb, stamped_push hs' (by have h6 := aget_notin h1; rw [List.map_map] at h6; exact h6)⟩
  · have hj : es[j]? = some e := by simpa using h1
    have hst : (Instr.keyThatStays k k).run P w = .ok k w := by simp [Instr.keyThatStays, K.bits k 10000 hk]
    have hrun : (Instr.mapUpdate T (.map (some r)) k v).run P w = .ok () { w with heap := w.heap.setIfInBounds r (.map (es.modify j fun e => { e with key := k, val := v }) cl) } := by
      simp [Instr.mapUpdate, hT, hg, K.check false 9999 k w hk, Instr.findKey, K.und, h4, hj, h2, hst, run_setObj hb]
    rw [act_eq (v := undef) (w' := { w with heap := w.heap.setIfInBounds r (.map (es.modify j fun e => { e with key := k, val := v }) cl) }) (by simp [thenU, hrun])]
    refine h _ ?_ ?_
    have hmt := mapTo_set (w := w) (es' := es.modify j fun e => { e with key := k, val := v }) (c' := cl) hb
    rw [h5 v]
    simpa using hmt
    rintro ⟨es', cl', hb', hs'⟩
    rw [show blk w r = some (.map es cl) from hb] at hb'
    injection hb' with hb'
    injection hb' with e1 e2
    subst e1 e2
    exact ⟨_, _, blk_setMap hb, stamped_modify hs' hj h2⟩

theorem act_mapUpdate (K : Keys P t ok d) {T el : TypeId} {r : Nat} {l : List (Value × Value)} {k v : Value} {Q : Value → World → Prop} (hT : ∀ w, (underlying T).run P w = .ok (.map t el) w)
    (hm : mp w r = some l) (hl : okKeys ok l) (hk : ok k) (h : ∀ w', MapTo w w' r (aput k v l) → Q undef w') : act P (thenU (Instr.mapUpdate T (.map (some r)) k v)) Q w := by
  obtain ⟨es, cl, hb, rfl⟩ := mp_blk hm
  have hg : (getObj r).run P w = .ok (.map es cl) w := by simp only [getObj, Sem.run, hb]
  rcases findNow_spec K hk es.toList 0 hl with ⟨h1, h2⟩ | ⟨j, e, h1, h2, h3, h4, h5, _⟩
  · have hrun : (Instr.mapUpdate T (.map (some r)) k v).run P w = .ok () { w with heap := w.heap.setIfInBounds r (.map (es.push { key := k, val := v, born := cl }) (cl + 1)) } := by
      simp [Instr.mapUpdate, hT, hg, K.check false 9999 k w hk, Instr.findKey, K.und, h2, run_setObj hb]
    rw [act_eq (v := undef) (w' := { w with heap := w.heap.setIfInBounds r (.map (es.push { key := k, val := v, born := cl }) (cl + 1)) }) (by simp [thenU, hrun])]
    refine h _ ?_
    have hmt := mapTo_set (w := w) (es' := es.push { key := k, val := v, born := cl }) (c' := cl + 1) hb
    have e1 : aput k v (es.toList.map fun e => (e.key, e.val)) = ((es.push { key := k, val := v, born := cl }).toList.map fun e => (e.key, e.val)) := by
      have : ∀ (m : List (Value × Value)), aget k m = none → aput k v m = m ++ [(k, v)] := by
        intro m
        induction m with
        | nil => intro _; rfl
        | cons p m ih =>
          obtain ⟨k', v'⟩ := p
          intro hm
          by_cases hh : k = k'
          · simp [aget, hh] at hm
          · simp only [aget, if_neg hh] at hm
            simp only [aput, if_neg hh, ih hm, List.cons_append]
      rw [this _ h1]; simp
    rw [e1]; exact hmt
  · have hj : es[j]? = some e := by simpa using h1
    have hst : (Instr.keyThatStays k k).run P w = .ok k w := by simp [Instr.keyThatStays, K.bits k 10000 hk]
    have hrun : (Instr.mapUpdate T (.map (some r)) k v).run P w = .ok () { w with heap := w.heap.setIfInBounds r (.map (es.modify j fun e => { e with key := k, val := v }) cl) } := by
      simp [Instr.mapUpdate, hT, hg, K.check false 9999 k w hk, Instr.findKey, K.und, h4, hj, h2, hst, run_setObj hb]
    rw [act_eq (v := undef) (w' := { w with heap := w.heap.setIfInBounds r (.map (es.modify j fun e => { e with key := k, val := v }) cl) }) (by simp [thenU, hrun])]
    refine h _ ?_
    have hmt := mapTo_set (w := w) (es' := es.modify j fun e => { e with key := k, val := v }) (c' := cl) hb
    rw [h5 v]
    simpa using hmt

theorem act_delete (K : Keys P t ok d) {T el ty t2 : TypeId} {r : Nat} {l : List (Value × Value)} {k : Value} {Q : Value → World → Prop} (hT : ∀ w, (underlying T).run P w = .ok (.map t el) w)
    (hm : mp w r = some l) (hl : okKeys ok l) (hk : ok k) (h : ∀ w', MapTo w w' r (adel k l) → Q (.tuple #[]) w') : act P (Builtin.delete_ #[T, t2] ty #[.map (some r), k]) Q w := by
  obtain ⟨es, cl, hb, rfl⟩ := mp_blk hm
  have hg : (getObj r).run P w = .ok (.map es cl) w := by simp only [getObj, Sem.run, hb]
  rcases findNow_spec K hk es.toList 0 hl with ⟨h1, h2⟩ | ⟨j, e, h1, h2, h3, h4, _, h6⟩
  · have hrun : (Builtin.delete_ #[T, t2] ty #[.map (some r), k]).run P w = .ok (.tuple #[]) { w with heap := w.heap.setIfInBounds r (.map es cl) } := by
      simp [Builtin.delete_, hT, hg, K.check es.isEmpty 9999 k w hk, Instr.findKey, K.und, h2, run_setObj hb]
    rw [act_eq hrun]
    refine h _ ?_
    have hmt := mapTo_set (w := w) (es' := es) (c' := cl) hb
    have : ∀ (m : List (Value × Value)), aget k m = none → adel k m = m := by
      intro m
      induction m with
      | nil => intro _; rfl
      | cons p m ih =>
        obtain ⟨k', v'⟩ := p
        intro hm
        by_cases hh : k = k'
        · simp [aget, hh] at hm
        · simp only [aget, if_neg hh] at hm
          simp only [adel, if_neg hh, ih hm]
    rw [this _ h1]; exact hmt
  · have hj : es[j]? = some e := by simpa using h1
    have hrun : (Builtin.delete_ #[T, t2] ty #[.map (some r), k]).run P w = .ok (.tuple #[]) { w with heap := w.heap.setIfInBounds r (.map (es.eraseIdxIfInBounds j) cl) } := by
      simp [Builtin.delete_, hT, hg, K.check es.isEmpty 9999 k w hk, Instr.findKey, K.und, h4, run_setObj hb]
    rw [act_eq hrun]
    refine h _ ?_
    have hmt := mapTo_set (w := w) (es' := es.eraseIdxIfInBounds j) (c' := cl) hb
    rw [h6]
    have hlt := (Array.getElem?_eq_some_iff.1 hj).1
    have e2 : (es.eraseIdxIfInBounds j).toList = es.toList.eraseIdx j := by simp [Array.eraseIdxIfInBounds_eq, hlt]
    rw [e2] at hmt
    exact hmt

theorem run_lenMap {T ty t el : TypeId} {r : Nat} {l : List (Value × Value)} (hT : ∀ w, (underlying T).run P w = .ok (.map t el) w) (hm : mp w r = some l) :
    (Builtin.len_ #[T] ty #[.map (some r)]).run P w = .ok (.int .i64 l.length) w := by
  simp only [mp, kvO, blk] at hm
  split at hm
  · rename_i es c hb
    injection hm with hm
    subst hm
    have hg : (getObj r).run P w = .ok (.map es c) w := by simp only [getObj, Sem.run, hb]
    simp [Builtin.len_, hT, hg, goInt]
  · cases hm
end

/-! ### the lists -/

theorem aget_mem {k v : Value} : ∀ {l : List (Value × Value)}, aget k l = some v → (k, v) ∈ l
  | [], h => by cases h
  | (k', v') :: l, h => by
    simp only [aget] at h
    split at h
    · rename_i hk; injection h with h; subst h; subst hk; simp
    · exact List.mem_cons_of_mem _ (aget_mem h)
theorem aget_none {k : Value} : ∀ {l : List (Value × Value)}, aget k l = none ↔ k ∉ l.map (·.1)
  | [] => by simp [aget]
  | (k', v') :: l => by
    simp only [aget, List.map_cons, List.mem_cons, not_or]
    by_cases h : k = k'
    · simp [h]
    · simp [h, aget_none]
theorem aget_of_mem {k v : Value} : ∀ {l : List (Value × Value)}, (l.map (·.1)).Nodup → (k, v) ∈ l → aget k l = some v
  | (k', v') :: l, hn, hm => by
    simp only [List.map_cons, List.nodup_cons] at hn
    simp only [List.mem_cons, Prod.mk.injEq] at hm
    simp only [aget]
    rcases hm with ⟨rfl, rfl⟩ | hm
    · simp
    · have : k ≠ k' := fun e => hn.1 (by subst e; exact List.mem_map_of_mem (f := (·.1)) hm)
      rw [if_neg this]; exact aget_of_mem hn.2 hm
theorem adel_perm {k v : Value} : ∀ {l : List (Value × Value)}, aget k l = some v → ((k, v) :: adel k l).Perm l
  | [], h => by cases h
  | (k', v') :: l, h => by
    simp only [aget] at h
    simp only [adel]
    split at h
    · rename_i hk; injection h with h; subst h; subst hk; simp
    · rename_i hk
      rw [if_neg hk]
      exact (List.Perm.swap _ _ _).trans ((adel_perm h).cons _)
theorem aput_perm_new {k v : Value} : ∀ {l : List (Value × Value)}, aget k l = none → (aput k v l).Perm ((k, v) :: l)
  | [], _ => by simp [aput]
  | (k', v') :: l, h => by
    simp only [aget] at h
    split at h
    · cases h
    · rename_i hk
      simp only [aput, if_neg hk]
      exact ((aput_perm_new h).cons _).trans (List.Perm.swap _ _ _)
theorem aput_perm_old {k u v : Value} : ∀ {l : List (Value × Value)}, aget k l = some u → (aput k v l).Perm ((k, v) :: adel k l)
  | [], h => by cases h
  | (k', v') :: l, h => by
    simp only [aget] at h
    simp only [aput, adel]
    split at h
    · rename_i hk; rw [if_pos hk, if_pos hk]
    · rename_i hk
      rw [if_neg hk, if_neg hk]
      exact ((aput_perm_old h).cons _).trans (List.Perm.swap _ _ _)
theorem adel_sub {k : Value} : ∀ {l : List (Value × Value)}, (adel k l).Sublist l
  | [] => List.Sublist.slnil
  | (k', v') :: l => by
    simp only [adel]
    split
    · exact List.sublist_cons_self _ _
    · exact adel_sub.cons_cons _
theorem aput_ok {ok : Value → Prop} {k v : Value} (hk : ok k) : ∀ {l : List (Value × Value)}, okKeys ok l → okKeys ok (aput k v l)
  | [], _ => by intro p hp; simp [aput] at hp; subst hp; exact hk
  | (k', v') :: l, h => by
    intro p hp
    simp only [aput] at hp
    split at hp
    · rcases List.mem_cons.1 hp with rfl | hp
      · exact hk
      · exact h p (List.mem_cons_of_mem _ hp)
    · rcases List.mem_cons.1 hp with rfl | hp
      · exact h _ (by simp)
      · exact aput_ok hk (fun p hp => h p (List.mem_cons_of_mem _ hp)) p hp
theorem adel_ok {ok : Value → Prop} {k : Value} {l : List (Value × Value)} (h : okKeys ok l) : okKeys ok (adel k l) := fun p hp => h p (adel_sub.subset hp)
end
end Go.Sh
