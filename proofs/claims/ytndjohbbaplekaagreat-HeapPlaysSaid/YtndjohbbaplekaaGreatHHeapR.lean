/- The document's own heap: how it lies in memory; finding, putting, taking out. Conditions: as each says. -/
import Derived.Test.YtndjohbbaplekaaGreatHHeapX
import Derived.Test.YtndjohbbaplekaaGreatHBook
set_option linter.unusedSimpArgs false
set_option linter.unusedVariables false
namespace Go.Proofs.YtndjohbbaplekaaGreatH
open Go.Sh
set_option maxRecDepth 100000
/-- A time, an id, a value. -/
abbrev Wt := Int × Nat × Int
abbrev encW (s : Wt) : List Value := [.int .i64 s.1, .int .i64 (s.2.1 : Int), .int .i64 s.2.2]
theorem encW_len (s : Wt) : (encW s).length = 3 := rfl
theorem encW_one {s : Wt} {u : Value} (h : u ∈ encW s) : Go.Sh.one u = true := by
  simp only [encW, List.mem_cons, List.not_mem_nil, or_false] at h
  rcases h with rfl | rfl | rfl <;> rfl
theorem encW_ones {S : List Wt} : ∀ u ∈ flat encW S, Go.Sh.one u = true := fun u hu => by
  obtain ⟨s, _, hs⟩ := List.mem_flatMap.1 hu
  exact encW_one hs
abbrev tWt : TypeId := 58
abbrev tHp : TypeId := 29
/-- The document's heap in memory. -/
structure RH (w : World) (B r : Nat) (sl : Value) (L : List Wt) (last : Nat) : Prop where
  c : Sh.blk w r = some (.cells #[sl, .int .i64 (last : Int)] tHp)
  o : Sh.Own w B tWt 3 sl L.length (flat encW L)
section
variable {w w' : World} {Q : Value → World → Prop} {B r last : Nat} {sl : Value} {L A C D : List Wt} {s : Wt} {x : Int}
theorem RH.lt (h : RH w B r sl L last) : r < siz w := blk_lt h.c
theorem RH.sl_ne (h : RH w B r sl L last) : ∀ g, sl.ownBlock = some g → g ≠ r := fun g hg e => by
  obtain ⟨_, cs, hc⟩ := (h.o.trd (Nat.le_refl _)).2 g hg
  rw [e, h.c] at hc; injection hc with hc; injection hc with _ hc; cases hc
theorem RH.keep {F : Nat → Prop} (h : RH w B r sl L last) (k : Keep F w w') (h1 : ¬ F r) (h2 : ∀ g, sl.ownBlock = some g → ¬ F g) : RH w' B r sl L last := ⟨k.blk h.c h1, h.o.keep k h2⟩
theorem RH.keep0 (h : RH w B r sl L last) (k : K0 w w') : RH w' B r sl L last := h.keep k id fun _ _ => id
theorem wts_at {b o : Nat} (hc : ∀ j, j < L.length * 3 → Sh.cel w b (o + j) = (flat encW L)[j]?) {i : Nat} {p : Wt} (h : L[i]? = some p) :
    Sh.cel w b (o + i * 3) = some (.int .i64 p.1) ∧ Sh.cel w b (o + i * 3 + 1) = some (.int .i64 (p.2.1 : Int)) ∧ Sh.cel w b (o + i * 3 + 2) = some (.int .i64 p.2.2) := by
  have hi := (List.getElem?_eq_some_iff.1 h).1
  refine ⟨?_, ?_, ?_⟩
  · rw [hc _ (by omega)]; exact flat_get (enc := encW) encW_len h (j := 0) (by omega)
  · rw [Nat.add_assoc, hc _ (by omega)]; exact flat_get (enc := encW) encW_len h (j := 1) (by omega)
  · rw [Nat.add_assoc, hc _ (by omega)]; exact flat_get (enc := encW) encW_len h (j := 2) (by omega)
/-- Where an element of the list lies. -/
theorem RH.at (h : RH w B r sl L last) {i : Nat} (hi : i < L.length) : ∃ g c, sl = .slice (some ⟨g, 0, none⟩) L.length c ∧
    Sh.cel w g (i * 3) = some (.int .i64 L[i].1) ∧ Sh.cel w g (i * 3 + 1) = some (.int .i64 (L[i].2.1 : Int)) ∧ Sh.cel w g (i * 3 + 2) = some (.int .i64 L[i].2.2) := by
  obtain ⟨g, c, e, _, _, _, _, _, hc⟩ := h.o.at (by omega)
  obtain ⟨p0, p1, p2⟩ := wts_at (b := g) (o := 0) (fun j hj => by rw [Nat.zero_add]; exact hc j hj) (List.getElem?_eq_getElem hi)
  rw [Nat.zero_add] at p0 p1 p2
  exact ⟨g, c, e, p0, p1, p2⟩
theorem hfind_aux (h : RH w B r sl L last) (hS : L.length ≤ 100000) (hh : ∀ A s C, L = A ++ s :: C → (s.2.1 : Int) = x → (∀ a ∈ A, (a.2.1 : Int) ≠ x) → Q (.int .i64 (A.length : Int)) w) (hm : (∀ s ∈ L, (s.2.1 : Int) ≠ x) → Q (.int .i64 (-1)) w) :
    callS Tryz.prog 14 #[.pointer (some ⟨r, 0, none⟩), .int .i64 x] Q w := by
  refine ref14 ?_
  unfold S14
  have c0 : Sh.cel w r 0 = some sl := cel_b h.c 0
  obtain ⟨pa, ca, rfl⟩ := h.o.form
  refine lpc1 L.length (by omega) (fun i w' => w' = w ∧ ∀ j (hj : j < L.length), j < i → (L[j].2.1 : Int) ≠ x) ⟨rfl, fun j _ h => by omega⟩ (fun i w1 hi ⟨e, hI⟩ J hJ => ?_) (fun w1 ⟨e, hI⟩ J => ?_)
  · intro _j
    subst e
    have hi' : ((i : Int) < (L.length : Int)) := by omega
    obtain ⟨g, c, e, p0, p1, p2⟩ := h.at hi
    injection e with e1 _ e2
    subst e1 e2
    simp only [stp, Nat.reduceAdd, Int.reduceLT, Int.reduceLE, Int.reduceEq, Int.reduceNe, ne_eq, bne_self_eq_false, beq_self_eq_true, stm, c0, hi', Option.isSome_some, Option.getD_some]
    rw [ix_27 hi]
    by_cases he : (L[i].2.1 : Int) = x
    · simp only [stp, Nat.reduceAdd, Int.reduceLT, Int.reduceLE, Int.reduceEq, Int.reduceNe, ne_eq, bne_self_eq_false, beq_self_eq_true, stm, p1, he, Option.isSome_some, Option.getD_some]
      have hs : L = L.take i ++ L[i] :: L.drop (i + 1) := by rw [List.getElem_cons_drop, List.take_append_drop]
      have := hh (L.take i) L[i] (L.drop (i + 1)) hs he fun a ha => by
        obtain ⟨j, hj, rfl⟩ := List.getElem_of_mem ha
        rw [List.length_take] at hj
        rw [List.getElem_take]; exact hI j (by omega) (by omega)
      rw [List.length_take, Nat.min_eq_left (by omega)] at this
      exact this
    · simp only [stp, Nat.reduceAdd, Int.reduceLT, Int.reduceLE, Int.reduceEq, Int.reduceNe, ne_eq, bne_self_eq_false, beq_self_eq_true, stm, p1, he, Option.isSome_some, Option.getD_some]
      refine hJ _ ⟨rfl, fun j hj hji => ?_⟩
      by_cases e : j = i
      · subst e; exact he
      · exact hI j hj (by omega)
  · intro _j
    subst e
    have hi' : ¬ ((L.length : Int) < (L.length : Int)) := by omega
    simp only [stp, Nat.reduceAdd, Int.reduceLT, Int.reduceLE, Int.reduceEq, Int.reduceNe, ne_eq, bne_self_eq_false, beq_self_eq_true, stm, c0, hi', Option.isSome_some, Option.getD_some]
    exact hm fun s hs => by
      obtain ⟨j, hj, rfl⟩ := List.getElem_of_mem hs
      exact hI j hj hj
/-- What is put behind a row of one's own. -/
theorem app_wt {base n m : Nat} {v u : Value} {xs ys : List Value} {k : Value → World → Prop} (ho : Sh.Own w base tWt 3 v n xs) (hr : Rd 3 w u m ys) (h1 : ∀ y ∈ ys, Go.Sh.one y = true) (hb : n + m ≤ 1000000) (hbase : base ≤ siz w)
    (hk : ∀ v' w', Sh.Own w' base tWt 3 v' (n + m) (xs ++ ys) → Keep (fun g => v.ownBlock = some g) w w' → (∀ g, v'.ownBlock = some g → v.ownBlock = some g ∨ siz w ≤ g) → k v' w') :
    act Tryz.prog (Builtin.append_ #[27, 27] 27 #[v, u]) k w := by
  by_cases h0 : m = 0
  · subst h0
    obtain ⟨a, c, rfl⟩ := hr.form
    have e : ys = [] := List.length_eq_zero_iff.1 (by have := hr.len; omega)
    rw [ap0_27 ho]
    refine hk v w ?_ (Keep.refl _ _) (fun g h => .inl h)
    rw [e, List.append_nil]; exact ho
  · obtain ⟨g, o, c, rfl, _, hc⟩ := hr.at (by omega)
    exact ap_27 ho (b := g) (o := o) (m := m) (news := ys) hr.len hc h1 (by omega) hbase fun v' w' ho' hg hr' => hk v' w' ho' (grown_keep hg) hr'
/-- The parts of the list ahead of a place and from it on. -/
theorem RH.cuts (h : RH w B r sl L last) {k : Nat} (hk : k ≤ L.length) : ∃ p1 c1 p2 m2 c2, (∀ {k' : Value → Prop}, pur Tryz.prog (Instr.sliceAt 27 sl none (some (.int .i64 (k : Int))) none) k' = k' (.slice p1 k c1)) ∧
    (∀ {k' : Value → Prop}, pur Tryz.prog (Instr.sliceAt 27 sl (some (.int .i64 (k : Int))) none none) k' = k' (.slice p2 m2 c2)) ∧ m2 = (L.drop k).length ∧
    Rd 3 w (.slice p1 k c1) k (flat encW (L.take k)) ∧ Rd 3 w (.slice p2 m2 c2) m2 (flat encW (L.drop k)) := by
  rcases Nat.eq_zero_or_pos L.length with h0 | hp
  · have hC0 := List.length_eq_zero_iff.1 h0
    have hk0 : k = 0 := by omega
    rcases h.o.2 with ⟨e, _⟩ | ⟨g, cap, cur, e, _, _, hcap, _⟩
    · rw [e] at *
      subst hk0
      refine ⟨none, 0, none, 0, 0, fun {k'} => slt0_27, fun {k'} => slf0_27, by rw [hC0]; rfl, ?_, ?_⟩
      · rw [hC0]; exact Rd.nil _ _
      · rw [hC0]; exact Rd.nil _ _
    · subst hk0
      rw [e]
      refine ⟨_, _, _, _, _, fun {k'} => slt_27 (by omega), fun {k'} => slf_27 (by omega) (by omega), by rw [hC0]; rfl, ?_, ?_⟩
      · rw [hC0]; exact ⟨rfl, .inl ⟨rfl, _, _, rfl⟩⟩
      · rw [hC0]; exact ⟨rfl, .inl ⟨rfl, _, _, rfl⟩⟩
  · obtain ⟨g, cg, e, _, _, hcn, _, _, hcel⟩ := h.o.at hp
    rw [e]
    refine ⟨_, _, _, _, _, fun {k'} => slt_27 (by omega), fun {k'} => slf_27 hk hcn, by rw [List.length_drop], ?_, ?_⟩
    · rw [← flat_take (encW_len)]
      refine ⟨by rw [List.length_take, flat_len (encW_len)]; omega, ?_⟩
      refine .inr ⟨g, 0, cg, rfl, by omega, fun j hj => ?_⟩
      rw [Nat.zero_add, hcel _ (by omega), List.getElem?_take, if_pos hj]
    · rw [← flat_drop (encW_len)]
      have hcel0 : ∀ j, j < L.length * 3 → Sh.cel w g (0 + j) = (flat encW L)[j]? := fun j hj => by rw [Nat.zero_add]; exact hcel j hj
      split
      · refine Rd.from (flat_len (encW_len) _) hcel0 hk hcn fun h => by omega
      · refine Rd.from (flat_len (encW_len) _) hcel0 hk hcn fun h => rfl
/-- What stands while a list is laid anew: the one that comes, what is laid already. -/
def HW (u0 : World) (x : Option Value) (y : Option (Value × List Wt)) (s : Wt) (u : World) : Prop :=
  K0 u0 u ∧ (∀ v, x = some v → Sh.Own u (siz u0) tWt 3 v 1 (encW s)) ∧ (∀ p, y = some p → Sh.Own u (siz u0) tWt 3 p.1 p.2.length (flat encW p.2)) ∧
    (∀ v p g, x = some v → y = some p → v.ownBlock = some g → p.1.ownBlock ≠ some g)
variable {u0 u : World} {k : Value → World → Prop} {X : Option Value} {Y : Option (Value × List Wt)}
theorem HW.init : HW u0 none none s u0 := ⟨K0.refl _, fun _ h => (by cases h), fun _ h => (by cases h), fun _ _ _ h => (by cases h)⟩
theorem HW.bld (h : HW u0 none Y s u) (hk : ∀ v u', HW u0 (some v) Y s u' → k v u') : act Tryz.prog (Instr.buildSlice 27 1 #[(0, .agg (encW s).toArray)]) k u := by
  obtain ⟨k0, _, hy, _⟩ := h
  have s0 := k0.size
  show act Tryz.prog (Instr.buildSlice 27 1 #[(0, .agg #[.int .i64 s.1, .int .i64 (s.2.1 : Int), .int .i64 s.2.2])]) k u
  rw [bs_27]
  have ka : K0 u (u.alloc (.cells (encW s).toArray tWt)) := (K0.refl u).alloc _
  refine hk _ _ ⟨k0.trans ka, fun v e => ?_, fun v e => (hy v e).keep ka fun _ _ => id, fun v p g e e' hg hg' => ?_⟩
  · injection e with e
    subst e
    exact ⟨rfl, .inr ⟨siz u, 1, (encW s).toArray, rfl, by omega, blk_alloc_new, Nat.le_refl _, by unfold maxLen; omega, rfl, rfl⟩⟩
  · injection e with e
    subst e
    have hg : siz u = g := Option.some.inj hg
    have := ((hy p e').lt hg').2
    omega
theorem HW.bld' {a v : Int} {n : Nat} (h : HW u0 none Y (a, n, v) u) (hk : ∀ v1 u', HW u0 (some v1) Y (a, n, v) u' → k v1 u') : act Tryz.prog (Instr.buildSlice 27 1 #[(0, .agg #[.int .i64 a, .int .i64 (n : Int), .int .i64 v])]) k u := HW.bld (s := (a, n, v)) h hk
theorem HW.apA {v0 : Value} {n : Nat} (h : HW u0 X none s u) (hr : Rd 3 u0 v0 n (flat encW D)) (hn : n = D.length) (hl : D.length ≤ 100000) (hk : ∀ v u', HW u0 X (some (v, D)) s u' → k v u') :
    act Tryz.prog (Builtin.append_ #[27, 27] 27 #[.slice none 0 0, v0]) k u := by
  obtain ⟨k0, hx, _, _⟩ := h
  have s0 := k0.size
  subst hn
  refine app_wt (Sh.Own.nil u (siz u0) tWt 3) (hr.keep0 k0) encW_ones (by omega) s0 fun v u' o ku hb => ?_
  have ku : K0 u u' := ku.mono fun g _ e => by cases e
  rw [Nat.zero_add, List.nil_append] at o
  refine hk v u' ⟨k0.trans ku, fun v e => (hx v e).keep ku fun _ _ => id, fun v2 e => ?_, fun v1 v2 g e e' hg hg' => ?_⟩
  · injection e with e
    subst e; exact o
  · injection e' with e'
    subst e'
    rcases hb g hg' with h1 | h1
    · cases h1
    · have := ((hx v1 e).lt hg).2; omega
theorem HW.apX {x y : Value} (h : HW u0 (some x) (some (y, D)) s u) (hl : D.length ≤ 100000) (hk : ∀ v u', HW u0 none (some (v, D ++ [s])) s u' → k v u') :
    act Tryz.prog (Builtin.append_ #[27, 27] 27 #[y, x]) k u := by
  obtain ⟨k0, hx, hy, hd⟩ := h
  have s0 := k0.size
  have oy := hy _ rfl
  have ox := hx _ rfl
  refine app_wt oy ox.rd (fun v hv => encW_one hv) (by dsimp only; omega) s0 fun v u' o ku hb => ?_
  refine hk v u' ⟨k0.trans' ku fun q hq e => by have := (oy.lt e).1; omega, fun v1 e => (by cases e), fun v2 e => ?_, fun v1 v2 g e e' hg hg' => (by cases e)⟩
  injection e with e
  subst e
  have e2 : flat encW (D ++ [s]) = flat encW D ++ encW s := by rw [flat_append, flat_cons]; simp [flat]
  rw [List.length_append, e2]; exact o
theorem HW.apC {v0 y : Value} {n : Nat} (h : HW u0 X (some (y, D)) s u) (hr : Rd 3 u0 v0 n (flat encW C)) (hn : n = C.length) (hl : D.length + C.length ≤ 200000) (hk : ∀ v u', HW u0 none (some (v, D ++ C)) s u' → k v u') :
    act Tryz.prog (Builtin.append_ #[27, 27] 27 #[y, v0]) k u := by
  obtain ⟨k0, hx, hy, hd⟩ := h
  have s0 := k0.size
  have oy := hy _ rfl
  subst hn
  refine app_wt oy (hr.keep0 k0) encW_ones (by dsimp only; omega) s0 fun v u' o ku hb => ?_
  refine hk v u' ⟨k0.trans' ku fun q hq e => by have := (oy.lt e).1; omega, fun v1 e => (by cases e), fun v2 e => ?_, fun v1 v2 g e e' hg hg' => (by cases e)⟩
  injection e with e
  subst e
  rw [List.length_append, flat_append]; exact o
theorem HW.ldL {k : Value → Prop} (h : HW u0 X Y s u) (hr : RH u0 B r sl L last) (hk : k sl) : rd Tryz.prog (Instr.loadAt 27 (.pointer (some ⟨r, 0, none⟩))) k u :=
  ⟨sl, rl_27 (cel_b (h.1.blk hr.c id) 0), hk⟩
theorem HW.ldI {k : Value → Prop} (h : HW u0 X Y s u) (hr : RH u0 B r sl L last) (hk : k (.int .i64 (last : Int))) : rd Tryz.prog (Instr.loadAt 3 (.pointer (some ⟨r, 1, none⟩))) k u :=
  ⟨_, rl_3 (cel_b (h.1.blk hr.c id) 1), hk⟩
/-- The document's list is another one. -/
theorem HW.fin {k : Value → World → Prop} {v : Value} (h : RH u0 B r sl L last) (hB : B ≤ siz u0) (hu : HW u0 X (some (v, D)) s u)
    (hk : ∀ w', RH w' B r v D last → (∀ g, v.ownBlock = some g → siz u0 ≤ g) → Keep (fun g => g = r) u0 w' → k undef w') : act Tryz.prog (thenU (Instr.storeAt 27 (.pointer (some ⟨r, 0, none⟩)) v)) k u := by
  obtain ⟨k0, _, hy, _⟩ := hu
  have ho := hy _ rfl
  have hu := h.keep0 k0
  have hform := ho.form
  dsimp only at ho hform
  obtain ⟨pv, cv, rfl⟩ := hform
  rw [st_27 one_slice (by rw [cel_b hu.c]; rfl) (fre_b hu.c)]
  have ks : Keep (fun g => g = r) u (sto u r 0 (.slice pv D.length cv)) := (Keep.refl (fun g => g = r) u).sto (.inl rfl) _ _
  have hrlt := h.lt
  refine hk _ ⟨by rw [blk_sto hu.c]; rfl, (ho.keep ks fun q hq e => ?_).le hB⟩ (fun g hg => (ho.lt hg).1) (k0.none.trans ks)
  have := (ho.lt hq).1
  have e : q = r := e
  omega
end
end Go.Proofs.YtndjohbbaplekaaGreatH
