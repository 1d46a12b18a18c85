/- Rows of structs: slices whose elements have several cells. Conditions: none. -/
import Derived.Test.YtcekmdpiloegcaaGreatShR
import Derived.Lib.AppendZeros
set_option linter.unusedSimpArgs false
set_option linter.unusedVariables false
namespace Go.Sh

theorem Own.setZ {w : World} {base : Nat} {e : TypeId} {z g n cap j : Nat} {xs : List Value} {x : Value} (h : Own w base e z (.slice (some ⟨g, 0, none⟩) n cap) n xs) (hj : j < n * z) : Own (sto w g j x) base e z (.slice (some ⟨g, 0, none⟩) n cap) n (xs.set j x) := by
  refine ⟨by rw [List.length_set]; exact h.1, ?_⟩
  rcases h.2 with ⟨h1, _⟩ | ⟨g', cap', cur, he, hb, hg, h1, h2, h3, h4⟩
  · cases h1
  · injection he with e1 _ e2
    injection e1 with e1
    injection e1 with e1 _ _
    subst e1 e2
    refine .inr ⟨g, cap, cur.setIfInBounds j x, rfl, hb, ?_, h1, h2, by rw [Array.size_setIfInBounds]; exact h3, ?_⟩
    · simp only [sto, World.setCell, Array.getElem?_modify, hg, if_true]; rfl
    · rw [Array.toList_setIfInBounds, ← h4, List.take_set]
theorem Own.cutZ {w : World} {base : Nat} {e : TypeId} {z g n cap m : Nat} {xs : List Value} (h : Own w base e z (.slice (some ⟨g, 0, none⟩) n cap) n xs) (hm : m ≤ n) : Own w base e z (.slice (some ⟨g, 0, none⟩) m cap) m (xs.take (m * z)) := by
  have hl := h.1
  have hmz := Nat.mul_le_mul_right z hm
  refine ⟨by rw [List.length_take]; omega, ?_⟩
  rcases h.2 with ⟨h1, _⟩ | ⟨g', cap', cur, he, hb, hg, h1, h2, h3, h4⟩
  · cases h1
  · injection he with e1 _ e2
    injection e1 with e1
    injection e1 with e1 _ _
    subst e1 e2
    exact .inr ⟨g, cap, cur, rfl, hb, hg, by omega, h2, h3, by rw [← h4, List.take_take, Nat.min_eq_left hmz]⟩
theorem Own.rebase {w : World} {base base' : Nat} {e : TypeId} {z n : Nat} {v : Value} {xs : List Value} (h : Own w base e z v n xs) (hb : ∀ g, v.ownBlock = some g → base' ≤ g) : Own w base' e z v n xs := by
  refine ⟨h.1, ?_⟩
  rcases h.2 with h1 | ⟨g, cap, cur, rfl, _, hg, rest⟩
  · exact .inl h1
  · exact .inr ⟨g, cap, cur, rfl, hb g rfl, hg, rest⟩
theorem Own.le {w : World} {base base' : Nat} {e : TypeId} {z n : Nat} {v : Value} {xs : List Value} (h : Own w base e z v n xs) (hb : base' ≤ base) : Own w base' e z v n xs := h.rebase fun g hg => Nat.le_trans hb (h.lt hg).1

/-- The value v is a slice of n elements of z cells each, whose cells read as xs. -/
def Rd (z : Nat) (w : World) (v : Value) (n : Nat) (xs : List Value) : Prop :=
  xs.length = n * z ∧ ((n = 0 ∧ ∃ a c, v = .slice a 0 c) ∨ ∃ b o c, v = .slice (some ⟨b, o, none⟩) n c ∧ n ≤ c ∧ ∀ j, j < n * z → cel w b (o + j) = xs[j]?)

theorem Own.rd {w : World} {base : Nat} {e : TypeId} {z n : Nat} {v : Value} {xs : List Value} (h : Own w base e z v n xs) : Rd z w v n xs := by
  refine ⟨h.len, ?_⟩
  rcases Nat.eq_zero_or_pos n with rfl | hn
  · obtain ⟨a, c, rfl⟩ := h.form
    exact .inl ⟨rfl, a, c, rfl⟩
  · obtain ⟨g, cap, rfl, _, _, hc, _, _, hx⟩ := h.at hn
    exact .inr ⟨g, 0, cap, rfl, hc, fun j hj => by rw [Nat.zero_add]; exact hx j hj⟩
theorem Row.rd {z : Nat} {w : World} {v : Value} {n : Nat} {V : Nat → Value} (h : Row z w v n V) : Rd z w v n ((List.range (n * z)).map V) := by
  refine ⟨by simp, ?_⟩
  rcases h with h | ⟨b, o, c, hv, hn, hc⟩
  · exact .inl h
  · exact .inr ⟨b, o, c, hv, hn, fun j hj => by rw [hc j hj, List.getElem?_map, List.getElem?_range hj]; rfl⟩
theorem Rd.len {z : Nat} {w : World} {v : Value} {n : Nat} {xs : List Value} (h : Rd z w v n xs) : xs.length = n * z := h.1
theorem Rd.form {z : Nat} {w : World} {v : Value} {n : Nat} {xs : List Value} (h : Rd z w v n xs) : ∃ a c, v = .slice a n c := by
  rcases h.2 with ⟨rfl, a, c, rfl⟩ | ⟨b, o, c, rfl, _⟩
  · exact ⟨_, _, rfl⟩
  · exact ⟨_, _, rfl⟩
theorem Rd.at {z : Nat} {w : World} {v : Value} {n : Nat} {xs : List Value} (h : Rd z w v n xs) (hn : 0 < n) : ∃ b o c, v = .slice (some ⟨b, o, none⟩) n c ∧ n ≤ c ∧ ∀ j, j < n * z → cel w b (o + j) = xs[j]? := by
  rcases h.2 with ⟨rfl, _⟩ | h
  · omega
  · exact h
theorem Rd.keep {F : Nat → Prop} {z : Nat} {w w' : World} {v : Value} {n : Nat} {xs : List Value} (h : Rd z w v n xs) (k : Keep F w w') (hF : ∀ g, v.ownBlock = some g → g < siz w → ¬ F g) : Rd z w' v n xs := by
  refine ⟨h.1, ?_⟩
  rcases h.2 with h1 | ⟨b, o, c, rfl, hn, hc⟩
  · exact .inl h1
  · refine .inr ⟨b, o, c, rfl, hn, fun j hj => ?_⟩
    have hl := h.1
    have hj' : j < xs.length := by omega
    have h1 := hc j hj
    rw [List.getElem?_eq_getElem hj'] at h1 ⊢
    exact k.cel h1 (hF b rfl (cel_lt h1))
theorem Rd.keep0 {z : Nat} {w w' : World} {v : Value} {n : Nat} {xs : List Value} (h : Rd z w v n xs) (k : Keep (fun _ => False) w w') : Rd z w' v n xs := h.keep k fun _ _ _ => id
/-- A slice that came in, or was made earlier, stands while only later blocks turn. -/
theorem Rd.keepB {B z : Nat} {w w' : World} {v : Value} {n : Nat} {xs : List Value} (h : Rd z w v n xs) (k : Keep (fun b => B ≤ b) w w') (hB : ∀ g, v.ownBlock = some g → g < siz w → g < B) : Rd z w' v n xs := h.keep k fun g hg hs => Nat.not_le.2 (hB g hg hs)
theorem Rd.nil (z : Nat) (w : World) : Rd z w (.slice none 0 0) 0 [] := ⟨by simp, .inl ⟨rfl, none, 0, rfl⟩⟩
/-- The part from i on. -/
theorem Rd.from {z : Nat} {w : World} {b o c n i : Nat} {xs : List Value} (hl : xs.length = n * z) (hc : ∀ j, j < n * z → cel w b (o + j) = xs[j]?) (hi : i ≤ n) (hn : n ≤ c) {a : Addr} (ha : i < n → a = ⟨b, o + i * z, none⟩) : Rd z w (.slice (some a) (n - i) (c - i)) (n - i) (xs.drop (i * z)) := by
  refine ⟨by rw [List.length_drop, hl, Nat.sub_mul], ?_⟩
  rcases Nat.lt_or_ge i n with h | h
  · rw [ha h]
    refine .inr ⟨b, o + i * z, c - i, rfl, by omega, fun j hj => ?_⟩
    rw [Nat.sub_mul] at hj
    rw [Nat.add_assoc, hc _ (by omega), List.getElem?_drop]
  · have : n - i = 0 := by omega
    rw [this]
    exact .inl ⟨rfl, _, _, rfl⟩

/-! ### elements of several cells -/

section
variable {α : Type} {enc : α → List Value} {k : Nat}
def flat (enc : α → List Value) (l : List α) : List Value := l.flatMap enc
theorem flat_nil : flat enc [] = [] := rfl
theorem flat_cons {x : α} {l : List α} : flat enc (x :: l) = enc x ++ flat enc l := rfl
theorem flat_append {a b : List α} : flat enc (a ++ b) = flat enc a ++ flat enc b := by simp [flat]
theorem flat_one {x : α} : flat enc [x] = enc x := by simp [flat]
theorem flat_len (hk : ∀ x, (enc x).length = k) : ∀ l : List α, (flat enc l).length = l.length * k
  | [] => by simp [flat]
  | x :: l => by rw [flat_cons, List.length_append, hk, flat_len hk l, List.length_cons, Nat.add_mul]; omega
theorem flat_get (hk : ∀ x, (enc x).length = k) : ∀ {l : List α} {i : Nat} {s : α} (_ : l[i]? = some s) {j : Nat} (_ : j < k), (flat enc l)[i * k + j]? = (enc s)[j]?
  | [], i, s, h, j, hj => by simp at h
  | x :: l, 0, s, h, j, hj => by
    simp at h; subst h
    rw [flat_cons, Nat.zero_mul, Nat.zero_add, List.getElem?_append_left (by rw [hk]; exact hj)]
  | x :: l, i + 1, s, h, j, hj => by
    have := flat_get hk (l := l) (i := i) (by simpa using h) hj
    rw [flat_cons, List.getElem?_append_right (by rw [hk, Nat.add_mul]; omega), hk, Nat.add_mul, Nat.one_mul, show i * k + k + j - k = i * k + j by omega]
    exact this
theorem flat_take (hk : ∀ x, (enc x).length = k) : ∀ (l : List α) (i : Nat), (flat enc l).take (i * k) = flat enc (l.take i)
  | l, 0 => by simp [flat]
  | [], i + 1 => by simp [flat]
  | x :: l, i + 1 => by
    rw [flat_cons, List.take_succ_cons, flat_cons, ← flat_take hk l i, List.take_append, hk, List.take_of_length_le (by rw [hk, Nat.add_mul]; omega), Nat.add_mul, Nat.one_mul, Nat.add_sub_cancel]
theorem flat_drop (hk : ∀ x, (enc x).length = k) : ∀ (l : List α) (i : Nat), (flat enc l).drop (i * k) = flat enc (l.drop i)
  | l, 0 => by simp [flat]
  | [], i + 1 => by simp [flat]
  | x :: l, i + 1 => by
    rw [flat_cons, List.drop_succ_cons, ← flat_drop hk l i, List.drop_append, hk, List.drop_of_length_le (by rw [hk, Nat.add_mul]; omega), Nat.add_mul, Nat.one_mul, Nat.add_sub_cancel]; rfl
theorem flat_set (hk : ∀ x, (enc x).length = k) {l : List α} {i : Nat} {s s' : α} {j : Nat} {v : Value} (h : l[i]? = some s) (hj : j < k) (he : enc s' = (enc s).set j v) : (flat enc l).set (i * k + j) v = flat enc (l.set i s') := by
  induction l generalizing i with
  | nil => simp at h
  | cons x l ih =>
    cases i with
    | zero =>
      simp at h; subst h
      rw [flat_cons, Nat.zero_mul, Nat.zero_add, List.set_append_left _ _ (by rw [hk]; exact hj), ← he]; rfl
    | succ i =>
      rw [flat_cons, List.set_append_right _ _ (by rw [hk, Nat.add_mul]; omega), hk, Nat.add_mul, Nat.one_mul, show i * k + k + j - k = i * k + j by omega, ih (by simpa using h)]; rfl
end

/-! ### fresh blocks -/

section
variable {P : Program} {w : World}
theorem stoL_new {t : TypeId} : ∀ (xs pre zs : List Value), zs.length = xs.length → stoL (w.alloc (.cells (pre ++ zs).toArray t)) (siz w) pre.length xs = w.alloc (.cells (pre ++ xs).toArray t)
  | [], pre, [], _ => rfl
  | x :: xs, pre, z :: zs, h => by
    have h1 : sto (w.alloc (.cells (pre ++ z :: zs).toArray t)) (siz w) pre.length x = w.alloc (.cells ((pre ++ [x]) ++ zs).toArray t) := by
      simp only [sto, World.setCell, World.alloc, siz]
      congr 1
      apply Array.ext_getElem?
      intro i
      rw [Array.getElem?_modify, Array.getElem?_push, Array.getElem?_push]
      by_cases hi : i = w.heap.size
      · subst hi
        simp
      · rw [if_neg (fun e => hi e.symm)]; simp [hi]
    rw [stoL_cons, h1, show pre.length + 1 = (pre ++ [x]).length by simp, stoL_new xs (pre ++ [x]) zs (by simpa using h), List.append_assoc]; rfl
theorem stoL_new0 {t : TypeId} {zs xs : List Value} (h : zs.length = xs.length) : stoL (w.alloc (.cells zs.toArray t)) (siz w) 0 xs = w.alloc (.cells xs.toArray t) := stoL_new xs [] zs h
theorem act_store_new1 {t tt : TypeId} {z v : Value} {k : Value → World → Prop} (ht : ∀ w, (sizeOf t).run P w = .ok 1 w) (hv : one v = true) :
    act P (thenU (Instr.storeAt t (.pointer (some ⟨siz w, 0, none⟩)) v)) k (w.alloc (.cells #[z] tt)) = k undef (w.alloc (.cells #[v] tt)) := by
  rw [act_store1 ht hv (by rw [cel_alloc_new]; rfl) fre_alloc_new]
  congr 1
  exact stoL_new0 (w := w) (t := tt) (zs := [z]) (xs := [v]) rfl
theorem act_store_newN {t tt : TypeId} {zs l : List Value} {k : Value → World → Prop} (ht : ∀ w, (sizeOf t).run P w = .ok l.length w) (hv : ∀ x ∈ l, one x = true) (hz : zs.length = l.length) :
    act P (thenU (Instr.storeAt t (.pointer (some ⟨siz w, 0, none⟩)) (.agg l.toArray))) k (w.alloc (.cells zs.toArray tt)) = k undef (w.alloc (.cells l.toArray tt)) := by
  rw [act_storeN ht hv (fun j hj => by rw [cel_alloc_new, Nat.zero_add]; simp; omega) fre_alloc_new, stoL_new0 hz]
theorem nw1 {z v : Value} {t : TypeId} : sto (w.alloc (.cells #[z] t)) (siz w) 0 v = w.alloc (.cells #[v] t) := stoL_new0 (w := w) (t := t) (zs := [z]) (xs := [v]) rfl
theorem nw2 {z0 z1 x0 x1 : Value} {t : TypeId} : stoL (w.alloc (.cells #[z0, z1] t)) (siz w) 0 [x0, x1] = w.alloc (.cells #[x0, x1] t) := stoL_new0 (zs := [z0, z1]) (xs := [x0, x1]) rfl
theorem nw3 {z0 z1 z2 x0 x1 x2 : Value} {t : TypeId} : stoL (w.alloc (.cells #[z0, z1, z2] t)) (siz w) 0 [x0, x1, x2] = w.alloc (.cells #[x0, x1, x2] t) := stoL_new0 (zs := [z0, z1, z2]) (xs := [x0, x1, x2]) rfl
theorem nw4 {z0 z1 z2 z3 x0 x1 x2 x3 : Value} {t : TypeId} : stoL (w.alloc (.cells #[z0, z1, z2, z3] t)) (siz w) 0 [x0, x1, x2, x3] = w.alloc (.cells #[x0, x1, x2, x3] t) := stoL_new0 (zs := [z0, z1, z2, z3]) (xs := [x0, x1, x2, x3]) rfl
theorem nw5 {z0 z1 z2 z3 z4 x0 x1 x2 x3 x4 : Value} {t : TypeId} : stoL (w.alloc (.cells #[z0, z1, z2, z3, z4] t)) (siz w) 0 [x0, x1, x2, x3, x4] = w.alloc (.cells #[x0, x1, x2, x3, x4] t) := stoL_new0 (zs := [z0, z1, z2, z3, z4]) (xs := [x0, x1, x2, x3, x4]) rfl
theorem nw6 {z0 z1 z2 z3 z4 z5 x0 x1 x2 x3 x4 x5 : Value} {t : TypeId} : stoL (w.alloc (.cells #[z0, z1, z2, z3, z4, z5] t)) (siz w) 0 [x0, x1, x2, x3, x4, x5] = w.alloc (.cells #[x0, x1, x2, x3, x4, x5] t) := stoL_new0 (zs := [z0, z1, z2, z3, z4, z5]) (xs := [x0, x1, x2, x3, x4, x5]) rfl
theorem nw7 {z0 z1 z2 z3 z4 z5 z6 x0 x1 x2 x3 x4 x5 x6 : Value} {t : TypeId} : stoL (w.alloc (.cells #[z0, z1, z2, z3, z4, z5, z6] t)) (siz w) 0 [x0, x1, x2, x3, x4, x5, x6] = w.alloc (.cells #[x0, x1, x2, x3, x4, x5, x6] t) := stoL_new0 (zs := [z0, z1, z2, z3, z4, z5, z6]) (xs := [x0, x1, x2, x3, x4, x5, x6]) rfl
theorem nw8 {z0 z1 z2 z3 z4 z5 z6 z7 x0 x1 x2 x3 x4 x5 x6 x7 : Value} {t : TypeId} : stoL (w.alloc (.cells #[z0, z1, z2, z3, z4, z5, z6, z7] t)) (siz w) 0 [x0, x1, x2, x3, x4, x5, x6, x7] = w.alloc (.cells #[x0, x1, x2, x3, x4, x5, x6, x7] t) := stoL_new0 (zs := [z0, z1, z2, z3, z4, z5, z6, z7]) (xs := [x0, x1, x2, x3, x4, x5, x6, x7]) rfl
theorem nw9 {z0 z1 z2 z3 z4 z5 z6 z7 z8 x0 x1 x2 x3 x4 x5 x6 x7 x8 : Value} {t : TypeId} : stoL (w.alloc (.cells #[z0, z1, z2, z3, z4, z5, z6, z7, z8] t)) (siz w) 0 [x0, x1, x2, x3, x4, x5, x6, x7, x8] = w.alloc (.cells #[x0, x1, x2, x3, x4, x5, x6, x7, x8] t) := stoL_new0 (zs := [z0, z1, z2, z3, z4, z5, z6, z7, z8]) (xs := [x0, x1, x2, x3, x4, x5, x6, x7, x8]) rfl
theorem nw10 {z0 z1 z2 z3 z4 z5 z6 z7 z8 z9 x0 x1 x2 x3 x4 x5 x6 x7 x8 x9 : Value} {t : TypeId} : stoL (w.alloc (.cells #[z0, z1, z2, z3, z4, z5, z6, z7, z8, z9] t)) (siz w) 0 [x0, x1, x2, x3, x4, x5, x6, x7, x8, x9] = w.alloc (.cells #[x0, x1, x2, x3, x4, x5, x6, x7, x8, x9] t) := stoL_new0 (zs := [z0, z1, z2, z3, z4, z5, z6, z7, z8, z9]) (xs := [x0, x1, x2, x3, x4, x5, x6, x7, x8, x9]) rfl
theorem nw11 {z0 z1 z2 z3 z4 z5 z6 z7 z8 z9 z10 x0 x1 x2 x3 x4 x5 x6 x7 x8 x9 x10 : Value} {t : TypeId} : stoL (w.alloc (.cells #[z0, z1, z2, z3, z4, z5, z6, z7, z8, z9, z10] t)) (siz w) 0 [x0, x1, x2, x3, x4, x5, x6, x7, x8, x9, x10] = w.alloc (.cells #[x0, x1, x2, x3, x4, x5, x6, x7, x8, x9, x10] t) := stoL_new0 (zs := [z0, z1, z2, z3, z4, z5, z6, z7, z8, z9, z10]) (xs := [x0, x1, x2, x3, x4, x5, x6, x7, x8, x9, x10]) rfl
theorem nw12 {z0 z1 z2 z3 z4 z5 z6 z7 z8 z9 z10 z11 x0 x1 x2 x3 x4 x5 x6 x7 x8 x9 x10 x11 : Value} {t : TypeId} : stoL (w.alloc (.cells #[z0, z1, z2, z3, z4, z5, z6, z7, z8, z9, z10, z11] t)) (siz w) 0 [x0, x1, x2, x3, x4, x5, x6, x7, x8, x9, x10, x11] = w.alloc (.cells #[x0, x1, x2, x3, x4, x5, x6, x7, x8, x9, x10, x11] t) := stoL_new0 (zs := [z0, z1, z2, z3, z4, z5, z6, z7, z8, z9, z10, z11]) (xs := [x0, x1, x2, x3, x4, x5, x6, x7, x8, x9, x10, x11]) rfl
theorem siz_lt1 {o : Obj} : (siz w < siz (w.alloc o)) = True := by rw [siz_alloc]; simp
theorem siz_lt2 {o o' : Obj} : (siz w < siz ((w.alloc o).alloc o')) = True := by rw [siz_alloc, siz_alloc]; apply eq_true; omega
theorem siz_lt3 {o o' o'' : Obj} : (siz w < siz (((w.alloc o).alloc o').alloc o'')) = True := by rw [siz_alloc, siz_alloc, siz_alloc]; apply eq_true; omega
theorem siz_lt4 {o o' o'' o3 : Obj} : (siz w < siz ((((w.alloc o).alloc o').alloc o'').alloc o3)) = True := by rw [siz_alloc, siz_alloc, siz_alloc, siz_alloc]; apply eq_true; omega

theorem resL_ptr {t : TypeId} {b o : Nat} : resL t (.pointer (some ⟨b, o, none⟩)) = Instr.loadAt t (.pointer (some ⟨b, o, none⟩)) := by rfl

/-! ### values that are compared, in parts -/
theorem part_one {cs : Array Value} {o : Nat} {v : Value} {t : TypeId} (ht : ∀ w, (isAgg t).run P w = .ok false w) (h : cs[o]? = some v) (w : World) : (part t cs o).run P w = .ok v w := by
  simp [part, ht, h]
theorem part_agg {cs : Array Value} {o n : Nat} {t : TypeId} (ht : ∀ w, (isAgg t).run P w = .ok true w) (hs : ∀ w, (sizeOf t).run P w = .ok n w) (w : World) : (part t cs o).run P w = .ok (.agg (cs.extract o (o + n))) w := by
  simp [part, ht, hs]
theorem eqIn_int {kd : IntKind} {a b : Int} {t : TypeId} {d : Nat} (ht : ∀ w, (underlying t).run P w = .ok (.int kd) w) (w : World) : (Op.equalIn (d + 1) t (.int kd a) (.int kd b)).run P w = .ok (decide (a = b)) w := by
  unfold Op.equalIn
  rw [Sem.run_bind, ht]
  simp only [Result.andThen_ok, if_pos, Sem.run_pure]
  by_cases h : a = b <;> simp [h]
theorem eqIn_bool {a b : Bool} {t : TypeId} {d : Nat} (ht : ∀ w, (underlying t).run P w = .ok .bool w) (w : World) : (Op.equalIn (d + 1) t (.bool a) (.bool b)).run P w = .ok (decide (a = b)) w := by
  unfold Op.equalIn
  rw [Sem.run_bind, ht]
  simp only [Result.andThen_ok, Sem.run_pure]
  cases a <;> cases b <;> rfl
theorem eqIn_str {a b : ByteArray} {t : TypeId} {d : Nat} (ht : ∀ w, (underlying t).run P w = .ok .string w) (w : World) : (Op.equalIn (d + 1) t (.string a) (.string b)).run P w = .ok (decide (a = b)) w := by
  unfold Op.equalIn
  rw [Sem.run_bind, ht]
  simp only [Result.andThen_ok, Sem.run_pure]
  congr 1
  obtain ⟨x⟩ := a
  obtain ⟨y⟩ := b
  show (x == y) = _
  by_cases h : x = y <;> simp [h]
theorem run_eqAgg {t : TypeId} {x y : Bool} {A B : Array Value} {r : Bool} (hg : P.eqGuardType P.depth t = false) (h : ∀ d w, (Op.equalIn (d + 9) t (.agg A) (.agg B)).run P w = .ok r w) (w : World) :
    (binS .eql t x y (.agg A) (.agg B)).run P w = .ok (.bool r) w := by
  have e1 : (eqG .eql t x y (.agg A) (.agg B)).run P w = .ok () w := by simp [eqG, hg]
  have h1 : binOp .eql t (.agg A) (.agg B) = (do pure (.bool (← Op.equal t (.agg A) (.agg B)))) := rfl
  unfold binS
  rw [Sem.run_bind, e1, Result.andThen_ok, h1, Sem.run_bind]
  unfold Op.equal Op.maxDepth
  rw [h 9991]; rfl
theorem run_neAgg {t : TypeId} {x y : Bool} {A B : Array Value} {r : Bool} (hg : P.eqGuardType P.depth t = false) (h : ∀ d w, (Op.equalIn (d + 9) t (.agg A) (.agg B)).run P w = .ok r w) (w : World) :
    (binS .neq t x y (.agg A) (.agg B)).run P w = .ok (.bool !r) w := by
  have e1 : (eqG .neq t x y (.agg A) (.agg B)).run P w = .ok () w := by simp [eqG, hg]
  have h1 : binOp .neq t (.agg A) (.agg B) = (do pure (.bool (!(← Op.equal t (.agg A) (.agg B))))) := rfl
  unfold binS
  rw [Sem.run_bind, e1, Result.andThen_ok, h1, Sem.run_bind]
  unfold Op.equal Op.maxDepth
  rw [h 9991]; rfl
theorem equalIn_slnone {T e : TypeId} {a : Option Addr} {n c : Nat} (d : Nat) (hT : ∀ w, (underlying T).run P w = .ok (.slice e) w) : (Op.equalIn (d + 1) T (.slice a n c) (.slice none 0 0)).run P w = .ok a.isNone w := by
  unfold Op.equalIn
  rw [Sem.run_bind, hT]
  cases a <;> rfl
theorem run_sleq_none {T e : TypeId} {x y : Bool} {a : Option Addr} {n c : Nat} (hT : ∀ w, (underlying T).run P w = .ok (.slice e) w) :
    (binS .eql T x y (.slice a n c) (.slice none 0 0)).run P w = .ok (.bool a.isNone) w := by
  have h1 : binOp .eql T (.slice a n c) (.slice none 0 0) = (do pure (.bool (← Op.equal T (.slice a n c) (.slice none 0 0)))) := rfl
  have h0 : eqG .eql T x y (.slice a n c) (.slice none 0 0) = pure () := rfl
  unfold binS
  rw [h0, Sem.run_bind, Sem.run_pure, Result.andThen_ok, h1, Sem.run_bind]
  unfold Op.equal Op.maxDepth
  rw [equalIn_slnone 9999 hT]; rfl
theorem run_slneq_none {T e : TypeId} {x y : Bool} {a : Option Addr} {n c : Nat} (hT : ∀ w, (underlying T).run P w = .ok (.slice e) w) :
    (binS .neq T x y (.slice a n c) (.slice none 0 0)).run P w = .ok (.bool a.isSome) w := by
  have h1 : binOp .neq T (.slice a n c) (.slice none 0 0) = (do pure (.bool (!(← Op.equal T (.slice a n c) (.slice none 0 0))))) := rfl
  have h0 : eqG .neq T x y (.slice a n c) (.slice none 0 0) = pure () := rfl
  unfold binS
  rw [h0, Sem.run_bind, Sem.run_pure, Result.andThen_ok, h1, Sem.run_bind]
  unfold Op.equal Op.maxDepth
  rw [equalIn_slnone 9999 hT]; cases a <;> rfl

/-! ### slices: cut, cleared, their room -/
theorem run_capSl {T e ty : TypeId} {a : Option Addr} {n c : Nat} (hT : ∀ w, (underlying T).run P w = .ok (.slice e) w) : (Builtin.cap_ #[T] ty #[.slice a n c]).run P w = .ok (.int .i64 c) w := by
  simp [Builtin.cap_, hT, goInt]
theorem run_sliceFrom {T e : TypeId} {b o n c i z : Nat} (hT : ∀ w, (underlying T).run P w = .ok (.slice e) w) (hs : ∀ w, (sizeOf e).run P w = .ok z w) (h : i ≤ n) (hn : n ≤ c) (kd : IntKind) (w : World) :
    (Instr.sliceAt T (.slice (some ⟨b, o, none⟩) n c) (some (.int kd i)) none none).run P w = .ok (.slice (some (if c = i then ⟨b, o, none⟩ else ⟨b, o + i * z, none⟩)) (n - i) (c - i)) w := by
  have h' : i ≤ c := by omega
  simp [Instr.sliceAt, hT, Instr.slice, Instr.sliceBounds, Instr.sliceBound, asIntOf, h, hn, h', hs, Addr.add]
  split
  · rfl
  · by_cases h0 : i = 0
    · simp [h0]
    · by_cases hz : z = 0 <;> simp [hz]
theorem run_sliceNil {T e : TypeId} {z : Nat} (hT : ∀ w, (underlying T).run P w = .ok (.slice e) w) (hs : ∀ w, (sizeOf e).run P w = .ok z w) (kd : IntKind) (w : World) :
    (Instr.sliceAt T (.slice none 0 0) (some (.int kd 0)) none none).run P w = .ok (.slice none 0 0) w := by
  simp [Instr.sliceAt, hT, Instr.slice, Instr.sliceBounds, Instr.sliceBound, asIntOf, hs]
theorem run_sliceToNil {T e : TypeId} {z : Nat} (hT : ∀ w, (underlying T).run P w = .ok (.slice e) w) (hs : ∀ w, (sizeOf e).run P w = .ok z w) (kd : IntKind) (w : World) :
    (Instr.sliceAt T (.slice none 0 0) none (some (.int kd 0)) none).run P w = .ok (.slice none 0 0) w := by
  simp [Instr.sliceAt, hT, Instr.slice, Instr.sliceBounds, Instr.sliceBound, asIntOf, hs]
theorem act_clearN {T e ty : TypeId} {b o n c : Nat} {z : Value} {k : Value → World → Prop} (hT : ∀ w, (underlying T).run P w = .ok (.slice e) w) (hz : ∀ w, (zeroValue e).run P w = .ok z w)
    (h1 : ∀ v ∈ (Builtin.zeroCells z.cells n).toList, one v = true) (h : ∀ j, j < n * z.cells.size → (cel w b (o + j)).isSome = true) (hf : fre w b = true) :
    act P (Builtin.clear_ #[T] ty #[.slice (some ⟨b, o, none⟩) n c]) k w = k (.tuple #[]) (stoL w b o (Builtin.zeroCells z.cells n).toList) := by
  refine act_eq ?_
  have h2 := run_storeL (P := P) (b := b) (Builtin.zeroCells z.cells n).toList o 0 w h1 (fun j hj => by rw [Nat.add_zero]; exact h j (by simpa [Builtin.zeroCells] using hj)) hf
  cases n with
  | zero => simp [Builtin.clear_, hT, Builtin.zeroCells, stoL]
  | succ n => simp [Builtin.clear_, hT, hz, h2]
theorem act_clearNil {T e ty : TypeId} {c : Nat} {z : Value} {k : Value → World → Prop} (hT : ∀ w, (underlying T).run P w = .ok (.slice e) w) (hz : ∀ w, (zeroValue e).run P w = .ok z w) :
    act P (Builtin.clear_ #[T] ty #[.slice none 0 c]) k w = k (.tuple #[]) w := by
  refine act_eq ?_
  simp [Builtin.clear_, hT, hz]

theorem act_append0 {t ty e size base : Nat} {v : Value} {n : Nat} {xs : List Value} {a : Option Addr} {c : Nat} {k : Value → World → Prop} (hT : ∀ w, (underlying t).run P w = .ok (.slice e) w) (hs : ∀ w, (sizeOf e).run P w = .ok size w) (hown : Own w base e size v n xs) :
    act P (Builtin.append_ #[t, t] ty #[v, .slice a 0 c]) k w = k v w := by
  refine act_eq ?_
  rcases hown.2 with ⟨rfl, rfl⟩ | ⟨g, cap, cur, rfl, _, hg, h1, h2, h3, h4⟩
  · cases a <;> simp [Builtin.append_, hT, hs, Builtin.lenOf, Builtin.firstCells, loadCells, loadCellsFrom]
  · cases a <;> simp [Builtin.append_, hT, hs, Builtin.lenOf, Builtin.firstCells, loadCells, loadCellsFrom, h1, storeCells]
theorem act_appendZ {t tn ty e size : Nat} {i : TypeInfo} {z : Value} {kk kn : IntKind} {k : Value → World → Prop} (ht : P.underlying t = some (.slice e)) (htn : P.underlying tn = some (.int kn)) (hi : P.info? e = some i) (hz : i.zero = some z)
    (hsize : i.size = size) (hzs : z.cells.size = size) (hsz : 0 < size) {n : Nat} (h0 : 0 < n) (hb : n * max i.bytes 1 ≤ 140737488355328) (hm : n ≤ maxLen)
    (hk : ∀ cap w', Own w' (siz w) e size (.slice (some ⟨siz w, 0, none⟩) 0 cap) 0 [] → n ≤ cap → Keep (fun _ => False) w w' → k (.slice (some ⟨siz w, 0, none⟩) n cap) w') :
    act P (Builtin.append_ #[t, tn] ty #[.slice none 0 0, .int kk (n : Int)]) k w := by
  subst hsize
  have hbn : n * i.bytes ≤ 140737488355328 := Nat.le_trans (Nat.mul_le_mul_left n (Nat.le_max_left _ _)) hb
  have hn1 : n ≤ 140737488355328 := Nat.le_trans (by have := Nat.mul_le_mul_left n (Nat.le_max_right i.bytes 1); omega) hb
  have hr := Go.Lib.run_append_nil_zeros (P := P) w t tn ty e i z kk kn ht htn hi hz n h0 hsz (by omega) (by omega)
  rw [act_eq hr]
  have hge := grownCap_ge w n 0 e
  have hcm : grownCap w n 0 e ≤ maxLen := grownCap_le_maxLen w n 0 e hm
  refine hk _ _ ⟨by simp, .inr ⟨_, _, _, rfl, Nat.le_refl _, heap_alloc_new w.drew _, Nat.zero_le _, hcm, ?_, by simp⟩⟩ hge ((Keep.refl _ w).drew.alloc _)
  simp only [Array.size_append, size_zeroCells, hzs, ← Nat.add_mul]
  congr 1
  omega

theorem act_clear0 {T e ty : TypeId} {a : Option Addr} {c : Nat} {k : Value → World → Prop} (hT : ∀ w, (underlying T).run P w = .ok (.slice e) w) :
    act P (Builtin.clear_ #[T] ty #[.slice a 0 c]) k w = k (.tuple #[]) w := by
  refine act_eq ?_
  cases a <;> simp [Builtin.clear_, hT]
theorem callF_plain {g : FuncId} {args : Array Value} {k : Value → World → Prop} : callF P (.func (.func g) #[] #[]) args k w = callS P g args k w := by
  simp [callF]
theorem wrap_succ {i : Nat} (h : i ≤ 1000000000000) : IntKind.i64.wrap ((i : Int) + 1) = ((i + 1 : Nat) : Int) := by
  rw [wrap_id (by omega) (by omega)]; omega
theorem wrap_pred {i : Nat} (h0 : 0 < i) (h : i ≤ 1000000000000) : IntKind.i64.wrap ((i : Int) - 1) = ((i - 1 : Nat) : Int) := by
  rw [wrap_id (by omega) (by omega)]; omega
theorem wrap_succ' {i : Nat} {j : Int} (e : j = (i : Int)) (h : i ≤ 1000000000000) : IntKind.i64.wrap (j + 1) = ((i + 1 : Nat) : Int) := by subst e; exact wrap_succ h
/-- A row with no element and no room. -/
theorem Own.empty {base : Nat} {e : TypeId} {z : Nat} (hb : base ≤ siz w) : Own (w.alloc (.cells #[] e)) base e z (.slice (some ⟨siz w, 0, none⟩) 0 0) 0 [] :=
  ⟨by simp, .inr ⟨siz w, 0, #[], rfl, hb, blk_alloc_new, Nat.le_refl _, Nat.zero_le _, by simp, by simp⟩⟩

/-! ### cells that are written one after the other -/
theorem blk_stoL_ne {b : Nat} : ∀ (l : List Value) (w : World) (o : Nat) {b' : Nat}, b' ≠ b → blk (stoL w b o l) b' = blk w b'
  | [], _, _, _, _ => rfl
  | v :: l, w, o, b', h => by rw [stoL_cons, blk_stoL_ne l _ _ h, blk_sto_ne h]
theorem siz_stoL {b : Nat} : ∀ (l : List Value) (w : World) (o : Nat), siz (stoL w b o l) = siz w
  | [], _, _ => rfl
  | v :: l, w, o => by rw [stoL_cons, siz_stoL l, siz_sto]
theorem Keep.stoL {F : Nat → Prop} {b : Nat} : ∀ (l : List Value) {w w' : World} (o : Nat), Keep F w w' → (F b ∨ siz w ≤ b) → Keep F w (Sh.stoL w' b o l)
  | [], _, _, _, h, _ => h
  | v :: l, w, w', o, h, hb => by rw [stoL_cons]; exact Keep.stoL l (o + 1) (h.sto hb o v) hb
theorem Own.setL {base : Nat} {e : TypeId} {z g n cap : Nat} : ∀ (l : List Value) {w : World} {xs : List Value} {j : Nat} (_ : Own w base e z (.slice (some ⟨g, 0, none⟩) n cap) n xs) (_ : j + l.length ≤ n * z),
    Own (stoL w g j l) base e z (.slice (some ⟨g, 0, none⟩) n cap) n (xs.take j ++ (l ++ xs.drop (j + l.length)))
  | [], w, xs, j, h, hj => by simpa [stoL] using h
  | v :: l, w, xs, j, h, hj => by
    have hl := h.len
    simp only [List.length_cons] at hj
    have h1 := Own.setL l (h.setZ (j := j) (x := v) (by omega)) (j := j + 1) (by omega)
    rw [stoL_cons]
    have e1 : (xs.set j v).take (j + 1) = xs.take j ++ [v] := by
      rw [List.take_set, List.set_eq_take_append_cons_drop, if_pos (by rw [List.length_take]; omega), List.take_take, Nat.min_eq_left (by omega), List.drop_eq_nil_of_le (by rw [List.length_take]; omega)]
    have e2 : (xs.set j v).drop (j + 1 + l.length) = xs.drop (j + (v :: l).length) := by
      rw [List.drop_set_of_lt (by omega), List.length_cons, show j + 1 + l.length = j + (l.length + 1) by omega]
    rw [e1, e2, List.append_assoc] at h1
    exact h1
/-- What lies behind the end is written: the row that is cut there stands. -/
theorem Own.cutL {base : Nat} {e : TypeId} {z g n cap m : Nat} {w : World} {xs : List Value} (h : Own w base e z (.slice (some ⟨g, 0, none⟩) n cap) n xs) (hm : m ≤ n) (l : List Value) (hl : l.length = (n - m) * z) :
    Own (stoL w g (m * z) l) base e z (.slice (some ⟨g, 0, none⟩) m cap) m (xs.take (m * z)) := by
  have hmz := Nat.mul_le_mul_right z hm
  have h0 := h.len
  have h1 := Own.setL l h (j := m * z) (by rw [hl, Nat.sub_mul]; omega)
  have h2 := h1.cutZ hm
  rw [List.take_append_of_le_length (by rw [List.length_take]; omega), List.take_take, Nat.min_self] at h2
  exact h2
end

/-- Ranges of blocks in memory. -/
def encS (s : Int × Int) : List Value := [.int .i64 s.1, .int .i64 s.2]
theorem encS_len (s : Int × Int) : (encS s).length = 2 := rfl
theorem encS_one {s : Int × Int} {v : Value} (h : v ∈ encS s) : one v = true := by
  simp only [encS, List.mem_cons, List.not_mem_nil, or_false] at h
  rcases h with rfl | rfl <;> exact one_int

section
variable {w : World} {b o n c : Nat} {l : List (Int × Int)}
/-- The cells of element i. -/
theorem spans_at (hc : ∀ j, j < l.length * 2 → cel w b (o + j) = (flat encS l)[j]?) {i : Nat} {s : Int × Int} (h : l[i]? = some s) :
    cel w b (o + i * 2) = some (.int .i64 s.1) ∧ cel w b (o + i * 2 + 1) = some (.int .i64 s.2) := by
  have hi := (List.getElem?_eq_some_iff.1 h).1
  constructor
  · rw [hc _ (by omega)]; exact flat_get (enc := encS) encS_len h (j := 0) (by omega)
  · rw [Nat.add_assoc, hc _ (by omega)]; exact flat_get (enc := encS) encS_len h (j := 1) (by omega)
end
end Go.Sh
