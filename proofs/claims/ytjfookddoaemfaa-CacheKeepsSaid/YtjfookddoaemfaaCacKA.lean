/- CacheKeeps: what is held, in plain words; rows of images; the statement's calls read off memory. Conditions: as each says. -/
import Derived.Test.YtjfookddoaemfaaCacNone
set_option linter.unusedSimpArgs false
set_option linter.unusedVariables false
namespace Go.Proofs.Ytjfookddoaemfaa
open Go.Sh Go.Sh.Lrv Go.Proofs.Ytjfookddoaemfaa.Lv
set_option maxRecDepth 100000
abbrev Im := Int × Int × ByteArray
def imE (e : En) : Im := (e.1, e.2.1, e.2.2.1)
def encI (x : Im) : List Value := [.int .i64 x.1, .int .u64 x.2.1, .string x.2.2]
theorem encI_len (x : Im) : (encI x).length = 3 := rfl
/-- What is dirty is what is held. -/
def Hd (es : List En) (held : List Im) : Prop := ((dirtyL es).map imE).Perm held
def others (b : Int) (l : List Im) : List Im := l.filter fun x => decide (x.1 ≠ b)
theorem dirtyL_perm {es es' : List En} (p : es.Perm es') : (dirtyL es).Perm (dirtyL es') := p.filter _
theorem dirtyL_cons (x : En) (r : List En) : dirtyL (x :: r) = if x.2.2.2.1 = true then x :: dirtyL r else dirtyL r := by
  unfold dirtyL
  rw [List.filter_cons]
theorem others_none {b : Int} {r : List En} (h : ∀ x ∈ r, x.1 ≠ b) : others b ((dirtyL r).map imE) = (dirtyL r).map imE := List.filter_eq_self.2 fun y hy => by
  obtain ⟨x, hx, rfl⟩ := List.mem_map.1 hy
  have : (imE x).1 ≠ b := h x (List.mem_filter.1 hx).1
  simpa using this
theorem hd_change {room : Nat} {es es' : List En} {b v lsn : Int} {s : ByteArray} {held : List Im} (h : ChangeR room es b v s lsn es' 0) (hh : Hd es held) (hnd : (es.map (·.1)).Nodup) : Hd es' (others b held ++ [(b, v, s)]) := by
  have key : ((dirtyL es').map imE).Perm ((b, v, s) :: others b ((dirtyL es).map imE)) := by
    rcases h with ⟨h, _⟩ | ⟨h, _⟩ | ⟨_, _, ⟨x, r, hp, hx, _, rfl⟩ | ⟨hm, _, rfl⟩ | ⟨hm, _, x, r, hp, hx, rfl⟩⟩
    · omega
    · omega
    · have hr : ∀ y ∈ r, y.1 ≠ b := fun y hy e => by
        have h5 := (hp.map (·.1)).nodup_iff.1 hnd
        rw [List.map_cons, List.nodup_cons] at h5
        exact h5.1 (by rw [hx, ← e]; exact List.mem_map_of_mem (f := (·.1)) hy)
      rw [dirtyL_cons, if_pos rfl, List.map_cons]
      refine List.Perm.cons _ ?_
      have h6 : (others b ((dirtyL es).map imE)).Perm (others b ((dirtyL (x :: r)).map imE)) := ((dirtyL_perm hp).map _).filter _
      refine List.Perm.trans ?_ h6.symm
      rw [dirtyL_cons]
      split
      · rw [List.map_cons]
        unfold others
        rw [List.filter_cons_of_neg (by simp [imE, hx])]
        have := others_none hr
        unfold others at this
        rw [this]
      · rw [others_none hr]
    · rw [dirtyL_cons, if_pos rfl, List.map_cons, others_none hm]
      exact List.Perm.refl _
    · have hr : ∀ y ∈ r, y.1 ≠ b := fun y hy => hm y (hp.mem_iff.2 (List.mem_cons_of_mem _ hy))
      rw [dirtyL_cons, if_pos rfl, List.map_cons, others_none hm]
      have h7 := (dirtyL_perm hp).map imE
      rw [dirtyL_cons, hx, if_neg (by simp)] at h7
      exact List.Perm.cons _ h7.symm
  exact key.trans (((hh.filter _).cons _).trans (List.perm_append_comm (l₁ := [(b, v, s)])))
theorem hd_not {room : Nat} {es es' : List En} {b v lsn code : Int} {s : ByteArray} (h : ChangeR room es b v s lsn es' code) (hc : code ≠ 0) : es' = es := by
  rcases h with ⟨_, h, _⟩ | ⟨_, h, _⟩ | ⟨h, _⟩
  · exact h
  · exact h
  · exact absurd h hc
theorem hd_fill {room : Nat} {es es' : List En} {e : En} {ok : Bool} {held : List Im} (he : e.2.2.2.1 = false) (h : FillR room es e es' ok) (hh : Hd es held) : Hd es' held := by
  rcases h with ⟨_, rfl, _⟩ | ⟨_, _, ⟨_, rfl⟩ | ⟨_, x, r, hp, hx, rfl⟩⟩
  · exact hh
  · unfold Hd
    rw [dirtyL_cons, he]
    exact hh
  · unfold Hd
    rw [dirtyL_cons, he]
    have := (dirtyL_perm hp).map imE
    rw [dirtyL_cons, hx] at this
    exact List.Perm.trans (by simpa using this.symm) hh
theorem hd_drop {es es' : List En} {a b : Int} {held : List Im} (hp : es'.Perm (es.filter fun e => !(dropB a b e))) (hh : Hd es held) : Hd es' held := by
  refine ((dirtyL_perm hp).map imE).trans ?_
  have : dirtyL (es.filter fun e => !(dropB a b e)) = dirtyL es := by
    unfold dirtyL
    rw [List.filter_filter]
    refine List.filter_congr fun x _ => ?_
    unfold dropB
    cases x.2.2.2.1 <;> simp
  rw [this]
  exact hh
section
variable {w w' : World} {Q : Value → World → Prop}
abbrev opK : List Sh.LW := [Sh.LW.b (.int .i64), Sh.LW.b (.int .i64), Sh.LW.b (.int .u64), Sh.LW.b (.int .i64), Sh.LW.b (.int .u64), Sh.LW.b .str, Sh.LW.b (.int .i64), Sh.LW.b (.int .i64)]
structure OpV where
  k : Int
  n : Int
  lsn : Int
  b : Int
  v : Int
  s : ByteArray
  f : Int
  t : Int
def OpV.cells (o : OpV) : List Value := [.int .i64 o.k, .int .i64 o.n, .int .u64 o.lsn, .int .i64 o.b, .int .u64 o.v, .string o.s, .int .i64 o.f, .int .i64 o.t]
theorem op_of {cs : List Value} (h : AllOkW w opK cs) : ∃ o : OpV, cs = o.cells := by
  obtain ⟨v0, cs, rfl, h0, h⟩ := h.cons
  obtain ⟨v1, cs, rfl, h1, h⟩ := h.cons
  obtain ⟨v2, cs, rfl, h2, h⟩ := h.cons
  obtain ⟨v3, cs, rfl, h3, h⟩ := h.cons
  obtain ⟨v4, cs, rfl, h4, h⟩ := h.cons
  obtain ⟨v5, cs, rfl, h5, h⟩ := h.cons
  obtain ⟨v6, cs, rfl, h6, h⟩ := h.cons
  obtain ⟨v7, cs, rfl, h7, h⟩ := h.cons
  obtain rfl := h.nil
  obtain ⟨x0, rfl, _⟩ := h0
  obtain ⟨x1, rfl, _⟩ := h1
  obtain ⟨x2, rfl, _⟩ := h2
  obtain ⟨x3, rfl, _⟩ := h3
  obtain ⟨x4, rfl, _⟩ := h4
  obtain ⟨x5, rfl, _⟩ := h5
  obtain ⟨x6, rfl, _⟩ := h6
  obtain ⟨x7, rfl, _⟩ := h7
  exact ⟨⟨x0, x1, x2, x3, x4, x5, x6, x7⟩, rfl⟩
theorem flatten_get' {k : Nat} : ∀ {xs : List (List Value)} {i j : Nat} (hi : i < xs.length), (∀ x ∈ xs, x.length = k) → j < k → xs.flatten[i * k + j]? = xs[i][j]?
  | x :: xs, 0, j, _, h, hj => by
    rw [Nat.zero_mul, Nat.zero_add, List.flatten_cons, List.getElem?_append_left (by rw [h x (List.mem_cons_self ..)]; exact hj)]; rfl
  | x :: xs, i + 1, j, hi, h, hj => by
    have hx := h x (List.mem_cons_self ..)
    rw [List.flatten_cons, List.getElem?_append_right (by rw [hx, Nat.add_mul]; omega), hx, show (i + 1) * k + j - k = i * k + j by rw [Nat.add_mul]; omega]
    exact flatten_get' (by simpa using hi) (fun y hy => h y (List.mem_cons_of_mem _ hy)) hj
theorem op_at {pa : Option Addr} {ca : Nat} {xs : List (List Value)} (h : Rd 8 w (.slice pa xs.length ca) xs.length xs.flatten) {w0 : World} (ho : ∀ x ∈ xs, AllOkW w0 opK x) {i : Nat} (hi : i < xs.length) :
    ∃ b o, pa = some ⟨b, o, none⟩ ∧ ∃ p : OpV, xs[i] = p.cells ∧ ∀ j, j < 8 → cel w b (o + i * 8 + j) = p.cells[j]? := by
  obtain ⟨b, o, c', e, _, hcel⟩ := h.at (by omega)
  injection e with e1 _ e2
  subst e1 e2
  obtain ⟨p, hp⟩ := op_of (ho _ (List.getElem_mem hi))
  refine ⟨b, o, rfl, p, hp, fun j hj => ?_⟩
  rw [← hp, ← flatten_get' hi (fun x hx => (ho x hx).len) hj, Nat.add_assoc]
  exact hcel _ (by have : (i + 1) * 8 ≤ xs.length * 8 := Nat.mul_le_mul_right _ hi; omega)
theorem ld_op {g o : Nat} {p : OpV} {k : Value → Prop} (h : ∀ j, j < 8 → cel w g (o + j) = p.cells[j]?) : rd Try.prog (Instr.loadAt 43 (.pointer (some ⟨g, o, none⟩))) k w = k (.agg p.cells.toArray) := by
  have c0 : cel w g o = some (.int .i64 p.k) := h 0 (by omega)
  have c1 : cel w g (o + 1) = some (.int .i64 p.n) := h 1 (by omega)
  have c2 : cel w g (o + 2) = some (.int .u64 p.lsn) := h 2 (by omega)
  have c3 : cel w g (o + 3) = some (.int .i64 p.b) := h 3 (by omega)
  have c4 : cel w g (o + 4) = some (.int .u64 p.v) := h 4 (by omega)
  have c5 : cel w g (o + 5) = some (.string p.s) := h 5 (by omega)
  have c6 : cel w g (o + 6) = some (.int .i64 p.f) := h 6 (by omega)
  have c7 : cel w g (o + 7) = some (.int .i64 p.t) := h 7 (by omega)
  rw [ld_43 (by rw [c0]; rfl) (by rw [c1]; rfl) (by rw [c2]; rfl) (by rw [c3]; rfl) (by rw [c4]; rfl) (by rw [c5]; rfl) (by rw [c6]; rfl) (by rw [c7]; rfl), c0, c1, c2, c3, c4, c5, c6, c7]; rfl
abbrev opZ : OpV := ⟨0, 0, 0, 0, 0, ⟨#[]⟩, 0, 0⟩
theorem st_op {t : Nat} {p : OpV} {K : World → Prop} (b4 : blk w t = some (.cells opZ.cells.toArray 43)) (hk : ∀ w', Keep (fun b => b = t) w w' → blk w' t = some (.cells p.cells.toArray 43) → K w') :
    act Try.prog (thenU (Instr.storeAt 43 (.pointer (some ⟨t, 0, none⟩)) (.agg p.cells.toArray))) (fun _ w5 => K w5) w := by
  have y : ∀ j, j < 8 → (cel w t j).isSome = true := fun j hj => by
    rw [cel_b b4 j, List.getElem?_toArray, List.getElem?_eq_getElem (show j < opZ.cells.length from hj)]; rfl
  show act _ (thenU (Instr.storeAt _ _ (.agg #[.int .i64 p.k, .int .i64 p.n, .int .u64 p.lsn, .int .i64 p.b, .int .u64 p.v, .string p.s, .int .i64 p.f, .int .i64 p.t]))) _ _
  rw [st_43 one_int one_int one_int one_int one_int one_str one_int one_int (y 0 (by omega)) (y 1 (by omega)) (y 2 (by omega)) (y 3 (by omega)) (y 4 (by omega)) (y 5 (by omega)) (y 6 (by omega)) (y 7 (by omega)) (fre_b b4)]
  exact hk _ (Keep.stoL _ _ (Keep.refl _ _) (.inl rfl)) (blk_stoL_all (w := w) (b := t) (t := 43) (zs := opZ.cells) (xs := p.cells) rfl b4)
/-- A row of images of one's own. -/
abbrev RowI (w : World) (B : Nat) (v : Value) (l : List Im) : Prop := Sh.Own w B 30 3 v l.length (flat encI l)
theorem RowI.at {B g cap : Nat} {l : List Im} (h : RowI w B (.slice (some ⟨g, 0, none⟩) l.length cap) l) {i : Nat} (hi : i < l.length) : cel w g (i * 3) = some (.int .i64 l[i].1) ∧ cel w g (i * 3 + 1) = some (.int .u64 l[i].2.1) ∧ cel w g (i * 3 + 2) = some (.string l[i].2.2) := by
  obtain ⟨g', c', e, _, _, _, _, _, hcel⟩ := Sh.Own.at h (by omega)
  injection e with e1 _ _
  injection e1 with e1
  injection e1 with e1 _ _
  subst e1
  have hb : (i + 1) * 3 ≤ l.length * 3 := Nat.mul_le_mul_right _ hi
  have key : ∀ j, j < 3 → cel w g (i * 3 + j) = (encI l[i])[j]? := fun j hj => by
    rw [hcel _ (by omega)]
    exact flat_get (enc := encI) encI_len (List.getElem?_eq_getElem hi) hj
  exact ⟨key 0 (by omega), key 1 (by omega), key 2 (by omega)⟩
theorem ld_im {g o : Nat} {x : Im} {k : Value → Prop} (h : cel w g o = some (.int .i64 x.1) ∧ cel w g (o + 1) = some (.int .u64 x.2.1) ∧ cel w g (o + 2) = some (.string x.2.2)) : rd Try.prog (Instr.loadAt 30 (.pointer (some ⟨g, o, none⟩))) k w = k (vI x.1 x.2.1 x.2.2) := by
  obtain ⟨y0, y1, y2⟩ := h
  rw [ld_30 (by rw [y0]; rfl) (by rw [y1]; rfl) (by rw [y2]; rfl), y0, y1, y2]; rfl
end
end Go.Proofs.Ytjfookddoaemfaa
