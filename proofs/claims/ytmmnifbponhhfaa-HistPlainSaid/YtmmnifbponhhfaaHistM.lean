/- HistPlain: rows of numbers that came in; rows of images that turn; events beside them. Conditions: as each says. -/
import Derived.Test.YtmmnifbponhhfaaHistL
import Derived.Test.YtmmnifbponhhfaaShV
set_option linter.unusedSimpArgs false
set_option linter.unusedVariables false
namespace Go.Proofs.Ytmmnifbponhhfaa
open Go.Sh Go.Sh.Hi
set_option maxRecDepth 100000
section
variable {w u u' : World} {Q : Value → World → Prop} {L : List Ev} {x v : Value} {e : Ev} {g B : Nat} {d : Nat → ByteArray}
theorem pur_and7 {P : Program} {t : TypeId} {x y : Bool} (a : Int) : ∃ b : Nat, b < 8 ∧ ∀ {k : Value → Prop}, pur P (binS .and t x y (.int .i64 a) (.int .i64 7)) k = k (.int .i64 (b : Int)) := by
  refine ⟨(BitVec.ofInt 64 a &&& BitVec.ofInt 64 7).toNat, ?_, fun {k} => pur_eq fun w => ?_⟩
  · rw [BitVec.toNat_and]
    exact Nat.lt_of_le_of_lt Nat.and_le_right (by decide)
  · have hb : (BitVec.ofInt 64 a &&& BitVec.ofInt 64 7).toNat < 8 := by
      rw [BitVec.toNat_and]
      exact Nat.lt_of_le_of_lt Nat.and_le_right (by decide)
    have e1 : (binS BinOp.and t x y (.int .i64 a) (.int .i64 7)).run P w = .ok (.int .i64 (IntKind.i64.wrap ((BitVec.ofInt 64 a &&& BitVec.ofInt 64 7).toNat : Int))) w := by
      simp [binS, eqG_int, binOp, Op.intBits]
      rfl
    rw [e1, wrap_id (by omega) (by omega)]
abbrev dI (us : List Int) : List Value := us.map (Value.int .i64)
theorem ints_of {w : World} {c : List Value} (h : AllOkW w [.rows [.int .i64]] c) : ∃ (v : Value) (us : List Int), c = [v] ∧ Rd 1 w v us.length (dI us) ∧ us.length ≤ maxLen := by
  obtain ⟨v, vs, rfl, hv, hr⟩ := h.cons
  rw [hr.nil]
  obtain ⟨a, l, cp, xs, rfl, hl, hrd, hm, ho⟩ := hv
  have gen : ∀ xs : List (List Value), (∀ x ∈ xs, AllOk [.int .i64] x) → ∃ us : List Int, us.length = xs.length ∧ xs.flatten = dI us := by
    intro xs
    induction xs with
    | nil => intro _; exact ⟨[], rfl, rfl⟩
    | cons x xs ih =>
      intro h
      obtain ⟨us, h1, h2⟩ := ih fun y hy => h y (by simp [hy])
      have hx := h x (by simp)
      cases x with
      | nil => exact hx.elim
      | cons a r =>
        obtain ⟨⟨n, rfl, _⟩, hr⟩ := hx
        cases r with
        | cons b r => exact hr.elim
        | nil => exact ⟨n :: us, by simp [h1], by simp [h2]⟩
  obtain ⟨us, h1, h2⟩ := gen xs ho
  refine ⟨_, us, rfl, ?_, by omega⟩
  rw [h1, hl, ← h2]; exact hrd
/-- Rows of rows of numbers that came in. -/
theorem mtx {w : World} {pa : Option Addr} {l ca : Nat} {xs : List (List Value)} (hl : xs.length = l) (hL : Rd 1 w (.slice pa l ca) l xs.flatten) (ho : ∀ x ∈ xs, AllOkW w [.rows [.int .i64]] x) {i : Nat} (hi : i < l) :
    ∃ (b o : Nat) (v : Value) (us : List Int), pa = some ⟨b, o, none⟩ ∧ Sh.cel w b (o + i) = some v ∧ Rd 1 w v us.length (dI us) ∧ us.length ≤ maxLen := by
  obtain ⟨b, o, c, e, _, hc⟩ := hL.at (by omega)
  injection e with e1 _ e2
  obtain ⟨v, us, hx, hr, hm⟩ := ints_of (ho _ (List.getElem_mem (show i < xs.length by omega)))
  refine ⟨b, o, v, us, e1, ?_, hr, hm⟩
  have hf : xs.flatten = xs.flatMap id := by simp
  have hh : ∀ x ∈ xs, x.length = 1 := fun x hx => (ho x hx).len
  have gen : ∀ (xs : List (List Value)), (∀ x ∈ xs, x.length = 1) → ∀ i (h : i < xs.length), xs.flatten[i]? = (xs[i])[0]? := by
    intro xs
    induction xs with
    | nil => intro _ i h; simp at h
    | cons y ys ih =>
      intro hy i h
      have hy1 := hy y (by simp)
      rw [List.flatten_cons]
      cases i with
      | zero => rw [List.getElem?_append_left (by omega)]; rfl
      | succ i =>
        rw [List.getElem?_append_right (by omega), hy1]
        exact ih (fun z hz => hy z (by simp [hz])) i (by simpa using h)
  rw [hc i (by omega), gen xs hh i (by omega), hx]; rfl
/-! ### rows of images -/
theorem rlIo {b o : Nat} {i : Im} (h0 : Sh.cel u b o = some (.int .i64 i.1)) (h1 : Sh.cel u b (o + 1) = some (.int .u64 i.2.1)) (h2 : Sh.cel u b (o + 2) = some (.string i.2.2)) : (Instr.loadAt tIm (.pointer (some ⟨b, o, none⟩))).run Try.prog u = .ok (agI i) u :=
  run_loadN (n := 3) (fun w => Try.isAgg29 w) (fun w => Try.sizeOf29 w) (fun j => if j = 0 then .int .i64 i.1 else if j = 1 then .int .u64 i.2.1 else .string i.2.2) fun
    | 0, _ => h0
    | 1, _ => h1
    | 2, _ => h2
    | j + 3, hj => absurd hj (by omega)
/-- An image of a row of one's own. -/
theorem row_at {l : List Im} {c j : Nat} {i : Im} (ho : Sh.Own u B tIm 3 (.slice (some ⟨g, 0, none⟩) l.length c) l.length (flat encM l)) (hj : l[j]? = some i) :
    Sh.cel u g (j * 3) = some (.int .i64 i.1) ∧ Sh.cel u g (j * 3 + 1) = some (.int .u64 i.2.1) ∧ Sh.cel u g (j * 3 + 2) = some (.string i.2.2) := by
  have hlt := (List.getElem?_eq_some_iff.1 hj).1
  obtain ⟨g', c', e, _, _, _, _, _, hc⟩ := ho.at (by omega)
  injection e with e1 _ e2
  injection e1 with e1
  injection e1 with e1
  subst e1
  have := ims_at (b := g) (o := 0) (fun k hk => by rw [Nat.zero_add]; exact hc k hk) hj
  rw [Nat.zero_add] at this
  exact this
theorem row_set {l : List Im} {c j : Nat} {i : Im} {K : Value → World → Prop} (ho : Sh.Own u B tIm 3 (.slice (some ⟨g, 0, none⟩) l.length c) l.length (flat encM l)) (hj : j < l.length)
    (hK : ∀ u', Sh.Own u' B tIm 3 (.slice (some ⟨g, 0, none⟩) l.length c) l.length (flat encM (l.set j i)) → Keep (fun q => q = g) u u' → K undef u') : act Try.prog (thenU (Instr.storeAt tIm (.pointer (some ⟨g, j * 3, none⟩)) (agI i))) K u := by
  obtain ⟨h0, h1, h2⟩ := row_at ho (List.getElem?_eq_getElem hj)
  have hf := ho.fre (g := g) rfl
  rw [st_29 one_int one_int one_str (by rw [h0]; rfl) (by rw [h1]; rfl) (by rw [h2]; rfl) hf]
  refine hK _ (Own.setE encM_len ho hj i) ((Keep.refl (fun q => q = g) u).stoL _ _ (.inl rfl))
/-- One more image. -/
theorem app_im {l : List Im} {i : Im} {v1 : Value} {K : Value → World → Prop} (ho : Sh.Own u B tIm 3 x l.length (flat encM l)) (h1 : Rd 3 u v1 1 (flat encM [i])) (hB : B ≤ siz u) (hl : l.length ≤ 1000)
    (hK : ∀ u' x', Sh.Own u' B tIm 3 x' (l ++ [i]).length (flat encM (l ++ [i])) → Keep (fun q => x.ownBlock = some q) u u' → K x' u') : act Try.prog (Builtin.append_ #[25, 25] 25 #[x, v1]) K u := by
  obtain ⟨g, o, c, rfl, _, hc⟩ := h1.at (by omega)
  refine ap_25 ho (b := g) (o := o) (m := 1) (news := flat encM [i]) rfl hc encM_ones (by omega) hB fun v' w' ho' hg hr => ?_
  exact hK w' v' (by rw [List.length_append, flat_append]; exact ho') (grown_keep hg)
theorem cpy_im {l : List Im} {K : Value → World → Prop} (h : Rd 3 u x l.length (flat encM l)) (hl : l.length ≤ 1000)
    (hK : ∀ u' x', Sh.Own u' (siz u) tIm 3 x' l.length (flat encM l) → K0 u u' → K x' u') : act Try.prog (Builtin.append_ #[25, 25] 25 #[.slice none 0 0, x]) K u := by
  have hn := Sh.Own.nil u (siz u) tIm 3
  by_cases h0 : l.length = 0
  · obtain ⟨pa, ca, rfl⟩ := h.form
    have e : l = [] := List.length_eq_zero_iff.1 h0
    subst e
    rw [show ([] : List Im).length = 0 from rfl, ap0_25 hn]
    exact hK _ _ hn (K0.refl _)
  · obtain ⟨g, o, c, rfl, _, hc⟩ := h.at (by omega)
    refine ap_25 hn (b := g) (o := o) (m := l.length) (news := flat encM l) h.len hc encM_ones (by omega) (Nat.le_refl _) fun v' w' ho hg hr => hK _ _ (by rw [Nat.zero_add] at ho; exact ho) ?_
    exact (grown_keep hg).mono fun q _ e => by cases e
theorem mk_ims {K : Value → World → Prop} (hK : ∀ u' g, K0 u u' → siz u ≤ g → Sh.Own u' (siz u) tIm 3 (.slice (some ⟨g, 0, none⟩) 10 10) 10 (flat encM (List.replicate 10 (0, 0, ⟨#[]⟩))) → K (.slice (some ⟨g, 0, none⟩) 10 10) u') :
    act Try.prog (Instr.makeSlice 25 (.int .i64 10) (.int .i64 10)) K u := by
  obtain ⟨w', hr, ho, hg⟩ := run_makeSlice_full (P := Try.prog) u (siz u) 25 29 Try.t29 (.agg #[.int .i64 0, .int .u64 0, .string ⟨#[]⟩]) 3 Try.underlying25 (by kernel_rfl) rfl rfl .i64 .i64 10 (by decide) (by decide) (by decide) (Nat.le_refl _)
  rw [show (Value.int .i64 10 : Value) = .int .i64 ((10 : Nat) : Int) from rfl, act_eq hr]
  refine hK w' _ ((grown_keep hg).mono fun b _ e => by cases e) (Nat.le_refl _) ?_
  have e1 : (madeCells (Value.agg #[Value.int IntKind.i64 0, Value.int IntKind.u64 0, Value.string ⟨#[]⟩]).cells (10 * 3)).toList = flat encM (List.replicate 10 (0, 0, ⟨#[]⟩)) := by kernel_rfl
  rw [e1] at ho
  exact ho
/-! ### events beside a row that turns -/
structure EvN (w : World) (g : Nat) (e : Ev) : Prop where
  ev : EvR w e
  tr : ∀ q, e.rv.ownBlock = some q → q ≠ g ∧ ∃ cs, Sh.blk w q = some (.cells cs tIm)
  tw : ∀ q, e.wv.ownBlock = some q → q ≠ g ∧ ∃ cs, Sh.blk w q = some (.cells cs tIm)
theorem EvN.keepF {F : Nat → Prop} (h : EvN u g e) (k : Keep F u u') (hF : ∀ q cs, q ≠ g → Sh.blk u q = some (.cells cs tIm) → ¬ F q) : EvN u' g e := by
  refine ⟨{ h.ev with r := h.ev.r.keep k fun q hq _ => ?_, q := h.ev.q.keep k fun q hq _ => ?_ }, fun q hq => ?_, fun q hq => ?_⟩
  · obtain ⟨hn, cs, hc⟩ := h.tr q hq; exact hF q cs hn hc
  · obtain ⟨hn, cs, hc⟩ := h.tw q hq; exact hF q cs hn hc
  · obtain ⟨hn, cs, hc⟩ := h.tr q hq; exact ⟨hn, cs, k.blk hc (hF q cs hn hc)⟩
  · obtain ⟨hn, cs, hc⟩ := h.tw q hq; exact ⟨hn, cs, k.blk hc (hF q cs hn hc)⟩
theorem EvN.keep0 (h : EvN u g e) (k : K0 u u') : EvN u' g e := h.keepF k fun _ _ _ _ => id
theorem EvN.keepG (h : EvN u g e) (k : Keep (fun q => q = g) u u') : EvN u' g e := h.keepF k fun _ _ hn _ => hn
theorem EvN.keepO {n : Nat} {xs : List Value} (h : EvN u g e) (o : Sh.Own u B tEv 6 x n xs) (k : Keep (fun q => x.ownBlock = some q) u u') : EvN u' g e := h.keepF k fun q cs _ hc hq => by
  obtain ⟨_, cs2, h2⟩ := o.ty hq
  rw [hc] at h2; injection h2 with h2; injection h2 with _ h2; exact absurd h2 (by decide)
/-- Events in a row of one's own, and what was written last. -/
structure OS (w u : World) (g : Nat) (L : List Ev) (d : Nat → ByteArray) (x : Value) : Prop where
  k : K0 w u
  p : PlI L d
  o : Sh.Own u (siz w) tEv 6 x L.length (flat encE L)
  t : ∀ e ∈ L, EvN u g e
  r : Sh.Own u (siz w) tIm 3 (.slice (some ⟨g, 0, none⟩) 10 10) 10 (flat encM (ims d))
theorem OS.gB (h : OS w u g L d x) : siz w ≤ g ∧ g < siz u := h.r.lt rfl
theorem OS.k0 (h : OS w u g L d x) (k : K0 u u') : OS w u' g L d x :=
  ⟨h.k.trans k, h.p, h.o.keep k fun _ _ => id, fun e he => (h.t e he).keep0 k, h.r.keep k fun _ _ => id⟩
theorem OS.x_ne (h : OS w u g L d x) : x.ownBlock ≠ some g := fun e => by
  obtain ⟨_, cs, hc⟩ := h.o.ty e
  obtain ⟨_, cs2, h2⟩ := h.r.ty (g := g) rfl
  rw [hc] at h2; injection h2 with h2; injection h2 with _ h2; exact absurd h2 (by decide)
/-- One more event; what was written last has turned. -/
theorem OS.add {d' : Nat → ByteArray} {K : Value → World → Prop} {u1 : World} (h : OS w u g L d x) (k : Keep (fun q => q = g) u u1) (hp : PlI (L ++ [e]) d') (he : EvN u1 g e) (hr : Sh.Own u1 (siz w) tIm 3 (.slice (some ⟨g, 0, none⟩) 10 10) 10 (flat encM (ims d'))) (hl : L.length ≤ 1000)
    (hK : ∀ u' x', OS w u' g (L ++ [e]) d' x' → K x' u') :
    act Try.prog (Instr.buildSlice 24 1 #[(0, agE e)]) (fun t u1 => act Try.prog (Builtin.append_ #[24, 24] 24 #[x, t]) K u1) u1 := by
  refine bld_ev fun u2 v1 k1 r1 => ?_
  have o1 := h.o.keep k fun q hq e => h.x_ne (by rw [← e]; exact hq)
  have o2 := o1.keep k1 fun _ _ => id
  have hg := h.gB
  have kw : K0 w u2 := (h.k.trans' k fun q hq e => by have e : q = g := e; omega).trans k1
  obtain ⟨g1, o, c, rfl, _, hc⟩ := r1.at (by simp)
  refine ap_24 o2 (b := g1) (o := o) (m := 1) (news := flat encE [e]) rfl hc (encE_ones (l := [e]) fun y hy => by rw [List.mem_singleton.1 hy]; exact he.ev) (by omega) kw.size fun v' w' ho hgr hr' => ?_
  have kg := grown_keep hgr
  refine hK w' v' ⟨kw.trans' kg fun q hq e => by have := (h.o.lt e).1; omega, hp, by rw [List.length_append, flat_append]; exact ho, fun y hy => ?_, (hr.keep k1 fun _ _ => id).keep kg fun q hq e => ?_⟩
  · rcases List.mem_append.1 hy with hy | hy
    · exact (((h.t y hy).keepG k).keep0 k1).keepO o2 kg
    · rw [List.mem_singleton.1 hy]; exact (he.keep0 k1).keepO o2 kg
  · have hq : g = q := Option.some.inj hq
    exact h.x_ne (by rw [hq]; exact e)
end
end Go.Proofs.Ytmmnifbponhhfaa
