/- What ClerkHolds leans on: plain facts, its calls read off the statement's own reading, how the list of what is used grows. Conditions: as each says. -/
import Derived.Test.YtknklmemadediaaClerkM
import Derived.Test.YtknklmemadediaaShV
set_option linter.unusedSimpArgs false
set_option linter.unusedVariables false
namespace Go.Proofs.Ytknklmemadediaa
open Go.Sh Go.Proofs.Ytknklmemadediaa.Mi
set_option maxRecDepth 100000
section
variable {w w' : World} {Q : Value → World → Prop} {B c : Nat} {s : CS}
theorem CL.unav (h : CL w B c s) : CL w B c { s with av := none } := by
  obtain ⟨mh, mu, mo, wv, h⟩ := h
  exact ⟨mh, mu, mo, wv, { h with wr := ⟨h.wr.1, fun u hu => by cases hu⟩ }⟩
/-- The list of what is used grows: the clerk stands. -/
theorem CL.grow {v v' : Value} {n n' : Nat} {xs xs' : List Value} {Bu : Nat} (h : CL w B c s) (ha : s.av = v.ownBlock) (ho : Own w Bu 25 3 v n xs) (hg : w.grownBy w' v.ownBlock) (hr : ∀ g, v'.ownBlock = some g → v.ownBlock = some g ∨ siz w ≤ g) (hv' : Own w' Bu 25 3 v' n' xs') : CL w' B c { s with av := v'.ownBlock } := by
  obtain ⟨mh, mu, mo, wv, h⟩ := h
  have k0 : Keep (fun b => v.ownBlock = some b) w w' := (Keep.refl (fun b => v.ownBlock = some b) w).grown hg fun g e => .inl e
  have hav : ∀ u, v'.ownBlock = some u → u < siz w' ∧ wv.ownBlock ≠ some u := fun u hu => ⟨(hv'.lt hu).2, fun e => by
    obtain ⟨_, cs, hc⟩ := h.wr.1.2 u e
    rcases hr u hu with h1 | h1
    · exact (h.wr.2 u (ha.trans h1)).2 e
    · have := blk_lt hc; omega⟩
  cases hv : v.ownBlock with
  | none =>
    have k : K0 w w' := k0.mono fun b _ e => by rw [hv] at e; cases e
    have h' := h.keep0 k
    exact ⟨mh, mu, mo, wv, { h' with wr := ⟨h'.wr.1, hav⟩ }⟩
  | some n =>
    obtain ⟨_, cs, hn⟩ := (ho.trd (Nat.le_refl _)).2 n hv
    have k : Keep (fun b => b = n) w w' := k0.mono fun b _ e => by rw [hv] at e; injection e with e; exact e.symm
    have hw := h.wr.2 n (ha.trans hv)
    exact ⟨mh, mu, mo, wv, { h with b := k.blk h.b (ne_of_ty h.b hn (by decide)), h := im_keepT h.h hn (by decide) (by decide) k, u := im_keepT h.u hn (by decide) (by decide) k, o := im_keepT h.o hn (by decide) (by decide) k, wr := ⟨⟨h.wr.1.1.keep k fun g hg _ e => hw.2 (by rw [hg]; exact congrArg some e), fun g hg => let ⟨h1, cs', hc⟩ := h.wr.1.2 g hg; ⟨h1, cs', k.blk hc fun e => hw.2 (by rw [hg]; exact congrArg some e)⟩⟩, hav⟩ }⟩
/-! ### plain facts -/
/-- What is used is held. -/
structure HI (s : CS) (U : List I3) : Prop where
  u : ∀ x, valB s.lu x = askF U x
  c : ∀ x, needF (askF U x) (valB s.lh x) = none
  m : ∀ x h, valB s.lh x = some h → h = 1 ∨ h = 2
  o : ∀ x v, valB s.lo x = some v → 0 ≤ v
theorem need_ok {a h : Int} (ha : a = 1 ∨ a = 2) (hh : h = 1 ∨ h = 2) : needF (some a) (some h) = none ↔ a ≤ h := by
  rw [needF_some]
  constructor
  · intro e
    by_cases hc : cov h a
    · exact hc.2.2
    · rw [if_neg hc] at e; cases e
  · intro e
    rw [if_pos ⟨by unfold isMd; omega, by unfold isMd; omega, e⟩]
theorem need_iff {A H : Option Int} (hA : ∀ a, A = some a → a = 1 ∨ a = 2) (hH : ∀ h, H = some h → h = 1 ∨ h = 2) : needF A H = none ↔ ∀ a, A = some a → ∃ h, H = some h ∧ a ≤ h := by
  cases A with
  | none => simp [needF]
  | some a =>
    cases H with
    | none => rw [needF_none]; simp
    | some h => rw [need_ok (hA a rfl) (hH h rfl)]; simp
theorem ask_md {U : List I3} {x a : Int} (h : askF U x = some a) : a = 1 ∨ a = 2 := askF_mode h
theorem HI.same {s s' : CS} {U : List I3} (h : HI s U) (e1 : s'.lh = s.lh) (e2 : s'.lu = s.lu) (e3 : ∀ x v, valB s'.lo x = some v → 0 ≤ v) : HI s' U := ⟨fun x => by rw [e2]; exact h.u x, fun x => by rw [e1]; exact h.c x, fun x v hv => h.m x v (by rw [← e1]; exact hv), e3⟩
/-- A grant. -/
theorem HI.raise {s s' : CS} {U L : List I3} (h : HI s U) (e1 : ∀ x, valB s'.lh x = raiseB (valB s.lh) (askF L) x) (e2 : s'.lu = s.lu) (e3 : ∀ x v, valB s'.lo x = some v → 0 ≤ v) : HI s' U := by
  have hm : ∀ x v, valB s'.lh x = some v → v = 1 ∨ v = 2 := fun x v hv => by
    rw [e1] at hv
    unfold raiseB at hv
    cases ha : askF L x with
    | none => rw [ha] at hv; exact h.m x v hv
    | some a =>
      rw [ha] at hv
      have := ask_md ha
      cases hh : valB s.lh x with
      | none => rw [hh] at hv; injection hv with hv; dsimp only at hv; omega
      | some b => rw [hh] at hv; have := h.m x b hh; injection hv with hv; dsimp only at hv; omega
  refine ⟨fun x => by rw [e2]; exact h.u x, fun x => ?_, hm, e3⟩
  rw [need_iff (fun a => ask_md) (hm x)]
  intro a ha
  obtain ⟨b, hb, hab⟩ := (need_iff (fun a => ask_md) (h.m x)).1 (h.c x) a ha
  rw [e1]
  unfold raiseB
  cases hL : askF L x with
  | none => exact ⟨b, hb, hab⟩
  | some a' => rw [hb]; exact ⟨_, rfl, by dsimp only; omega⟩
/-- More is used. -/
theorem HI.use {s s' : CS} {U L : List I3} (h : HI s U) (hL : ∀ x, needF (askF L x) (valB s.lh x) = none) (e1 : ∀ x, valB s'.lu x = raiseB (valB s.lu) (askF L) x) (e2 : s'.lh = s.lh) (e3 : s'.lo = s.lo) : HI s' (U ++ L) := by
  have e : ∀ x, raiseB (valB s.lu) (askF L) x = askF (U ++ L) x := fun x => by
    rw [askF_append]
    unfold raiseB
    rw [h.u x]
  refine ⟨fun x => (e1 x).trans (e x), fun x => ?_, fun x v hv => h.m x v (by rw [← e2]; exact hv), by rw [e3]; exact h.o⟩
  rw [e2, need_iff (fun a => ask_md) (h.m x)]
  intro a ha
  have h1 := (need_iff (fun a => ask_md) (h.m x)).1 (h.c x)
  have h2 := (need_iff (fun a => ask_md) (h.m x)).1 (hL x)
  rw [askF_append] at ha
  unfold raiseB at ha
  cases hb : askF L x with
  | none => rw [hb] at ha; exact h1 a ha
  | some b =>
    rw [hb] at ha
    obtain ⟨v, hv, hbv⟩ := h2 b hb
    refine ⟨v, hv, ?_⟩
    cases hu : askF U x with
    | none => rw [hu] at ha; injection ha with ha; dsimp only at ha; omega
    | some u =>
      rw [hu] at ha; injection ha with ha; dsimp only at ha
      obtain ⟨v', hv', huv⟩ := h1 u hu
      rw [hv] at hv'; injection hv' with hv'
      omega
/-- Used no more. -/
theorem HI.unuse {s s' : CS} {U : List I3} (h : HI s U) (e1 : s'.lu = []) (e2 : s'.lh = s.lh) (e3 : s'.lo = s.lo) : HI s' [] := ⟨fun x => by rw [e1]; rfl, fun x => rfl, fun x v hv => h.m x v (by rw [← e2]; exact hv), by rw [e3]; exact h.o⟩
/-- Given back. -/
theorem HI.give {s s' : CS} {U M : List I3} {l : List (Pt Int)} {e : Int} {j : Nat} (h : HI s U) (hv : ∀ x, valB l x = (chgF (raiseB (valB s.lu) (cutB e (valB s.lw))) (valB s.lh) M).2 x) (hc : Canon l)
    (e1 : ∀ x, valB s'.lh x = overB keepF (valB s.lh) (valB (l.take j)) x) (e2 : s'.lu = s.lu) (e3 : ∀ x v, valB s'.lo x = some v → 0 ≤ v) : HI s' U := by
  have key : ∀ x, valB s'.lh x = valB s.lh x ∨ ∃ m, valB s'.lh x = keepF none m ∧ 0 ≤ m ∧ m < 2 ∧ usesOver (raiseB (valB s.lu) (cutB e (valB s.lw))) m x = false := fun x => by
    rw [e1]
    cases ht : valB (l.take j) x with
    | none => exact .inl (over_none ht)
    | some m =>
      rw [over_some ht]
      obtain ⟨p, hp, h1, rfl⟩ := valB_some ht
      have hl : valB l x = some p.2 := valB_mem hc.apart (List.mem_of_mem_take hp) h1
      rw [hv] at hl
      obtain ⟨_, h2, ⟨b, hb, hlt⟩, h3⟩ := chgF_mem hl
      have := h.m x b hb
      exact .inr ⟨p.2, rfl, h2.1, by omega, h3⟩
  have hm : ∀ x v, valB s'.lh x = some v → v = 1 ∨ v = 2 := fun x v hv => by
    rcases key x with k | ⟨m, k, h0, h2, _⟩
    · exact h.m x v (by rw [← k]; exact hv)
    · rw [hv] at k
      unfold keepF at k
      split at k
      · cases k
      · injection k with k; omega
  refine ⟨fun x => by rw [e2]; exact h.u x, fun x => ?_, hm, e3⟩
  rw [need_iff (fun a => ask_md) (hm x)]
  intro a ha
  rcases key x with k | ⟨m, k, h0, h2, h3⟩
  · rw [k]; exact (need_iff (fun a => ask_md) (h.m x)).1 (h.c x) a ha
  · have ha1 := ask_md ha
    have hle : a ≤ m := by
      unfold usesOver raiseB at h3
      rw [h.u x, ha] at h3
      cases hW : cutB e (valB s.lw) x with
      | none => rw [hW] at h3; simpa using h3
      | some md => rw [hW] at h3; simp at h3; omega
    rw [k]
    unfold keepF
    rw [if_neg (by omega)]
    exact ⟨m, rfl, hle⟩
/-- What is given back is not held. -/
theorem give_not {s s' : CS} {U M : List I3} {l : List (Pt Int)} {e : Int} {j i : Nat} (h : HI s U) (hv : ∀ x, valB l x = (chgF (raiseB (valB s.lu) (cutB e (valB s.lw))) (valB s.lh) M).2 x) (hc : Canon l)
    (e1 : ∀ x, valB s'.lh x = overB keepF (valB s.lh) (valB (l.take j)) x) (hi : i < (l.take j).length) : (0 ≤ (l.take j)[i].2 ∧ (l.take j)[i].2 < 2) ∧ ¬ ∀ x, needF (askF [((l.take j)[i].1.1, (l.take j)[i].1.2, (l.take j)[i].2 + 1)] x) (valB s'.lh x) = none := by
  have hp := List.getElem_mem hi
  generalize (l.take j)[i] = p at hp
  have hpl := List.mem_of_mem_take hp
  have hok := hc.1 p hpl
  have hcj : Canon (l.take j) := ⟨fun q hq => hc.1 q (List.mem_of_mem_take hq), hc.2.sublist (List.take_sublist _ _)⟩
  have hx : hasB p.1 p.1.1 := ⟨hok, Int.le_refl _, hok.2⟩
  have ht : valB (l.take j) p.1.1 = some p.2 := valB_mem hcj.apart hp hx
  have hl : valB l p.1.1 = some p.2 := valB_mem hc.apart hpl hx
  rw [hv] at hl
  obtain ⟨_, h2, ⟨b, hb, hlt⟩, _⟩ := chgF_mem hl
  have hb2 := h.m _ b hb
  refine ⟨⟨h2.1, by omega⟩, fun hall => ?_⟩
  have := hall p.1.1
  rw [ask_one (by omega), val1, if_pos hx, e1, over_some ht] at this
  unfold keepF at this
  by_cases h0 : p.2 = 0
  · rw [if_pos h0, needF_none] at this; cases this
  · rw [if_neg h0] at this
    have := (need_ok (by omega) (by omega)).1 this
    omega
/-- What is owed is held. -/
theorem owed_held {s : CS} {U : List I3} {l : List (Pt Int)} {V : BF} (h : HI s U) (hc : Canon l) (hv : ∀ x, valB l x = owedB V (valB s.lo) (valB s.lh) x) {i : Nat} (hi : i < l.length) : (0 ≤ l[i].2 ∧ l[i].2 < 2) ∧ ∀ x, needF (askF [(l[i].1.1, l[i].1.2, l[i].2 + 1)] x) (valB s.lh x) = none := by
  have hp := List.getElem_mem hi
  generalize l[i] = p at hp
  have key : ∀ x, hasB p.1 x → ∃ b, valB s.lh x = some b ∧ p.2 < b ∧ 0 ≤ p.2 := fun x hx => by
    have hl := valB_mem hc.apart hp hx
    rw [hv] at hl
    unfold owedB at hl
    cases ho : valB s.lo x with
    | none => rw [ho] at hl; cases hl
    | some o =>
      rw [ho] at hl
      cases hb : valB s.lh x with
      | none => rw [hb] at hl; cases hl
      | some b =>
        rw [hb] at hl
        have h0 := h.o x o ho
        have gen : ∀ q : Int, 0 ≤ q → (if q < b then some q else none) = some p.2 → ∃ b', some b = some b' ∧ p.2 < b' ∧ 0 ≤ p.2 := fun q h0 hq => by
          split at hq
          · injection hq with hq; exact ⟨b, rfl, by omega, by omega⟩
          · cases hq
        refine gen _ ?_ hl
        split
        · exact Int.le_trans h0 (Int.le_max_right _ _)
        · exact h0
  have hok := hc.1 p hp
  have hx : hasB p.1 p.1.1 := ⟨hok, Int.le_refl _, hok.2⟩
  obtain ⟨b0, hb0, hlt0, h00⟩ := key _ hx
  have := h.m _ b0 hb0
  refine ⟨⟨h00, by omega⟩, fun x => ?_⟩
  rw [need_iff (fun a => ask_md) (h.m x)]
  intro a ha
  have h1 := askF_is [(p.1.1, p.1.2, p.2 + 1)] x
  rw [ha] at h1
  obtain ⟨⟨k, hk, hon, hka⟩, _⟩ := h1
  simp only [List.mem_singleton] at hk
  subst hk
  obtain ⟨b, hb, hlt, _⟩ := key x hon.2
  exact ⟨b, hb, by have : p.2 + 1 = a := hka; omega⟩
/-! ### a call as it comes in -/
theorem flatten_get {z : Nat} : ∀ {xs : List (List Value)} {i : Nat} (hi : i < xs.length), (∀ x ∈ xs, x.length = z) → ∀ {j : Nat}, j < z → xs.flatten[i * z + j]? = (xs[i])[j]?
  | x :: xs, 0, _, h, j, hj => by
    rw [List.flatten_cons, Nat.zero_mul, Nat.zero_add, List.getElem?_append_left (by rw [h x (by simp)]; exact hj)]
    rfl
  | x :: xs, i + 1, hi, h, j, hj => by
    have e : (i + 1) * z + j - z = i * z + j := by rw [Nat.succ_mul]; omega
    rw [List.flatten_cons, List.getElem?_append_right (by rw [h x (by simp), Nat.succ_mul]; omega), h x (by simp), e]
    exact flatten_get (i := i) (by simpa using hi) (fun y hy => h y (by simp [hy])) hj
abbrev opK : List LW := [.b (.int .i64), .b (.int .i64), .b (.int .u64), .rows [.int .i64, .int .i64, .int .i64], .b (.int .i64), .b (.int .i64), .b (.int .i64), .b (.int .i64), .b (.int .i64), .b (.int .u64), .b (.int .i64), .rows [.int .i64, .int .i64, .int .i64], .b .bool]
/-- A call: its kind, its locks, its message. -/
structure OpV (w : World) where
  kind : Int
  n : Int
  v : Int
  a1 : Option Addr
  c1 : Nat
  L : List I3
  mkd : Int
  mi : Int
  nd : Int
  gn : Int
  st : Int
  ep : Int
  er : Int
  a2 : Option Addr
  c2 : Nat
  M : List I3
  ow : Bool
  r1 : Rd 3 w (.slice a1 L.length c1) L.length (flat enc3 L)
  r2 : Rd 3 w (.slice a2 M.length c2) M.length (flat enc3 M)
  g1 : ∀ s ∈ L, good3 s
  g2 : ∀ s ∈ M, good3 s
def OpV.cells (o : OpV w) : List Value := [.int .i64 o.kind, .int .i64 o.n, .int .u64 o.v, .slice o.a1 o.L.length o.c1, .int .i64 o.mkd, .int .i64 o.mi, .int .i64 o.nd, .int .i64 o.gn, .int .i64 o.st, .int .u64 o.ep, .int .i64 o.er, .slice o.a2 o.M.length o.c2, .bool o.ow]
theorem op_of {cs : List Value} (h : AllOkW w opK cs) : ∃ o : OpV w, cs = o.cells := by
  obtain ⟨v0, cs, rfl, h0, h⟩ := h.cons
  obtain ⟨v1, cs, rfl, h1, h⟩ := h.cons
  obtain ⟨v2, cs, rfl, h2, h⟩ := h.cons
  obtain ⟨v3, cs, rfl, h3, h⟩ := h.cons
  obtain ⟨v4, cs, rfl, h4, h⟩ := h.cons
  obtain ⟨v5, cs, rfl, h5, h⟩ := h.cons
  obtain ⟨v6, cs, rfl, h6, h⟩ := h.cons
  obtain ⟨v7, cs, rfl, h7, h⟩ := h.cons
  obtain ⟨v8, cs, rfl, h8, h⟩ := h.cons
  obtain ⟨v9, cs, rfl, h9, h⟩ := h.cons
  obtain ⟨v10, cs, rfl, h10, h⟩ := h.cons
  obtain ⟨v11, cs, rfl, h11, h⟩ := h.cons
  obtain ⟨v12, cs, rfl, h12, h⟩ := h.cons
  obtain rfl := h.nil
  obtain ⟨x0, rfl, _⟩ := h0
  obtain ⟨x1, rfl, _⟩ := h1
  obtain ⟨x2, rfl, _⟩ := h2
  obtain ⟨a1, l1, c1, L, rfl, rfl, r1, _, g1⟩ := rows3 dec3 rfl h3
  obtain ⟨x4, rfl, _⟩ := h4
  obtain ⟨x5, rfl, _⟩ := h5
  obtain ⟨x6, rfl, _⟩ := h6
  obtain ⟨x7, rfl, _⟩ := h7
  obtain ⟨x8, rfl, _⟩ := h8
  obtain ⟨x9, rfl, _⟩ := h9
  obtain ⟨x10, rfl, _⟩ := h10
  obtain ⟨a2, l2, c2, M, rfl, rfl, r2, _, g2⟩ := rows3 dec3 rfl h11
  obtain ⟨x12, rfl⟩ := h12
  exact ⟨⟨x0, x1, x2, a1, c1, L, x4, x5, x6, x7, x8, x9, x10, a2, c2, M, x12, r1, r2, g1, g2⟩, rfl⟩
theorem op_at {pa : Option Addr} {ca : Nat} {xs : List (List Value)} (h : Rd 13 w (.slice pa xs.length ca) xs.length xs.flatten) (ho : ∀ x ∈ xs, AllOkW w opK x) {i : Nat} (hi : i < xs.length) :
    ∃ b o, pa = some ⟨b, o, none⟩ ∧ ∃ p : OpV w, xs[i] = p.cells ∧ ∀ j, j < 13 → cel w b (o + i * 13 + j) = p.cells[j]? := by
  obtain ⟨b, o, c', e, _, hcel⟩ := h.at (by omega)
  injection e with e1 _ e2
  subst e1 e2
  obtain ⟨p, hp⟩ := op_of (ho _ (List.getElem_mem hi))
  refine ⟨b, o, rfl, p, hp, fun j hj => ?_⟩
  rw [← hp, ← flatten_get hi (fun x hx => (ho x hx).len) hj, Nat.add_assoc]
  exact hcel _ (by have : (i + 1) * 13 ≤ xs.length * 13 := Nat.mul_le_mul_right _ hi; omega)
theorem light_c {v : Value} {xs : List (List Value)} (hL : Rd 13 w v xs.length xs.flatten) (ho : ∀ x ∈ xs, AllOkW w opK x)
    (hq : ∀ w' r, (r = true → xs.length ≤ 100 ∧ ∀ i (hi : i < xs.length) (p : OpV w), xs[i] = p.cells → p.L.length ≤ 20 ∧ p.M.length ≤ 20) → K0 w w' → Q (.bool r) w') :
    callS Try.prog 24 #[v] Q w := by
  refine ref24 ?_
  unfold S24
  obtain ⟨pa, ca, rfl⟩ := hL.form
  refine lpc1 (min xs.length 300) (by omega) (fun i w' => K0 w w' ∧ ∀ j (hj : j < xs.length), j < i → ∀ p : OpV w, xs[j] = p.cells → p.L.length ≤ 20 ∧ p.M.length ≤ 20) ⟨K0.refl _, fun j hj h => by omega⟩ ?_ ?_
  · rintro i w1 hlt ⟨k1, hall⟩ J hJ _j
    have hi : i < xs.length := by omega
    have h1 : (i : Int) < (xs.length : Int) := by omega
    have h2 : (i : Int) < 300 := by omega
    obtain ⟨b, o, rfl, p, hp, hc⟩ := op_at hL ho hi
    have c3 : cel w1 b (o + i * 13 + 3) = some (.slice p.a1 p.L.length p.c1) := k1.cel (hc 3 (by omega)) (by exact fun h => h)
    have c11 : cel w1 b (o + i * 13 + 11) = some (.slice p.a2 p.M.length p.c2) := k1.cel (hc 11 (by omega)) (by exact fun h => h)
    simp only [stp, Nat.reduceAdd, Int.reduceLT, Int.reduceLE, Int.reduceEq, Int.reduceNe, ne_eq, bne_self_eq_false, beq_self_eq_true, h1, h2]
    rw [ix_53 hi]
    simp only [stp, Nat.reduceAdd, Int.reduceLT, Int.reduceLE, Int.reduceEq, Int.reduceNe, ne_eq, bne_self_eq_false, beq_self_eq_true, stm, c3]
    by_cases h20 : (20 : Int) < (p.L.length : Int)
    · simp only [stp, Nat.reduceAdd, Int.reduceLT, Int.reduceLE, Int.reduceEq, Int.reduceNe, ne_eq, bne_self_eq_false, beq_self_eq_true, h20]
      exact hq _ _ (fun e => by cases e) k1
    simp only [stp, Nat.reduceAdd, Int.reduceLT, Int.reduceLE, Int.reduceEq, Int.reduceNe, ne_eq, bne_self_eq_false, beq_self_eq_true, h20]
    rw [ix_53 hi]
    simp only [stp, Nat.reduceAdd, Int.reduceLT, Int.reduceLE, Int.reduceEq, Int.reduceNe, ne_eq, bne_self_eq_false, beq_self_eq_true, stm, c11]
    by_cases h21 : (20 : Int) < (p.M.length : Int)
    · simp only [stp, Nat.reduceAdd, Int.reduceLT, Int.reduceLE, Int.reduceEq, Int.reduceNe, ne_eq, bne_self_eq_false, beq_self_eq_true, h21]
      exact hq _ _ (fun e => by cases e) k1
    simp only [stp, Nat.reduceAdd, Int.reduceLT, Int.reduceLE, Int.reduceEq, Int.reduceNe, ne_eq, bne_self_eq_false, beq_self_eq_true, h21]
    refine hJ _ ⟨k1, fun j hj hji q hq' => ?_⟩
    rcases Nat.lt_succ_iff_lt_or_eq.1 hji with h | rfl
    · exact hall j hj h q hq'
    · have e := hp.symm.trans hq'
      unfold OpV.cells at e
      simp only [List.cons.injEq, Value.slice.injEq, and_true] at e
      omega
  · rintro w1 ⟨k1, hall⟩ J _j
    have fin : Q (.bool (decide ((xs.length : Int) ≤ 100))) w1 := hq _ _ (fun e => by
      have e := of_decide_eq_true e
      exact ⟨by omega, fun i hi p hp => hall i hi (by omega) p hp⟩) k1
    by_cases h1 : xs.length ≤ 300
    · have e : min xs.length 300 = xs.length := Nat.min_eq_left h1
      rw [e]
      have hn : ¬ ((xs.length : Int) < (xs.length : Int)) := by omega
      simp only [stp, Nat.reduceAdd, Int.reduceLT, Int.reduceLE, Int.reduceEq, Int.reduceNe, ne_eq, bne_self_eq_false, beq_self_eq_true, hn]
      exact fin
    · have e : min xs.length 300 = 300 := Nat.min_eq_right (by omega)
      rw [e]
      have hn : (((300 : Nat) : Int) < (xs.length : Int)) := by omega
      have hm : ¬ (((300 : Nat) : Int) < 300) := by omega
      simp only [stp, Nat.reduceAdd, Int.reduceLT, Int.reduceLE, Int.reduceEq, Int.reduceNe, ne_eq, bne_self_eq_false, beq_self_eq_true, hn, hm]
      exact fin
end
end Go.Proofs.Ytknklmemadediaa
