/- Code: the second reading of blocks, loops, tests and joins, and its soundness. -/
import Derived.Test.YtcekmdpiloegcaaGreatShB
set_option linter.unusedSimpArgs false
set_option linter.unusedVariables false
namespace Go.Sh

def pur (P : Program) (s : Sem Value) (k : Value → Prop) : Prop := ∃ v, (∀ w, s.run P w = .ok v w) ∧ k v
def rd (P : Program) (s : Sem Value) (k : Value → Prop) (w : World) : Prop := ∃ v, s.run P w = .ok v w ∧ k v
def hld (P : Program) (S : World → Prop) (s : Sem Value) (k : Value → Prop) : Prop := ∃ v, (∀ w, S w → s.run P w = .ok v w) ∧ k v
def gd (c : Value) (b : Bool) (m : (Value → World → Prop) → World → Prop) (k : Value → World → Prop) (w : World) : Prop :=
  match c with
  | .bool x => cond (x == b) (m k w) (k undef w)
  | _ => k undef w

def wrH (h : Option (World → Prop)) (k : Value → World → Prop) : Value → World → Prop :=
  match h with
  | none => k
  | some S => fun v w => S w ∧ k v w

def bodyF (P : Program) (h : Option (World → Prop)) (ty : TypeId) (f : Fr) (op : Op) (k : Value → World → Prop) (w : World) : Prop :=
  match op with
  | .move x => k (ev f x) w
  | .assign x => k (ev f x) w
  | op => match clsOf P op with
    | 0 => pur P (execV ty (ev f) op) fun v => k v w
    | 1 => (match h with
      | none => rd P (execV ty (ev f) op) (fun v => k v w) w
      | some S => hld P S (execV ty (ev f) op) fun v => k v w)
    | _ => wrO P ty (ev f) op (wrH h k) w

def gval (ops : List Oper) (f : Fr) (j : Nat) : Value :=
  match (ops[j]?).bind (·.dst) with
  | some d => f d
  | none => undef

def stepF (P : Program) (h : Option (World → Prop)) (ops : List Oper) (o : Oper) (K : Fr → World → Prop) (f : Fr) (w : World) : Prop :=
  match o.guard with
  | none => bodyF P h o.type f o.op (fun v w => K (updO f o.dst v) w) w
  | some (j, b) => gd (gval ops f j) b (bodyF P h o.type f o.op) (fun v w => K (updO f o.dst v) w) w

def lexF (P : Program) (h : Option (World → Prop)) (ops : List Oper) (K : Fr → World → Prop) : List Oper → Fr → World → Prop
  | [], f, w => K f w
  | o :: l, f, w => stepF P h ops o (lexF P h ops K l) f w

def cfh (P : Program) (h : Option (World → Prop)) : Op → Nat :=
  match h with
  | none => clsOf P
  | some _ => fun op => match clsOf P op with
    | 1 => 0
    | c => c

def Sof (h : Option (World → Prop)) : World → Prop :=
  match h with
  | none => fun _ => True
  | some S => S

/-! ### masks of slots -/

def dm : Option Nat → Nat
  | some d => 1 <<< d
  | none => 0
def wOps : List Oper → Nat
  | [] => 0
  | o :: l => dm o.dst ||| wOps l
def wM : Code → Nat
  | .region _ ops _ => wOps ops.toList
  | .seq a b => wM a ||| wM b
  | .cond _ a b => wM a ||| wM b
  | .block _ c => wM c
  | .loop c => wM c
  | _ => 0

/-- f' is f but for the slots of m. -/
def Ag (m : Nat) (f f' : Fr) : Prop := ∀ i, m.testBit i = false → f' i = f i

theorem Ag.refl (m : Nat) (f : Fr) : Ag m f f := fun _ _ => rfl
theorem Ag.left {m m' : Nat} {f f' : Fr} (h : Ag m f f') : Ag (m ||| m') f f' := fun i hi => h i (by
  rw [Nat.testBit_or, Bool.or_eq_false_iff] at hi; exact hi.1)
theorem Ag.right {m m' : Nat} {f f' : Fr} (h : Ag m' f f') : Ag (m ||| m') f f' := fun i hi => h i (by
  rw [Nat.testBit_or, Bool.or_eq_false_iff] at hi; exact hi.2)
theorem Ag.trans {m : Nat} {f f' f'' : Fr} (h : Ag m f f') (h' : Ag m f' f'') : Ag m f f'' := fun i hi => (h' i hi).trans (h i hi)
theorem Ag.updO (f : Fr) (d : Option Nat) (v : Value) : Ag (dm d) f (updO f d v) := fun i hi => by
  cases d with
  | none => rfl
  | some d =>
    have hne : Nat.beq i d = false := by
      cases hb : Nat.beq i d with
      | false => rfl
      | true =>
        have := Nat.eq_of_beq_eq_true hb
        subst this
        simp [dm, Nat.testBit_shiftLeft] at hi
    simp [Sh.updO, upd, hne]

theorem yields_gval {l : List Oper} {n : Nat} {a : Act} {f : Fr} (hr : Rel n a f) (j : Nat) : yielded l.toArray a.tmps j = match gval l f j with | .bool b => some b | _ => none := by
  unfold yielded gval
  simp only [List.getElem?_toArray]
  cases h : (l[j]?).bind (·.dst) with
  | none => simp [undef]
  | some d =>
    have hg := hr.get d
    simp only [Option.bind_some]
    cases ht : a.tmps[d]? with
    | none =>
      rw [Array.getD_eq_getD_getElem?, ht] at hg
      simp only [Option.getD_none] at hg
      rw [← hg]; simp [undef]
    | some x =>
      rw [Array.getD_eq_getD_getElem?, ht] at hg
      simp only [Option.getD_some] at hg
      rw [← hg]
      cases x <;> rfl

theorem bodyF_C {P : Program} {h : Option (World → Prop)} {l : List Oper} {o : Oper} {k : Value → World → Prop} {K : Act → World → Prop} {n : Nat} {a : Act} {f : Fr} {w : World}
    (hr : Rel n a f) (hg : Region.wanted o (yielded l.toArray a.tmps) = true) (hk : ∀ v w, k v w → K (a.put o.dst v) w) (H : bodyF P h o.type f o.op k w) :
    stepC P (Sof h) l.toArray (cfh P h) o K a w := by
  have hc0 : ∀ {c}, clsOf P o.op = c → c ≠ 1 → cfh P h o.op = c := fun {c} hc hn => by
    cases h with
    | none => exact hc
    | some S => simp only [cfh, hc]
  have mv : ∀ (x : Operand), (∀ w, Did P a.eval o (ev f x) w w) → clsOf P o.op = 0 → k (ev f x) w → stepC P (Sof h) l.toArray (cfh P h) o K a w := fun x hd hc hkx => by
    rw [stepC_0 (hc0 hc (by decide))]
    exact ⟨_, .inl ⟨hg, fun w _ => hd w⟩, hk _ _ hkx⟩
  unfold bodyF at H
  split at H
  · rename_i x hx
    exact mv x (fun w => execV_did (by rw [hx]; simp [execV, hr.eval])) (by rw [hx]; rfl) H
  · rename_i x hx
    exact mv x (fun w => execV_did (by rw [hx]; simp [execV, hr.eval])) (by rw [hx]; rfl) H
  · split at H
    · rename_i hc
      obtain ⟨v, hv, hkv⟩ := H
      rw [stepC_0 (hc0 hc (by decide))]
      exact ⟨v, .inl ⟨hg, fun w _ => execV_did (by rw [hr.evalF]; exact hv w)⟩, hk _ _ hkv⟩
    · rename_i hc
      split at H
      · obtain ⟨v, hv, hkv⟩ := H
        rw [stepC_1 (by simpa [cfh] using hc)]
        exact ⟨v, .inl ⟨hg, fun w' hw' => execV_did (by rw [hr.evalF, hw']; exact hv)⟩, hk _ _ hkv⟩
      · rename_i S
        obtain ⟨v, hv, hkv⟩ := H
        rw [stepC_0 (by simp [cfh, hc])]
        exact ⟨v, .inl ⟨hg, fun w' hw' => execV_did (by rw [hr.evalF]; exact hv w' hw')⟩, hk _ _ hkv⟩
    · rename_i hn0 hn1
      have hc2 : ∀ c, c < 2 → cfh P h o.op ≠ c := fun c hc => by
        have h0 : clsOf P o.op ≠ 0 := hn0
        have h1 : clsOf P o.op ≠ 1 := hn1
        cases h with
        | none => simp only [cfh]; omega
        | some S => simp only [cfh]; omega
      rw [stepC_2 hc2, if_pos hg, hr.evalF]
      refine wrO_mono (fun v w' h4 => ?_) H
      cases h with
      | none => exact ⟨trivial, hk _ _ h4⟩
      | some S => exact ⟨h4.1, hk _ _ h4.2⟩

theorem skip_C {P : Program} {h : Option (World → Prop)} {ops : Array Oper} {o : Oper} {K : Act → World → Prop} {a : Act} {w : World}
    (hg : Region.wanted o (yielded ops a.tmps) = false) (hk : K (a.put o.dst undef) w) : stepC P (Sof h) ops (cfh P h) o K a w := by
  rcases cls_cases (cfh P h o.op) with hc | hc | hc
  · rw [stepC_0 hc]; exact ⟨_, .inr ⟨hg, rfl⟩, hk⟩
  · rw [stepC_1 hc]; exact ⟨_, .inr ⟨hg, rfl⟩, hk⟩
  · rw [stepC_2 hc, if_neg (by simp [hg])]; exact hk

theorem stepF_C {P : Program} {h : Option (World → Prop)} {l : List Oper} {o : Oper} {K : Fr → World → Prop} {n : Nat} {a : Act} {f : Fr} {w : World}
    (hr : Rel n a f) (hd : fits n o.dst = true) (H : stepF P h l o K f w) :
    stepC P (Sof h) l.toArray (cfh P h) o (fun a w => ∃ f', Rel n a f' ∧ Ag (dm o.dst) f f' ∧ K f' w) a w := by
  have hk : ∀ v w, K (updO f o.dst v) w → (fun a w => ∃ f', Rel n a f' ∧ Ag (dm o.dst) f f' ∧ K f' w) (a.put o.dst v) w :=
    fun v w hK => ⟨_, hr.put hd v, Ag.updO f o.dst v, hK⟩
  unfold stepF at H
  split at H
  · rename_i hg
    exact bodyF_C hr (by simp [Region.wanted, hg]) hk H
  · rename_i j b hg
    have hy := yields_gval (l := l) hr j
    unfold gd at H
    split at H
    · rename_i x hx
      rw [hx] at hy
      cases hxb : (x == b) with
      | true =>
        rw [hxb] at H
        exact bodyF_C hr (by simp [Region.wanted, hg, hy]; simpa using hxb) hk H
      | false =>
        rw [hxb] at H
        exact skip_C (by simp [Region.wanted, hg, hy]; simpa using hxb) (hk _ _ H)
    · rename_i hn
      have : yielded l.toArray a.tmps j = none := by
        rw [hy]; split
        · rename_i b' hb'; exact absurd hb' (hn b')
        · rfl
      exact skip_C (by simp [Region.wanted, hg, this]) (hk _ _ H)

theorem lexF_C {P : Program} {h : Option (World → Prop)} {l : List Oper} {K : Fr → World → Prop} {n : Nat} : ∀ (r : List Oper) {a : Act} {f : Fr} {w : World},
    Sof h w → Rel n a f → (∀ o ∈ r, fits n o.dst = true) → lexF P h l K r f w →
    lexC P (Sof h) l.toArray (cfh P h) (fun a w => ∃ f', Rel n a f' ∧ Ag (wOps r) f f' ∧ K f' w) r a w
  | [], a, f, w, _, hr, _, H => ⟨f, hr, Ag.refl _ _, H⟩
  | o :: r, a, f, w, hS, hr, hd, H => by
    refine stepC_mono hS (fun a' w' hS' ⟨f', hr', hag, H'⟩ => ?_) (stepF_C hr (hd o (by simp)) H)
    have h1 := lexF_C r hS' hr' (fun o ho => hd o (by simp [ho])) H'
    have mono : ∀ (r' : List Oper) {Q Q' : Act → World → Prop} (_ : ∀ a w, Q a w → Q' a w) {a : Act} {w : World}, Sof h w → lexC P (Sof h) l.toArray (cfh P h) Q r' a w → lexC P (Sof h) l.toArray (cfh P h) Q' r' a w := by
      intro r'
      induction r' with
      | nil => intro Q Q' hq a w _ h; exact hq _ _ h
      | cons o r' ih => intro Q Q' hq a w hS h; exact stepC_mono hS (fun a w hS hK => ih hq hS hK) h
    exact mono r (fun a w ⟨f'', hr'', hag'', hK⟩ => ⟨f'', hr'', Ag.trans (Ag.left hag) (Ag.right hag''), hK⟩) hS' h1

/-! ### regions in which operations that do not commute stand unordered: a tree of the orders that matter -/

/-- What may stand ahead of operation i: all but it and what is bound to stand behind it. -/
def growX (i : Nat) : List Oper → Nat → Nat → Nat
  | [], _, G => G
  | o :: l, j, G => growX i l (j + 1) (cond (!(Nat.beq j i) && pre o G) (G ||| (1 <<< j)) G)
def chkX (ops : Array Oper) (cf : Op → Nat) (i : Nat) (oi : Oper) (m G : Nat) : List Oper → Nat → Bool
  | [], _ => true
  | o :: l, j => (Nat.beq j i || cond (G.testBit j) (m.testBit j || (oi.apart ops o && comm (cf oi.op) (cf o.op))) (!pre o G)) && chkX ops cf i oi m G l (j + 1)
def safeX (ops : Array Oper) (cf : Op → Nat) (l : List Oper) (m : Nat) (p : Nat × Oper) : Bool :=
  let G := growX p.1 l 0 (growX p.1 l 0 m)
  !G.testBit p.1 && Nat.beq (m &&& G) m && chkX ops cf p.1 p.2 m G l 0
def rdyX (m : Nat) : List Oper → Nat → List (Nat × Oper)
  | [], _ => []
  | o :: l, j => cond (!m.testBit j && pre o m) ((j, o) :: rdyX m l (j + 1)) (rdyX m l (j + 1))
def findX (ops : Array Oper) (cf : Op → Nat) (l : List Oper) (m : Nat) : List (Nat × Oper) → Option (Nat × Oper)
  | [] => none
  | p :: r => cond (safeX ops cf l m p) (some p) (findX ops cf l m r)
def allX (F : Nat × Oper → Prop) : List (Nat × Oper) → Prop
  | [] => True
  | [p] => F p
  | p :: q :: r => F p ∧ allX F (q :: r)

def treeF (P : Program) (h : Option (World → Prop)) (l : List Oper) (K : Fr → World → Prop) : Nat → Nat → Fr → World → Prop
  | 0, m, f, w =>
    match rdyX m l 0 with
    | [] => K f w
    | _ => False
  | n + 1, m, f, w =>
    match rdyX m l 0 with
    | [] => K f w
    | p :: r =>
      match findX l.toArray (cfh P h) l m (p :: r) with
      | some q => stepF P h l q.2 (treeF P h l K n (m ||| (1 <<< q.1))) f w
      | none => allX (fun q => stepF P h l q.2 (treeF P h l K n (m ||| (1 <<< q.1))) f w) (p :: r)
/-- How many leaves such a tree has, counted up to some number. -/
def leavesX (cf : Op → Nat) (l : List Oper) : Nat → Nat → Nat → Nat
  | 0, _, acc => acc + 1
  | n + 1, m, acc =>
    match rdyX m l 0 with
    | [] => acc + 1
    | p :: r =>
      match findX l.toArray cf l m (p :: r) with
      | some q => leavesX cf l n (m ||| (1 <<< q.1)) acc
      | none => (p :: r).foldl (fun acc q => cond (Nat.ble acc 400) (leavesX cf l n (m ||| (1 <<< q.1)) acc) acc) acc

def MRel (ops : Array Oper) (arr : Array Bool) (m : Nat) : Prop := arr.size = ops.size ∧ ∀ j d, j < ops.size → arr.getD j d = m.testBit j

theorem MRel.set {ops : Array Oper} {arr : Array Bool} {m i : Nat} (h : MRel ops arr m) (hi : i < ops.size) : MRel ops (arr.setIfInBounds i true) (m ||| (1 <<< i)) := by
  refine ⟨by simp [h.1], fun j d hj => ?_⟩
  have hsh : (1 <<< i : Nat).testBit j = decide (i = j) := by
    rw [Nat.one_shiftLeft, Nat.testBit_two_pow]
  rw [Nat.testBit_or, hsh]
  by_cases hij : i = j
  · subst hij
    have : i < arr.size := by rw [h.1]; exact hi
    simp [this]
  · rw [getD_set_ne d hij, h.2 j d hj]; simp [hij]

theorem MRel.pre {l : List Oper} {arr : Array Bool} {m : Nat} (h : MRel l.toArray arr m) {o : Oper} (hb : pre o m = true) (hlt : ∀ j, l.length ≤ j → m.testBit j = false) : ∀ e ∈ o.after, Region.binds .any e = true → arr.getD e.on false = true := by
  intro e he hbe
  have h1 := List.all_eq_true.1 hb e (by simpa using he)
  rw [hbe] at h1
  simp only [Bool.not_true, Bool.false_or] at h1
  by_cases hj : e.on < l.length
  · rw [h.2 _ _ (by simpa using hj)]; exact h1
  · rw [hlt _ (by omega)] at h1; cases h1

theorem mem_rdyX {m : Nat} : ∀ (l : List Oper) (k : Nat) (j : Nat) (o : Oper), (j, o) ∈ rdyX m l k ↔ k ≤ j ∧ l[j - k]? = some o ∧ m.testBit j = false ∧ pre o m = true
  | [], k, j, o => by simp [rdyX]
  | x :: l, k, j, o => by
    have ih := mem_rdyX (m := m) l (k + 1) j o
    have key : (k + 1 ≤ j ∧ l[j - (k + 1)]? = some o) ∨ (j = k ∧ x = o) ↔ k ≤ j ∧ (x :: l)[j - k]? = some o := by
      constructor
      · rintro (⟨h1, h2⟩ | ⟨h1, h2⟩)
        · refine ⟨by omega, ?_⟩
          rw [show j - k = (j - (k + 1)) + 1 by omega]; simpa using h2
        · subst h1 h2; simp
      · rintro ⟨h1, h2⟩
        by_cases hjk : j = k
        · subst hjk; right; simp at h2; exact ⟨rfl, h2⟩
        · left; refine ⟨by omega, ?_⟩
          rw [show j - k = (j - (k + 1)) + 1 by omega] at h2; simpa using h2
    unfold rdyX
    cases hc : (!m.testBit k && pre x m) with
    | true =>
      simp only [cond, List.mem_cons, Prod.mk.injEq, ih]
      simp only [Bool.and_eq_true, Bool.not_eq_true'] at hc
      constructor
      · rintro (⟨rfl, rfl⟩ | ⟨h1, h2, h3, h4⟩)
        · exact ⟨by omega, by simp, hc.1, hc.2⟩
        · have := key.1 (.inl ⟨h1, h2⟩); exact ⟨this.1, this.2, h3, h4⟩
      · rintro ⟨h1, h2, h3, h4⟩
        rcases key.2 ⟨h1, h2⟩ with h | h
        · exact .inr ⟨h.1, h.2, h3, h4⟩
        · exact .inl ⟨h.1, h.2.symm⟩
    | false =>
      simp only [cond, ih]
      constructor
      · rintro ⟨h1, h2, h3, h4⟩
        have := key.1 (.inl ⟨h1, h2⟩); exact ⟨this.1, this.2, h3, h4⟩
      · rintro ⟨h1, h2, h3, h4⟩
        rcases key.2 ⟨h1, h2⟩ with h | h
        · exact ⟨h.1, h.2, h3, h4⟩
        · obtain ⟨rfl, rfl⟩ := h
          rw [h3, h4] at hc; cases hc

theorem findX_spec {ops : Array Oper} {cf : Op → Nat} {l : List Oper} {m : Nat} {q : Nat × Oper} : ∀ (r : List (Nat × Oper)), findX ops cf l m r = some q → q ∈ r ∧ safeX ops cf l m q = true
  | [], h => by cases h
  | p :: r, h => by
    unfold findX at h
    cases hs : safeX ops cf l m p with
    | true => rw [hs] at h; simp only [cond, Option.some.injEq] at h; subst h; exact ⟨by simp, hs⟩
    | false => rw [hs] at h; have := findX_spec r h; exact ⟨by simp [this.1], this.2⟩

theorem allX_spec {F : Nat × Oper → Prop} : ∀ (r : List (Nat × Oper)), allX F r → ∀ p ∈ r, F p
  | [], _, p, h => by cases h
  | [q], h, p, hp => by simp at hp; subst hp; exact h
  | q :: q' :: r, h, p, hp => by
    rcases List.mem_cons.1 hp with rfl | hp
    · exact h.1
    · exact allX_spec (q' :: r) h.2 p hp

theorem chkX_spec {ops : Array Oper} {cf : Op → Nat} {i : Nat} {oi : Oper} {m G : Nat} : ∀ (l : List Oper) (k : Nat), chkX ops cf i oi m G l k = true → ∀ j o, l[j]? = some o → k + j ≠ i →
    (G.testBit (k + j) = true → m.testBit (k + j) = true ∨ (oi.apart ops o = true ∧ comm (cf oi.op) (cf o.op) = true)) ∧ (G.testBit (k + j) = false → pre o G = false)
  | [], _, _, j, o, h, _ => by simp at h
  | x :: l, k, hc, j, o, h, hne => by
    simp only [chkX, Bool.and_eq_true, Bool.or_eq_true] at hc
    obtain ⟨h1, h2⟩ := hc
    cases j with
    | zero =>
      simp at h; subst h
      rw [Nat.add_zero] at hne ⊢
      rcases h1 with h1 | h1
      · exact absurd (Nat.eq_of_beq_eq_true h1) hne
      refine ⟨fun hg => ?_, fun hg => ?_⟩
      · rw [hg] at h1; simpa using h1
      · rw [hg] at h1; simpa using h1
    | succ j =>
      have := chkX_spec l (k + 1) h2 j o (by simpa using h) (by omega)
      rw [show k + (j + 1) = k + 1 + j by omega]
      exact this

theorem anyC_mono {P : Program} {S : World → Prop} {ops : Array Oper} {cf : Op → Nat} {Q Q' : Act → World → Prop} (hq : ∀ a w, Q a w → Q' a w) : ∀ (fuel : Nat) (arr : Array Bool) (a : Act) (w : World), S w → anyC P S ops cf Q fuel arr a w → anyC P S ops cf Q' fuel arr a w
  | 0, _, _, _, _, h => ⟨h.1, hq _ _ h.2⟩
  | n + 1, _, _, _, hS, h => ⟨fun h0 => hq _ _ (h.1 h0), fun i hi o ho => stepC_mono hS (fun _ _ hS' hK => anyC_mono hq n _ _ _ hS' hK) (h.2 i hi o ho)⟩

theorem dm_wOps {l : List Oper} {j : Nat} {o : Oper} (h : l[j]? = some o) {f f' : Fr} (hag : Ag (dm o.dst) f f') : Ag (wOps l) f f' := by
  induction l generalizing j with
  | nil => simp at h
  | cons x l ih =>
    cases j with
    | zero => simp at h; subst h; exact Ag.left hag
    | succ j => exact Ag.right (ih (by simpa using h))

theorem treeF_any {P : Program} {h : Option (World → Prop)} {l : List Oper} {K : Fr → World → Prop} {n : Nat} (hsel : noSel l = true) (hd : ∀ o ∈ l, fits n o.dst = true) : ∀ (fuel m : Nat) {arr : Array Bool} {a : Act} {f : Fr} {w : World},
    Sof h w → Rel n a f → MRel l.toArray arr m → (∀ j, l.length ≤ j → m.testBit j = false) → treeF P h l K fuel m f w →
    anyC P (Sof h) l.toArray (cfh P h) (fun a w => ∃ f', Rel n a f' ∧ Ag (wOps l) f f' ∧ K f' w) fuel arr a w := by
  have rdy0 : ∀ {m : Nat} {arr : Array Bool}, MRel l.toArray arr m → (∀ j, l.length ≤ j → m.testBit j = false) → ∀ j, j ∈ Region.ready .any l.toArray arr → ∃ o, l[j]? = some o ∧ (j, o) ∈ rdyX m l 0 := by
    intro m arr hM hlt j hj
    obtain ⟨h1, o, ho, h2⟩ := mem_ready.1 hj
    have hjl : j < l.toArray.size := (Array.getElem?_eq_some_iff.1 ho).1
    refine ⟨o, by simpa using ho, (mem_rdyX l 0 j o).2 ⟨by omega, by simpa using ho, by rw [← hM.2 j true hjl]; exact h1, ?_⟩⟩
    unfold pre
    rw [List.all_eq_true]
    intro e he
    cases hb : Region.binds .any e with
    | false => rfl
    | true =>
      have h3 := h2 e (by simpa using he) hb
      by_cases hj : e.on < l.toArray.size
      · rw [hM.2 _ _ hj] at h3; simp [h3]
      · rw [Array.getD_eq_getD_getElem?, Array.getElem?_eq_none (by rw [hM.1]; omega)] at h3; cases h3
  have nil0 : ∀ {m : Nat} {arr : Array Bool}, MRel l.toArray arr m → (∀ j, l.length ≤ j → m.testBit j = false) → rdyX m l 0 = [] → Region.ready .any l.toArray arr = [] := by
    intro m arr hM hlt h0
    cases hr : Region.ready .any l.toArray arr with
    | nil => rfl
    | cons x xs =>
      obtain ⟨o, _, hm⟩ := rdy0 hM hlt x (by rw [hr]; simp)
      rw [h0] at hm; cases hm
  intro fuel
  induction fuel with
  | zero =>
    intro m arr a f w hS hr hM hlt H
    unfold treeF at H
    split at H
    · rename_i h0; exact ⟨nil0 hM hlt h0, f, hr, Ag.refl _ _, H⟩
    · exact H.elim
  | succ k ih =>
    intro m arr a f w hS hr hM hlt H
    unfold treeF at H
    split at H
    · rename_i h0
      refine ⟨fun _ => ⟨f, hr, Ag.refl _ _, H⟩, fun i hi => ?_⟩
      rw [nil0 hM hlt h0] at hi; cases hi
    · rename_i p r h0
      have step : ∀ q : Nat × Oper, l[q.1]? = some q.2 → stepF P h l q.2 (treeF P h l K k (m ||| (1 <<< q.1))) f w →
          stepC P (Sof h) l.toArray (cfh P h) q.2 (anyC P (Sof h) l.toArray (cfh P h) (fun a w => ∃ f', Rel n a f' ∧ Ag (wOps l) f f' ∧ K f' w) k (arr.setIfInBounds q.1 true)) a w := by
        intro q hq hs
        refine stepC_mono hS (fun a' w' hS' ⟨f', hr', hag, H'⟩ => ?_) (stepF_C hr (hd _ (List.mem_of_getElem? hq)) hs)
        have hql : q.1 < l.toArray.size := by have := (List.getElem?_eq_some_iff.1 hq).1; simpa using this
        refine anyC_mono (fun a w ⟨f'', h1, h2, h3⟩ => ⟨f'', h1, Ag.trans (dm_wOps hq hag) h2, h3⟩) _ _ _ _ hS' (ih (m ||| (1 <<< q.1)) hS' hr' (hM.set hql) (fun j hj => ?_) H')
        rw [Nat.testBit_or, hlt j hj, Nat.one_shiftLeft, Nat.testBit_two_pow]
        have : q.1 < l.length := by simpa using hql
        simp; omega
      split at H
      · rename_i q hq
        obtain ⟨hmem, hsafe⟩ := findX_spec _ hq
        rw [← h0] at hmem
        obtain ⟨i, oi⟩ := q
        obtain ⟨_, hqi, hq0, hqp⟩ := (mem_rdyX l 0 i oi).1 hmem
        simp only [Nat.sub_zero] at hqi
        have hil : i < l.toArray.size := by have := (List.getElem?_eq_some_iff.1 hqi).1; simpa using this
        unfold safeX at hsafe
        simp only at hsafe
        generalize growX i l 0 (growX i l 0 m) = G at hsafe
        simp only [Bool.and_eq_true, Bool.not_eq_true'] at hsafe
        obtain ⟨⟨hG1, hG2⟩, hG3⟩ := hsafe
        replace hG2 := Nat.eq_of_beq_eq_true hG2
        have hspec := chkX_spec l 0 hG3
        refine first (i := i) (oi := oi) (G := fun j => G.testBit j) (by simpa using hqi) (noSel_spec hsel) hG1 (fun j oj hoj hji hg => ?_) k arr a w hS (fun j hj => ?_) (fun j oj hoj hji hg hun => ?_) ?_ (step (i, oi) hqi H)
        · have := (hspec j oj (by simpa using hoj) (by omega)).2
          rw [Nat.zero_add] at this
          exact pre_false (this hg)
        · by_cases hjl : j < l.toArray.size
          · rw [hM.2 j false hjl] at hj
            have : (m &&& G).testBit j = true := by rw [hG2]; exact hj
            rw [Nat.testBit_and, Bool.and_eq_true] at this
            exact this.2
          · rw [Array.getD_eq_getD_getElem?, Array.getElem?_eq_none (by rw [hM.1]; omega)] at hj; cases hj
        · have h4 := (hspec j oj (by simpa using hoj) (by omega)).1
          rw [Nat.zero_add] at h4
          rcases h4 hg with h5 | h5
          · rw [hM.2 j true (Array.getElem?_eq_some_iff.1 hoj).1] at hun; rw [hun] at h5; cases h5
          · exact h5
        · exact mem_ready.2 ⟨by rw [hM.2 i true hil]; exact hq0, oi, by simpa using hqi, hM.pre hqp hlt⟩
      · refine ⟨fun hnil => ?_, fun i hi o ho => ?_⟩
        · exfalso
          have hp : p ∈ rdyX m l 0 := by rw [h0]; simp
          obtain ⟨i, oi⟩ := p
          obtain ⟨_, hqi, hq0, hqp⟩ := (mem_rdyX l 0 i oi).1 hp
          simp only [Nat.sub_zero] at hqi
          have hil : i < l.toArray.size := by have := (List.getElem?_eq_some_iff.1 hqi).1; simpa using this
          have : i ∈ Region.ready .any l.toArray arr := mem_ready.2 ⟨by rw [hM.2 i true hil]; exact hq0, oi, by simpa using hqi, hM.pre hqp hlt⟩
          rw [hnil] at this; cases this
        · obtain ⟨o', ho', hm'⟩ := rdy0 hM hlt i hi
          have : o' = o := by have := ho'; have h6 : l[i]? = some o := by simpa using ho
                              rw [this] at h6; exact Option.some.inj h6
          subst this
          rw [h0] at hm'
          exact step (i, o') ho' (allX_spec _ H (i, o') hm')

/-! ### curried continuations -/

def Cur : Nat → Type
  | 0 => World → Prop
  | n + 1 => Value → Cur n
def cur : (n : Nat) → (List Value → World → Prop) → Cur n
  | 0, F => F []
  | n + 1, F => fun v => cur n fun s => F (v :: s)
def app : (n : Nat) → Cur n → List Value → World → Prop
  | 0, c, _ => c
  | n + 1, c, v :: s => app n (c v) s
  | n + 1, c, [] => app n (c undef) []

theorem app_cur : ∀ (n : Nat) (F : List Value → World → Prop) (s : List Value), s.length = n → app n (cur n F) s = F s
  | 0, F, [], _ => rfl
  | n + 1, F, v :: s, h => app_cur n (fun s => F (v :: s)) s (by simpa using h)

def jn (n : Nat) (A : Cur n → Prop) (B : Cur n) : Prop := A B
def lp (n : Nat) (body : Cur n → Cur n) (s₀ : List Value) (w : World) : Prop :=
  ∃ (I : List Value → World → Prop) (μ : List Value → World → Nat), I s₀ w ∧
    ∀ s w, s.length = n → I s w → app n (body (cur n fun s' w' => I s' w' ∧ μ s' w' < μ s w)) s w

def look : List Nat → List Value → Nat → Value → Value
  | l :: ls, v :: vs, i, d => cond (Nat.beq i l) v (look ls vs i d)
  | _, _, _, d => d
def patch (Ls : List Nat) (W : Nat) (s : List Value) (j f : Fr) : Fr := fun i => look Ls s i (cond (W.testBit i) (j i) (f i))
def proj (Ls : List Nat) (f : Fr) : List Value := Ls.map f

theorem look_proj (f : Fr) (i : Nat) (d : Value) (hd : d = f i) : ∀ Ls : List Nat, look Ls (proj Ls f) i d = f i
  | [] => by simpa [look, proj] using hd
  | l :: Ls => by
    simp only [proj, List.map_cons, look]
    cases hb : Nat.beq i l with
    | true => have := Nat.eq_of_beq_eq_true hb; subst this; rfl
    | false => exact look_proj f i d hd Ls

theorem patch_proj {W : Nat} {f f' : Fr} (h : Ag W f f') (Ls : List Nat) : patch Ls W (proj Ls f') f' f = f' := by
  funext i
  refine look_proj f' i _ ?_ Ls
  cases hw : W.testBit i with
  | true => rfl
  | false => exact (h i hw).symm

/-! ### what is read later (any answer is sound) -/

def opM : Operand → Nat
  | .tmp t => 1 <<< t
  | _ => 0
def opsM : List Operand → Nat
  | [] => 0
  | x :: l => opM x ||| opsM l
def liveO (o : Oper) (l : Nat) : Nat := ((l ||| dm o.dst) ^^^ dm o.dst) ||| opsM o.op.operands.toList
def liveOs : List Oper → Nat → Nat
  | [], l => l
  | o :: r, l => liveO o (liveOs r l)
def lookX : List (Nat × Nat) → Nat → Nat
  | [], _ => 0
  | (i, m) :: r, j => cond (Nat.beq i j) m (lookX r j)
def liveC : Code → Nat → List (Nat × Nat) → Nat → Nat
  | .region _ ops _, lo, _, _ => liveOs ops.toList lo
  | .seq a b, lo, ex, rt => liveC a (liveC b lo ex rt) ex rt
  | .cond c a b, lo, ex, rt => opM c ||| (liveC a lo ex rt ||| liveC b lo ex rt)
  | .block id c, lo, ex, rt => liveC c lo ((id, lo) :: ex) rt
  | .loop c, _, ex, rt => liveC c (liveC c (liveC c 0 ex rt) ex rt) ex rt
  | .exit id, _, ex, _ => lookX ex id
  | .ret, _, _, rt => rt
  | _, lo, _, _ => lo
def slots (m : Nat) : List Nat := (List.range (Nat.log2 m + 1)).filter fun i => m.testBit i
/-- How often 'exit id' stands where it can be come to, and the end. -/
def cntX (id : Nat) : Code → Nat
  | .seq a b => cntX id a + cntX id b
  | .cond _ a b => cntX id a + cntX id b
  | .block _ c => cntX id c
  | .loop c => cntX id c
  | .exit i => cond (Nat.beq i id) 1 0
  | _ => 0
def nrm : Code → Nat
  | .seq a b => cond (Nat.beq (nrm a) 0) 0 (nrm b)
  | .cond _ a b => nrm a + nrm b
  | .block id c => nrm c + cntX id c
  | .loop _ => 0
  | .exit _ => 0
  | .ret => 0
  | _ => 1

def condS (v : Value) (A B : Prop) : Prop :=
  match v with
  | .bool true => A
  | .bool false => B
  | _ => False

def hasStore (l : List Oper) : Bool := l.any fun o => match o.op with
  | .store .. => true
  | .mapUpdate .. => true
  | .insert .. => true
  | .entryStore .. => true
  | _ => false
def few (P : Program) (l : List Oper) : Bool := Nat.ble (leavesX (cfh P none) l l.length 0 0) (cond (hasStore l) 120 3)
def rgnT (P : Program) (l : List Oper) (fewB : Bool) (lo : Nat) (K : Fr → World → Prop) (f : Fr) (w : World) : Prop :=
  jn (slots (wOps l &&& lo)).length
    (fun J => cond fewB
      (treeF P none l (fun f' w' => app _ J (proj (slots (wOps l &&& lo)) f') w') l.length 0 f w.drew)
      (∃ S : World → Prop, S w.drew ∧ treeF P (some S) l (fun f' w' => app _ J (proj (slots (wOps l &&& lo)) f') w') l.length 0 f w.drew))
    (cur _ fun s w => ∀ j, K (patch (slots (wOps l &&& lo)) (wOps l) s j f) w)
def rgn (P : Program) (l : List Oper) (draw : Bool) (lo : Nat) (K : Fr → World → Prop) (f : Fr) (w : World) : Prop :=
  cond draw
    (cond (lexOk (cfh P none) l) (lexF P none l K l f w.drew)
      (cond (noSel l && (hasStore l && few P l)) (rgnT P l true lo K f w)
        (cond (lexOk (cfh P (some fun _ => True)) l) (∃ S : World → Prop, S w.drew ∧ lexF P (some S) l K l f w.drew)
          (cond (noSel l) (rgnT P l (few P l) lo K f w) False))))
    (lexF P none l K l f w)

def sem (P : Program) : Code → (sm : Bool) → (lo : Nat) → (ex : List (Nat × Nat)) → (rt : Nat) → (K : Fr → World → Prop) → (X : Nat → Fr → World → Prop) → (R : Fr → World → Prop) → Fr → World → Prop
  | .skip, _, _, _, _, K, _, _, f, w => K f w
  | .region _ ops draw, _, lo, _, _, K, _, _, f, w => rgn P ops.toList draw lo K f w
  | .seq a b, sm, lo, ex, rt, K, X, R, f, w =>
    cond (Nat.ble (nrm a) 1)
      (sem P a false (liveC b lo ex rt) ex rt (fun f w => sem P b sm lo ex rt K X R f w) X R f w)
      (jn (slots (wM a &&& liveC b lo ex rt)).length
        (fun J => sem P a true (liveC b lo ex rt) ex rt (fun f' w' => app _ J (proj (slots (wM a &&& liveC b lo ex rt)) f') w') X R f w)
        (cur _ fun s w => ∀ j, sem P b sm lo ex rt K X R (patch (slots (wM a &&& liveC b lo ex rt)) (wM a) s j f) w))
  | .cond c a b, sm, lo, ex, rt, K, X, R, f, w => condS (ev f c) (sem P a sm lo ex rt K X R f w) (sem P b sm lo ex rt K X R f w)
  | .block id c, sm, lo, ex, rt, K, X, R, f, w =>
    cond (sm || Nat.ble (nrm c + cntX id c) 1)
      (sem P c sm lo ((id, lo) :: ex) rt K (fun i => cond (Nat.beq i id) K (X i)) R f w)
      (jn (slots (wM c &&& lo)).length
        (fun J => sem P c true lo ((id, lo) :: ex) rt (fun f' w' => app _ J (proj (slots (wM c &&& lo)) f') w')
          (fun i => cond (Nat.beq i id) (fun f' w' => app _ J (proj (slots (wM c &&& lo)) f') w') (X i)) R f w)
        (cur _ fun s w => ∀ j, K (patch (slots (wM c &&& lo)) (wM c) s j f) w))
  | .loop c, _, _, ex, rt, _, X, R, f, w =>
    lp (slots (wM c &&& liveC (.loop c) 0 ex rt)).length
      (fun J => cur _ fun s w => ∀ j, sem P c true (liveC (.loop c) 0 ex rt) ex rt (fun f' w' => app _ J (proj (slots (wM c &&& liveC (.loop c) 0 ex rt)) f') w') X R
        (patch (slots (wM c &&& liveC (.loop c) 0 ex rt)) (wM c) s j f) w)
      (proj (slots (wM c &&& liveC (.loop c) 0 ex rt)) f) w
  | .exit id, _, _, _, _, _, X, _, f, w => X id f w
  | .ret, _, _, _, _, _, _, R, f, w => R f w
  | _, _, _, _, _, _, _, _, _, _ => False

def fitsC (n : Nat) : Code → Bool
  | .region _ ops _ => ops.toList.all fun o => fits n o.dst
  | .seq a b => fitsC n a && fitsC n b
  | .cond _ a b => fitsC n a && fitsC n b
  | .block _ c => fitsC n c
  | .loop c => fitsC n c
  | _ => true

def Post (n m : Nat) (f : Fr) (K : Fr → World → Prop) (X : Nat → Fr → World → Prop) (R : Fr → World → Prop) : Exit → Act → World → Prop
  | .normal, a, w => ∃ f', Rel n a f' ∧ Ag m f f' ∧ K f' w
  | .exit i, a, w => ∃ f', Rel n a f' ∧ Ag m f f' ∧ X i f' w
  | .ret, a, w => ∃ f', Rel n a f' ∧ R f' w
  | _, _, _ => False

theorem Post.mono {n m m' : Nat} {f f₀ : Fr} {K K' : Fr → World → Prop} {X X' : Nat → Fr → World → Prop} {R : Fr → World → Prop} (hm : ∀ f', Ag m f f' → Ag m' f₀ f') (hK : ∀ f' w, Ag m f f' → K f' w → K' f' w) (hX : ∀ i f' w, Ag m f f' → X i f' w → X' i f' w)
    {e : Exit} {a : Act} {w : World} (h : Post n m f K X R e a w) : Post n m' f₀ K' X' R e a w := by
  cases e with
  | normal => obtain ⟨f', h1, h2, h3⟩ := h; exact ⟨f', h1, hm _ h2, hK _ _ h2 h3⟩
  | exit i => obtain ⟨f', h1, h2, h3⟩ := h; exact ⟨f', h1, hm _ h2, hX _ _ _ h2 h3⟩
  | ret => exact h
  | goto l => exact h.elim
  | panic c => exact h.elim
  | outgrown => exact h.elim

theorem rgnT_sound {P : Program} (hmix : P.follows .mixedOrders = true) {id lo : Nat} {l : List Oper} {fewB : Bool} {K : Fr → World → Prop} {X : Nat → Fr → World → Prop} {R : Fr → World → Prop} {n : Nat} {a : Act} {f : Fr} {w : World}
    (hd' : ∀ o ∈ l, fits n o.dst = true) (hr : Rel n a f) (h3 : noSel l = true) (H : rgnT P l fewB lo K f w) : (Code.region id l.toArray true).wp P (Post n (wOps l) f K X R) a w := by
  unfold rgnT at H
  simp only [jn] at H
  have M0 : MRel l.toArray (Array.replicate l.toArray.size false) 0 := ⟨by simp, fun j d hj => by simp at hj; simp [hj]⟩
  have fin : ∀ (h : Option (World → Prop)), Sof h w.drew → treeF P h l (fun f' w' => app (slots (wOps l &&& lo)).length (cur (slots (wOps l &&& lo)).length fun s w => ∀ j, K (patch (slots (wOps l &&& lo)) (wOps l) s j f) w) (proj (slots (wOps l &&& lo)) f') w') l.length 0 f w.drew →
      (Code.region id l.toArray true).wp P (Post n (wOps l) f K X R) a w := by
    intro h hS H
    refine wp_region_any hmix (anyC_wp (S := Sof h) (cf := cfh P h) (Q := fun a w => Post n (wOps l) f K X R .normal a w) (fun _ _ _ h => h) _ _ _ _ hS ?_)
    have := treeF_any h3 hd' l.length 0 hS ((⟨hr.size, hr.defers, hr.get⟩ : Rel n a f)) M0 (fun j _ => by simp) H
    simp only [List.size_toArray] at this ⊢
    refine anyC_mono (fun a w ⟨f', h1, h2, h3⟩ => ⟨f', h1, h2, ?_⟩) _ _ _ _ hS this
    rw [app_cur _ _ _ (by simp [proj])] at h3
    have h4 := h3 f'
    rw [patch_proj h2] at h4
    exact h4
  cases fewB with
  | true => exact fin none trivial H
  | false => obtain ⟨S, hS, H⟩ := H; exact fin (some S) hS H

theorem rgn_sound {P : Program} (hmix : P.follows .mixedOrders = true) {id lo : Nat} {l : List Oper} {draw : Bool} {K : Fr → World → Prop} {X : Nat → Fr → World → Prop} {R : Fr → World → Prop} {n : Nat} {a : Act} {f : Fr} {w : World}
    (hd : (l.all fun o => fits n o.dst) = true) (hr : Rel n a f) (H : rgn P l draw lo K f w) : (Code.region id l.toArray draw).wp P (Post n (wOps l) f K X R) a w := by
  have hd' : ∀ o ∈ l, fits n o.dst = true := fun o ho => List.all_eq_true.1 hd o ho
  unfold rgn at H
  cases draw with
  | false => exact region_text (cf := cfh P none) (lexF_C (h := none) l trivial hr hd' H)
  | true =>
    simp only [cond] at H
    cases h1 : lexOk (cfh P none) l with
    | true =>
      rw [h1] at H
      exact region_draw (S := fun _ => True) (cf := cfh P none) hmix h1 trivial (lexF_C (h := none) l trivial hr hd' H)
    | false =>
      rw [h1] at H
      cases h0 : (noSel l && (hasStore l && few P l)) with
      | true =>
        rw [h0] at H
        simp only [Bool.and_eq_true] at h0
        exact rgnT_sound hmix hd' hr h0.1 H
      | false =>
        rw [h0] at H
        cases h2 : lexOk (cfh P (some fun _ => True)) l with
        | true =>
          rw [h2] at H
          obtain ⟨S, hS, H⟩ := H
          exact region_draw (S := S) (cf := cfh P (some S)) hmix h2 hS (lexF_C (h := some S) l hS hr hd' H)
        | false =>
          rw [h2] at H
          cases h3 : noSel l with
          | false => rw [h3] at H; exact H.elim
          | true => rw [h3] at H; exact rgnT_sound hmix hd' hr h3 H

theorem sem_sound {P : Program} (hmix : P.follows .mixedOrders = true) {n : Nat} : ∀ (c : Code) (sm : Bool) (lo : Nat) (ex : List (Nat × Nat)) (rt : Nat) (K : Fr → World → Prop) (X : Nat → Fr → World → Prop) (R : Fr → World → Prop) (a : Act) (f : Fr) (w : World),
    fitsC n c = true → Rel n a f → sem P c sm lo ex rt K X R f w → c.wp P (Post n (wM c) f K X R) a w := by
  intro c
  induction c with
  | skip => intro sm lo ex rt K X R a f w _ hr H; exact wp_skip ⟨f, hr, Ag.refl _ _, H⟩
  | region id ops draw =>
    intro sm lo ex rt K X R a f w hf hr H
    obtain ⟨l⟩ := ops
    exact rgn_sound hmix (by simpa [fitsC] using hf) hr H
  | seq x y ihx ihy =>
    intro sm lo ex rt K X R a f w hf hr H
    simp only [fitsC, Bool.and_eq_true] at hf
    refine wp_seq ?_
    have fin : ∀ (a : Act) (f' : Fr) (w : World), Ag (wM x) f f' → Rel n a f' → sem P y sm lo ex rt K X R f' w → y.wp P (Post n (wM (.seq x y)) f K X R) a w := fun a f' w hag hr' H' =>
      Code.wp_mono (fun e a w h => Post.mono (fun f'' h'' => Ag.trans (Ag.left hag) (Ag.right h'')) (fun _ _ _ h => h) (fun _ _ _ _ h => h) h) (ihy sm lo ex rt K X R a f' w hf.2 hr' H')
    simp only [sem] at H
    cases hn : Nat.ble (nrm x) 1 with
    | true =>
      rw [hn] at H
      refine Code.wp_mono (fun e a w h => ?_) (ihx _ _ _ _ _ _ _ a f w hf.1 hr H)
      cases e with
      | normal => obtain ⟨f', h1, h2, h3⟩ := h; exact fin a f' w h2 h1 h3
      | exit i => obtain ⟨f', h1, h2, h3⟩ := h; exact ⟨f', h1, Ag.left h2, h3⟩
      | ret => exact h
      | goto l => exact h.elim
      | panic c => exact h.elim
      | outgrown => exact h.elim
    | false =>
      rw [hn] at H
      simp only [cond, jn] at H
      refine Code.wp_mono (fun e a w h => ?_) (ihx _ _ _ _ _ _ _ a f w hf.1 hr H)
      cases e with
      | normal =>
        obtain ⟨f', h1, h2, h3⟩ := h
        rw [app_cur _ _ _ (by simp [proj])] at h3
        have h4 := h3 f'
        rw [patch_proj h2] at h4
        exact fin a f' w h2 h1 h4
      | exit i => obtain ⟨f', h1, h2, h3⟩ := h; exact ⟨f', h1, Ag.left h2, h3⟩
      | ret => exact h
      | goto l => exact h.elim
      | panic c => exact h.elim
      | outgrown => exact h.elim
  | cond c x y ihx ihy =>
    intro sm lo ex rt K X R a f w hf hr H
    simp only [fitsC, Bool.and_eq_true] at hf
    simp only [sem, condS] at H
    split at H
    · rename_i hc
      exact wp_cond_true (by rw [hr.eval]; exact hc) (Code.wp_mono (fun e a w h => Post.mono (fun _ h => Ag.left h) (fun _ _ _ h => h) (fun _ _ _ _ h => h) h) (ihx sm lo ex rt K X R a f w hf.1 hr H))
    · rename_i hc
      exact wp_cond_false (by rw [hr.eval]; exact hc) (Code.wp_mono (fun e a w h => Post.mono (fun _ h => Ag.right h) (fun _ _ _ h => h) (fun _ _ _ _ h => h) h) (ihy sm lo ex rt K X R a f w hf.2 hr H))
    · exact H.elim
  | block id c ih =>
    intro sm lo ex rt K X R a f w hf hr H
    simp only [fitsC] at hf
    refine wp_block ?_
    have fin : ∀ (K' : Fr → World → Prop), (∀ f' w, Ag (wM c) f f' → K' f' w → K f' w) → ∀ e a w, Post n (wM c) f K' (fun i => cond (Nat.beq i id) K' (X i)) R e a w → Exit.inBlock id (Post n (wM (.block id c)) f K X R) e a w := by
      intro K' hK' e a w h
      cases e with
      | normal => obtain ⟨f', h1, h2, h3⟩ := h; exact ⟨f', h1, h2, hK' _ _ h2 h3⟩
      | exit i =>
        obtain ⟨f', h1, h2, h3⟩ := h
        simp only [Exit.inBlock]
        by_cases hi : i = id
        · subst hi
          rw [if_pos rfl]
          rw [show Nat.beq i i = true from Nat.beq_refl i] at h3
          exact ⟨f', h1, h2, hK' _ _ h2 h3⟩
        · rw [if_neg hi]
          have hb : Nat.beq i id = false := by
            cases hb : Nat.beq i id with
            | false => rfl
            | true => exact absurd (Nat.eq_of_beq_eq_true hb) hi
          rw [hb] at h3
          exact ⟨f', h1, h2, h3⟩
      | ret => exact h
      | goto l => exact h.elim
      | panic c => exact h.elim
      | outgrown => exact h.elim
    simp only [sem] at H
    cases hn : (sm || Nat.ble (nrm c + cntX id c) 1) with
    | true =>
      rw [hn] at H
      exact Code.wp_mono (fin K fun _ _ _ h => h) (ih _ _ _ _ _ _ _ a f w hf hr H)
    | false =>
      rw [hn] at H
      simp only [cond_false, jn] at H
      refine Code.wp_mono (fin _ fun f' w h2 h3 => ?_) (ih _ _ _ _ _ _ _ a f w hf hr H)
      rw [app_cur _ _ _ (by simp [proj])] at h3
      have h4 := h3 f'
      rw [patch_proj h2] at h4
      exact h4
  | loop c ih =>
    intro sm lo ex rt K X R a f w hf hr H
    simp only [fitsC] at hf
    simp only [sem] at H
    generalize slots (wM c &&& liveC (.loop c) 0 ex rt) = Ls at H
    generalize liveC (.loop c) 0 ex rt = lv at H
    obtain ⟨I, μ, h0, round⟩ := H
    refine wp_loop (fun a w => ∃ f', Rel n a f' ∧ Ag (wM c) f f' ∧ I (proj Ls f') w) (fun a w => μ (Ls.map fun i => a.tmps.getD i undef) w) ⟨f, hr, Ag.refl _ _, h0⟩ ?_
    rintro a w ⟨f', hr', hag, hI⟩
    have h1 := round (proj Ls f') w (by simp [proj]) hI
    rw [app_cur _ _ _ (by simp [proj])] at h1
    have h2 := h1 f'
    rw [patch_proj hag] at h2
    have hμ : ∀ {a : Act} {f'' : Fr}, Rel n a f'' → (Ls.map fun i => a.tmps.getD i undef) = proj Ls f'' := fun {a f''} h => by
      simp only [proj]; exact List.map_congr_left fun i _ => h.get i
    refine Code.wp_mono (fun e a' w' h => ?_) (ih _ _ _ _ _ _ _ a f' w hf hr' h2)
    cases e with
    | normal =>
      obtain ⟨f'', h3, h4, h5⟩ := h
      rw [app_cur _ _ _ (by simp [proj])] at h5
      exact ⟨⟨f'', h3, Ag.trans hag h4, h5.1⟩, by rw [hμ h3, hμ hr']; exact h5.2⟩
    | exit i => obtain ⟨f'', h3, h4, h5⟩ := h; exact ⟨f'', h3, Ag.trans hag h4, h5⟩
    | ret => exact h
    | goto l => exact h.elim
    | panic c => exact h.elim
    | outgrown => exact h.elim
  | exit id => intro sm lo ex rt K X R a f w _ hr H; exact wp_exit ⟨f, hr, Ag.refl _ _, H⟩
  | ret => intro sm lo ex rt K X R a f w _ hr H; exact wp_ret ⟨f, hr, H⟩
  | rangeFunc => intro sm lo ex rt K X R a f w _ hr H; exact H.elim
  | scope => intro sm lo ex rt K X R a f w _ hr H; exact H.elim
  | label => intro sm lo ex rt K X R a f w _ hr H; exact H.elim
  | goto => intro sm lo ex rt K X R a f w _ hr H; exact H.elim
  | refuse => intro sm lo ex rt K X R a f w _ hr H; exact H.elim

/-! ### A function -/

def getL : List Value → Nat → Value
  | [], _ => undef
  | v :: _, 0 => v
  | _ :: l, i + 1 => getL l i
/-- A result that lies in a cell. -/
def resL (t : TypeId) (x : Value) : Sem Value := do loadVar t (← asAddr x)
def resQ (Q : Value → World → Prop) : List Value → World → Prop
  | [v], w => Q v w
  | l, w => Q (.tuple l.toArray) w
def resK (P : Program) (f : Fr) (Q : Value → World → Prop) : List ResultVar → List Value → World → Prop
  | [], acc, w => resQ Q acc w
  | .tmp t :: l, acc, w => resK P f Q l (acc ++ [f t]) w
  | .cell a t :: l, acc, w => rd P (resL t (f a)) (fun v => resK P f Q l (acc ++ [v]) w) w
def resS (P : Program) (rs : List ResultVar) (f : Fr) (Q : Value → World → Prop) (w : World) : Prop := resK P f Q rs [] w
def resM : List ResultVar → Nat
  | [] => 0
  | .tmp t :: l => (1 <<< t) ||| resM l
  | .cell a _ :: l => (1 <<< a) ||| resM l

def semF (P : Program) (g : FuncId) (args : List Value) (Q : Value → World → Prop) (w : World) : Prop :=
  match P.funcs[g]? with
  | none => False
  | some fn => match fn.body with
    | none => False
    | some c => sem P c true (resM fn.results.toList) [] (resM fn.results.toList) (fun f w => resS P fn.results.toList f Q w) (fun _ _ _ => False) (fun f w => resS P fn.results.toList f Q w) (getL args) w
def okF (P : Program) (g : FuncId) (k : Nat) : Bool :=
  match P.funcs[g]? with
  | none => false
  | some fn => match fn.body with
    | none => false
    | some c => fitsC fn.ntmps c && Nat.ble k fn.ntmps

theorem getL_eq (l : List Value) (m i : Nat) : (l.toArray ++ Array.replicate m undef).getD i undef = getL l i := by
  rw [Array.getD_eq_getD_getElem?, ← Array.getElem?_toList, Array.toList_append, Array.toList_replicate]
  simp only
  induction l generalizing i with
  | nil =>
    simp only [getL, List.nil_append]
    by_cases h : i < m
    · rw [List.getElem?_replicate, if_pos h]; rfl
    · rw [List.getElem?_replicate, if_neg h]; rfl
  | cons v l ih =>
    cases i with
    | zero => rfl
    | succ i => rw [getL, ← ih i]; rfl

theorem resK_run {P : Program} {a : Act} {f : Fr} {n : Nat} {Q : Value → World → Prop} {w : World} (hr : Rel n a f) : ∀ (l : List ResultVar) (acc : List Value), resK P f Q l acc w →
    ∃ vs, (l.mapM (m := Sem) fun
      | .tmp t => pure (a.tmps.getD t undef)
      | .cell b t => do loadVar t (← asAddr (a.tmps.getD b undef))).run P w = .ok vs w ∧ resQ Q (acc ++ vs) w
  | [], acc, h => ⟨[], by simp, by rw [List.append_nil]; exact h⟩
  | .tmp t :: l, acc, h => by
    obtain ⟨vs, h1, h2⟩ := resK_run hr l _ h
    refine ⟨f t :: vs, ?_, by simpa using h2⟩
    rw [List.mapM_cons, Sem.run_bind, Sem.run_pure, Result.andThen_ok, Sem.run_bind, h1, Result.andThen_ok, Sem.run_pure, hr.get]
  | .cell b t :: l, acc, h => by
    obtain ⟨v, h0, h⟩ := h
    obtain ⟨vs, h1, h2⟩ := resK_run hr l _ h
    refine ⟨v :: vs, ?_, by simpa using h2⟩
    unfold resL at h0
    rw [List.mapM_cons, Sem.run_bind]
    simp only
    rw [hr.get, h0, Result.andThen_ok, Sem.run_bind, h1, Result.andThen_ok, Sem.run_pure]
theorem results_run {P : Program} {fn : Func} {a : Act} {f : Fr} {n : Nat} {Q : Value → World → Prop} {w : World} (hr : Rel n a f) (h : resS P fn.results.toList f Q w) : ∃ v, (results fn a.tmps).run P w = .ok v w ∧ Q v w := by
  obtain ⟨vs, h1, h2⟩ := resK_run hr fn.results.toList [] h
  refine ⟨if h : vs.toArray.size = 1 then vs.toArray[0] else .tuple vs.toArray, ?_, ?_⟩
  · unfold results
    rw [← Array.toArray_toList (xs := fn.results), List.mapM_toArray, Sem.run_bind]
    change ((Sem.run P (List.mapM _ fn.results.toList >>= fun l => pure (List.toArray l)) w).andThen _) = _
    rw [Sem.run_bind]
    generalize hX : Sem.run P (List.mapM _ fn.results.toList) w = X
    have hX' : X = .ok vs w := by rw [← hX]; exact h1
    rw [hX']
    rfl
  · rw [List.nil_append] at h2
    unfold resQ at h2
    split at h2
    · simpa using h2
    · rename_i hn
      rw [dif_neg]
      · exact h2
      · intro h1
        match vs, h1 with
        | [v], _ => exact hn v rfl

theorem callS_of {P : Program} (hmix : P.follows .mixedOrders = true) {g : FuncId} {args : List Value} {Q : Value → World → Prop} {w : World} (hE : Enters P g) (hok : okF P g args.length = true) (H : semF P g args Q w) : callS P g args.toArray Q w := by
  refine ⟨hE, ?_⟩
  unfold semF at H
  unfold okF at hok
  cases hf : P.funcs[g]? with
  | none => rw [hf] at H; exact H.elim
  | some fn =>
    rw [hf] at H hok
    simp only at H hok
    cases hb : fn.body with
    | none => rw [hb] at H; exact H.elim
    | some c =>
      rw [hb] at H hok
      simp only [Bool.and_eq_true] at H hok
      have hlen := Nat.le_of_ble_eq_true hok.2
      refine calls_of_wp hf hb (Code.wp_mono (fun e a w h => ?_) (sem_sound hmix c _ _ _ _ _ _ _ { tmps := args.toArray ++ Array.replicate (fn.ntmps - args.toArray.size) undef, defers := [] } (getL args) w hok.1 ⟨by simp; omega, rfl, fun i => getL_eq _ _ _⟩ H))
      cases e with
      | normal =>
        obtain ⟨f', h1, h2, h3⟩ := h
        obtain ⟨v, hv, hQ⟩ := results_run (P := P) h1 h3
        exact ⟨h1.defers, v, hv, v, rfl, hQ⟩
      | exit i => obtain ⟨f', h1, h2, h3⟩ := h; exact h3.elim
      | ret =>
        obtain ⟨f', h1, h3⟩ := h
        obtain ⟨v, hv, hQ⟩ := results_run (P := P) h1 h3
        exact ⟨h1.defers, v, hv, v, rfl, hQ⟩
      | goto l => exact h.elim
      | panic c => exact h.elim
      | outgrown => exact h.elim

end Go.Sh
