/- Code: the second reading of blocks, loops, tests and joins, and its soundness. -/
import Derived.Test.YtgplmmonjmmgpaaShB
set_option linter.unusedSimpArgs false
set_option linter.unusedVariables false
namespace Go.Sh

def pur (P : Program) (s : Sem Value) (k : Value → Prop) : Prop := ∃ v, (∀ w, s.run P w = .ok v w) ∧ k v
def rd (P : Program) (s : Sem Value) (k : Value → Prop) (w : World) : Prop := ∃ v, s.run P w = .ok v w ∧ k v
def hld (P : Program) (S : World → Prop) (s : Sem Value) (k : Value → Prop) : Prop := ∃ v, (∀ w, S w → s.run P w = .ok v w) ∧ k v
def gd (c : Value) (b : Bool) (m : (Value → World → Prop) → World → Prop) (k : Value → World → Prop) (w : World) : Prop :=
  match c with
  | .bool x => cond (x == b) (m k w) (k undef w)
  | _ => k undef w

def wrH (h : Option (World → Prop)) (k : Value → World → Prop) : Value → World → Prop :=
  match h with
  | none => k
  | some S => fun v w => S w ∧ k v w

def bodyF (P : Program) (h : Option (World → Prop)) (ty : TypeId) (f : Fr) (op : Op) (k : Value → World → Prop) (w : World) : Prop :=
  match op with
  | .move x => k (ev f x) w
  | .assign x => k (ev f x) w
  | op => match clsOf P op with
    | 0 => pur P (execV ty (ev f) op) fun v => k v w
    | 1 => (match h with
      | none => rd P (execV ty (ev f) op) (fun v => k v w) w
      | some S => hld P S (execV ty (ev f) op) fun v => k v w)
    | _ => wrO P ty (ev f) op (wrH h k) w

def gval (ops : List Oper) (f : Fr) (j : Nat) : Value :=
  match (ops[j]?).bind (·.dst) with
  | some d => f d
  | none => undef

def stepF (P : Program) (h : Option (World → Prop)) (ops : List Oper) (o : Oper) (K : Fr → World → Prop) (f : Fr) (w : World) : Prop :=
  match o.guard with
  | none => bodyF P h o.type f o.op (fun v w => K (updO f o.dst v) w) w
  | some (j, b) => gd (gval ops f j) b (bodyF P h o.type f o.op) (fun v w => K (updO f o.dst v) w) w

def lexF (P : Program) (h : Option (World → Prop)) (ops : List Oper) (K : Fr → World → Prop) : List Oper → Fr → World → Prop
  | [], f, w => K f w
  | o :: l, f, w => stepF P h ops o (lexF P h ops K l) f w

def cfh (P : Program) (h : Option (World → Prop)) : Op → Nat :=
  match h with
  | none => clsOf P
  | some _ => fun op => match clsOf P op with
    | 1 => 0
    | c => c

def Sof (h : Option (World → Prop)) : World → Prop :=
  match h with
  | none => fun _ => True
  | some S => S

/-! ### masks of slots -/

def dm : Option Nat → Nat
  | some d => 1 <<< d
  | none => 0
def wOps : List Oper → Nat
  | [] => 0
  | o :: l => dm o.dst ||| wOps l
def wM : Code → Nat
  | .region _ ops _ => wOps ops.toList
  | .seq a b => wM a ||| wM b
  | .cond _ a b => wM a ||| wM b
  | .block _ c => wM c
  | .loop c => wM c
  | _ => 0

/-- f' is f but for the slots of m. -/
def Ag (m : Nat) (f f' : Fr) : Prop := ∀ i, m.testBit i = false → f' i = f i

theorem Ag.refl (m : Nat) (f : Fr) : Ag m f f := fun _ _ => rfl
theorem Ag.left {m m' : Nat} {f f' : Fr} (h : Ag m f f') : Ag (m ||| m') f f' := fun i hi => h i (by
  rw [Nat.testBit_or, Bool.or_eq_false_iff] at hi; exact hi.1)
theorem Ag.right {m m' : Nat} {f f' : Fr} (h : Ag m' f f') : Ag (m ||| m') f f' := fun i hi => h i (by
  rw [Nat.testBit_or, Bool.or_eq_false_iff] at hi; exact hi.2)
theorem Ag.trans {m : Nat} {f f' f'' : Fr} (h : Ag m f f') (h' : Ag m f' f'') : Ag m f f'' := fun i hi => (h' i hi).trans (h i hi)
theorem Ag.updO (f : Fr) (d : Option Nat) (v : Value) : Ag (dm d) f (updO f d v) := fun i hi => by
  cases d with
  | none => rfl
  | some d =>
    have hne : Nat.beq i d = false := by
      cases hb : Nat.beq i d with
      | false => rfl
      | true =>
        have := Nat.eq_of_beq_eq_true hb
        subst this
        simp [dm, Nat.testBit_shiftLeft] at hi
    simp [Sh.updO, upd, hne]

theorem yields_gval {l : List Oper} {n : Nat} {a : Act} {f : Fr} (hr : Rel n a f) (j : Nat) : yielded l.toArray a.tmps j = match gval l f j with | .bool b => some b | _ => none := by
  unfold yielded gval
  simp only [List.getElem?_toArray]
  cases h : (l[j]?).bind (·.dst) with
  | none => simp [undef]
  | some d =>
    have hg := hr.get d
    simp only [Option.bind_some]
    cases ht : a.tmps[d]? with
    | none =>
      rw [Array.getD_eq_getD_getElem?, ht] at hg
      simp only [Option.getD_none] at hg
      rw [← hg]; simp [undef]
    | some x =>
      rw [Array.getD_eq_getD_getElem?, ht] at hg
      simp only [Option.getD_some] at hg
      rw [← hg]
      cases x <;> rfl

theorem bodyF_C {P : Program} {h : Option (World → Prop)} {l : List Oper} {o : Oper} {k : Value → World → Prop} {K : Act → World → Prop} {n : Nat} {a : Act} {f : Fr} {w : World}
    (hr : Rel n a f) (hg : Region.wanted o (yielded l.toArray a.tmps) = true) (hk : ∀ v w, k v w → K (a.put o.dst v) w) (H : bodyF P h o.type f o.op k w) :
    stepC P (Sof h) l.toArray (cfh P h) o K a w := by
  have hc0 : ∀ {c}, clsOf P o.op = c → c ≠ 1 → cfh P h o.op = c := fun {c} hc hn => by
    cases h with
    | none => exact hc
    | some S => simp only [cfh, hc]
  have mv : ∀ (x : Operand), (∀ w, Did P a.eval o (ev f x) w w) → clsOf P o.op = 0 → k (ev f x) w → stepC P (Sof h) l.toArray (cfh P h) o K a w := fun x hd hc hkx => by
    rw [stepC_0 (hc0 hc (by decide))]
    exact ⟨_, .inl ⟨hg, fun w _ => hd w⟩, hk _ _ hkx⟩
  unfold bodyF at H
  split at H
  · rename_i x hx
    exact mv x (fun w => execV_did (by rw [hx]; simp [execV, hr.eval])) (by rw [hx]; rfl) H
  · rename_i x hx
    exact mv x (fun w => execV_did (by rw [hx]; simp [execV, hr.eval])) (by rw [hx]; rfl) H
  · split at H
    · rename_i hc
      obtain ⟨v, hv, hkv⟩ := H
      rw [stepC_0 (hc0 hc (by decide))]
      exact ⟨v, .inl ⟨hg, fun w _ => execV_did (by rw [hr.evalF]; exact hv w)⟩, hk _ _ hkv⟩
    · rename_i hc
      split at H
      · obtain ⟨v, hv, hkv⟩ := H
        rw [stepC_1 (by simpa [cfh] using hc)]
        exact ⟨v, .inl ⟨hg, fun w' hw' => execV_did (by rw [hr.evalF, hw']; exact hv)⟩, hk _ _ hkv⟩
      · rename_i S
        obtain ⟨v, hv, hkv⟩ := H
        rw [stepC_0 (by simp [cfh, hc])]
        exact ⟨v, .inl ⟨hg, fun w' hw' => execV_did (by rw [hr.evalF]; exact hv w' hw')⟩, hk _ _ hkv⟩
    · rename_i hn0 hn1
      have hc2 : ∀ c, c < 2 → cfh P h o.op ≠ c := fun c hc => by
        have h0 : clsOf P o.op ≠ 0 := hn0
        have h1 : clsOf P o.op ≠ 1 := hn1
        cases h with
        | none => simp only [cfh]; omega
        | some S => simp only [cfh]; omega
      rw [stepC_2 hc2, if_pos hg, hr.evalF]
      refine wrO_mono (fun v w' h4 => ?_) H
      cases h with
      | none => exact ⟨trivial, hk _ _ h4⟩
      | some S => exact ⟨h4.1, hk _ _ h4.2⟩

theorem skip_C {P : Program} {h : Option (World → Prop)} {ops : Array Oper} {o : Oper} {K : Act → World → Prop} {a : Act} {w : World}
    (hg : Region.wanted o (yielded ops a.tmps) = false) (hk : K (a.put o.dst undef) w) : stepC P (Sof h) ops (cfh P h) o K a w := by
  rcases cls_cases (cfh P h o.op) with hc | hc | hc
  · rw [stepC_0 hc]; exact ⟨_, .inr ⟨hg, rfl⟩, hk⟩
  · rw [stepC_1 hc]; exact ⟨_, .inr ⟨hg, rfl⟩, hk⟩
  · rw [stepC_2 hc, if_neg (by simp [hg])]; exact hk

theorem stepF_C {P : Program} {h : Option (World → Prop)} {l : List Oper} {o : Oper} {K : Fr → World → Prop} {n : Nat} {a : Act} {f : Fr} {w : World}
    (hr : Rel n a f) (hd : fits n o.dst = true) (H : stepF P h l o K f w) :
    stepC P (Sof h) l.toArray (cfh P h) o (fun a w => ∃ f', Rel n a f' ∧ Ag (dm o.dst) f f' ∧ K f' w) a w := by
  have hk : ∀ v w, K (updO f o.dst v) w → (fun a w => ∃ f', Rel n a f' ∧ Ag (dm o.dst) f f' ∧ K f' w) (a.put o.dst v) w :=
    fun v w hK => ⟨_, hr.put hd v, Ag.updO f o.dst v, hK⟩
  unfold stepF at H
  split at H
  · rename_i hg
    exact bodyF_C hr (by simp [Region.wanted, hg]) hk H
  · rename_i j b hg
    have hy := yields_gval (l := l) hr j
    unfold gd at H
    split at H
    · rename_i x hx
      rw [hx] at hy
      cases hxb : (x == b) with
      | true =>
        rw [hxb] at H
        exact bodyF_C hr (by simp [Region.wanted, hg, hy]; simpa using hxb) hk H
      | false =>
        rw [hxb] at H
        exact skip_C (by simp [Region.wanted, hg, hy]; simpa using hxb) (hk _ _ H)
    · rename_i hn
      have : yielded l.toArray a.tmps j = none := by
        rw [hy]; split
        · rename_i b' hb'; exact absurd hb' (hn b')
        · rfl
      exact skip_C (by simp [Region.wanted, hg, this]) (hk _ _ H)

theorem lexF_C {P : Program} {h : Option (World → Prop)} {l : List Oper} {K : Fr → World → Prop} {n : Nat} : ∀ (r : List Oper) {a : Act} {f : Fr} {w : World},
    Sof h w → Rel n a f → (∀ o ∈ r, fits n o.dst = true) → lexF P h l K r f w →
    lexC P (Sof h) l.toArray (cfh P h) (fun a w => ∃ f', Rel n a f' ∧ Ag (wOps r) f f' ∧ K f' w) r a w
  | [], a, f, w, _, hr, _, H => ⟨f, hr, Ag.refl _ _, H⟩
  | o :: r, a, f, w, hS, hr, hd, H => by
    refine stepC_mono hS (fun a' w' hS' ⟨f', hr', hag, H'⟩ => ?_) (stepF_C hr (hd o (by simp)) H)
    have h1 := lexF_C r hS' hr' (fun o ho => hd o (by simp [ho])) H'
    have mono : ∀ (r' : List Oper) {Q Q' : Act → World → Prop} (_ : ∀ a w, Q a w → Q' a w) {a : Act} {w : World}, Sof h w → lexC P (Sof h) l.toArray (cfh P h) Q r' a w → lexC P (Sof h) l.toArray (cfh P h) Q' r' a w := by
      intro r'
      induction r' with
      | nil => intro Q Q' hq a w _ h; exact hq _ _ h
      | cons o r' ih => intro Q Q' hq a w hS h; exact stepC_mono hS (fun a w hS hK => ih hq hS hK) h
    exact mono r (fun a w ⟨f'', hr'', hag'', hK⟩ => ⟨f'', hr'', Ag.trans (Ag.left hag) (Ag.right hag''), hK⟩) hS' h1

/-! ### curried continuations -/

def Cur : Nat → Type
  | 0 => World → Prop
  | n + 1 => Value → Cur n
def cur : (n : Nat) → (List Value → World → Prop) → Cur n
  | 0, F => F []
  | n + 1, F => fun v => cur n fun s => F (v :: s)
def app : (n : Nat) → Cur n → List Value → World → Prop
  | 0, c, _ => c
  | n + 1, c, v :: s => app n (c v) s
  | n + 1, c, [] => app n (c undef) []

theorem app_cur : ∀ (n : Nat) (F : List Value → World → Prop) (s : List Value), s.length = n → app n (cur n F) s = F s
  | 0, F, [], _ => rfl
  | n + 1, F, v :: s, h => app_cur n (fun s => F (v :: s)) s (by simpa using h)

def jn (n : Nat) (A : Cur n → Prop) (B : Cur n) : Prop := A B
def lp (n : Nat) (body : Cur n → Cur n) (s₀ : List Value) (w : World) : Prop :=
  ∃ (I : List Value → World → Prop) (μ : List Value → World → Nat), I s₀ w ∧
    ∀ s w, s.length = n → I s w → app n (body (cur n fun s' w' => I s' w' ∧ μ s' w' < μ s w)) s w

def look : List Nat → List Value → Nat → Value → Value
  | l :: ls, v :: vs, i, d => cond (Nat.beq i l) v (look ls vs i d)
  | _, _, _, d => d
def patch (Ls : List Nat) (W : Nat) (s : List Value) (j f : Fr) : Fr := fun i => look Ls s i (cond (W.testBit i) (j i) (f i))
def proj (Ls : List Nat) (f : Fr) : List Value := Ls.map f

theorem look_proj (f : Fr) (i : Nat) (d : Value) (hd : d = f i) : ∀ Ls : List Nat, look Ls (proj Ls f) i d = f i
  | [] => by simpa [look, proj] using hd
  | l :: Ls => by
    simp only [proj, List.map_cons, look]
    cases hb : Nat.beq i l with
    | true => have := Nat.eq_of_beq_eq_true hb; subst this; rfl
    | false => exact look_proj f i d hd Ls

theorem patch_proj {W : Nat} {f f' : Fr} (h : Ag W f f') (Ls : List Nat) : patch Ls W (proj Ls f') f' f = f' := by
  funext i
  refine look_proj f' i _ ?_ Ls
  cases hw : W.testBit i with
  | true => rfl
  | false => exact (h i hw).symm

/-! ### what is read later (any answer is sound) -/

def opM : Operand → Nat
  | .tmp t => 1 <<< t
  | _ => 0
def opsM : List Operand → Nat
  | [] => 0
  | x :: l => opM x ||| opsM l
def liveO (o : Oper) (l : Nat) : Nat := ((l ||| dm o.dst) ^^^ dm o.dst) ||| opsM o.op.operands.toList
def liveOs : List Oper → Nat → Nat
  | [], l => l
  | o :: r, l => liveO o (liveOs r l)
def lookX : List (Nat × Nat) → Nat → Nat
  | [], _ => 0
  | (i, m) :: r, j => cond (Nat.beq i j) m (lookX r j)
def liveC : Code → Nat → List (Nat × Nat) → Nat → Nat
  | .region _ ops _, lo, _, _ => liveOs ops.toList lo
  | .seq a b, lo, ex, rt => liveC a (liveC b lo ex rt) ex rt
  | .cond c a b, lo, ex, rt => opM c ||| (liveC a lo ex rt ||| liveC b lo ex rt)
  | .block id c, lo, ex, rt => liveC c lo ((id, lo) :: ex) rt
  | .loop c, _, ex, rt => liveC c (liveC c (liveC c 0 ex rt) ex rt) ex rt
  | .exit id, _, ex, _ => lookX ex id
  | .ret, _, _, rt => rt
  | _, lo, _, _ => lo
def slots (m : Nat) : List Nat := (List.range (Nat.log2 m + 1)).filter fun i => m.testBit i
/-- How often 'exit id' stands where it can be come to, and the end. -/
def cntX (id : Nat) : Code → Nat
  | .seq a b => cntX id a + cntX id b
  | .cond _ a b => cntX id a + cntX id b
  | .block _ c => cntX id c
  | .loop c => cntX id c
  | .exit i => cond (Nat.beq i id) 1 0
  | _ => 0
def nrm : Code → Nat
  | .seq a b => cond (Nat.beq (nrm a) 0) 0 (nrm b)
  | .cond _ a b => nrm a + nrm b
  | .block id c => nrm c + cntX id c
  | .loop _ => 0
  | .exit _ => 0
  | .ret => 0
  | _ => 1

def condS (v : Value) (A B : Prop) : Prop :=
  match v with
  | .bool true => A
  | .bool false => B
  | _ => False

def rgn (P : Program) (l : List Oper) (draw : Bool) (K : Fr → World → Prop) (f : Fr) (w : World) : Prop :=
  cond draw
    (cond (lexOk (cfh P none) l) (lexF P none l K l f w.drew)
      (cond (lexOk (cfh P (some fun _ => True)) l) (∃ S : World → Prop, S w.drew ∧ lexF P (some S) l K l f w.drew) False))
    (lexF P none l K l f w)

def sem (P : Program) : Code → (sm : Bool) → (lo : Nat) → (ex : List (Nat × Nat)) → (rt : Nat) → (K : Fr → World → Prop) → (X : Nat → Fr → World → Prop) → (R : Fr → World → Prop) → Fr → World → Prop
  | .skip, _, _, _, _, K, _, _, f, w => K f w
  | .region _ ops draw, _, _, _, _, K, _, _, f, w => rgn P ops.toList draw K f w
  | .seq a b, sm, lo, ex, rt, K, X, R, f, w =>
    cond (Nat.ble (nrm a) 1)
      (sem P a false (liveC b lo ex rt) ex rt (fun f w => sem P b sm lo ex rt K X R f w) X R f w)
      (jn (slots (wM a &&& liveC b lo ex rt)).length
        (fun J => sem P a true (liveC b lo ex rt) ex rt (fun f' w' => app _ J (proj (slots (wM a &&& liveC b lo ex rt)) f') w') X R f w)
        (cur _ fun s w => ∀ j, sem P b sm lo ex rt K X R (patch (slots (wM a &&& liveC b lo ex rt)) (wM a) s j f) w))
  | .cond c a b, sm, lo, ex, rt, K, X, R, f, w => condS (ev f c) (sem P a sm lo ex rt K X R f w) (sem P b sm lo ex rt K X R f w)
  | .block id c, sm, lo, ex, rt, K, X, R, f, w =>
    cond (sm || Nat.ble (nrm c + cntX id c) 1)
      (sem P c sm lo ((id, lo) :: ex) rt K (fun i => cond (Nat.beq i id) K (X i)) R f w)
      (jn (slots (wM c &&& lo)).length
        (fun J => sem P c true lo ((id, lo) :: ex) rt (fun f' w' => app _ J (proj (slots (wM c &&& lo)) f') w')
          (fun i => cond (Nat.beq i id) (fun f' w' => app _ J (proj (slots (wM c &&& lo)) f') w') (X i)) R f w)
        (cur _ fun s w => ∀ j, K (patch (slots (wM c &&& lo)) (wM c) s j f) w))
  | .loop c, _, _, ex, rt, _, X, R, f, w =>
    lp (slots (wM c &&& liveC (.loop c) 0 ex rt)).length
      (fun J => cur _ fun s w => ∀ j, sem P c true (liveC (.loop c) 0 ex rt) ex rt (fun f' w' => app _ J (proj (slots (wM c &&& liveC (.loop c) 0 ex rt)) f') w') X R
        (patch (slots (wM c &&& liveC (.loop c) 0 ex rt)) (wM c) s j f) w)
      (proj (slots (wM c &&& liveC (.loop c) 0 ex rt)) f) w
  | .exit id, _, _, _, _, _, X, _, f, w => X id f w
  | .ret, _, _, _, _, _, _, R, f, w => R f w
  | _, _, _, _, _, _, _, _, _, _ => False

def fitsC (n : Nat) : Code → Bool
  | .region _ ops _ => ops.toList.all fun o => fits n o.dst
  | .seq a b => fitsC n a && fitsC n b
  | .cond _ a b => fitsC n a && fitsC n b
  | .block _ c => fitsC n c
  | .loop c => fitsC n c
  | _ => true

def Post (n m : Nat) (f : Fr) (K : Fr → World → Prop) (X : Nat → Fr → World → Prop) (R : Fr → World → Prop) : Exit → Act → World → Prop
  | .normal, a, w => ∃ f', Rel n a f' ∧ Ag m f f' ∧ K f' w
  | .exit i, a, w => ∃ f', Rel n a f' ∧ Ag m f f' ∧ X i f' w
  | .ret, a, w => ∃ f', Rel n a f' ∧ R f' w
  | _, _, _ => False

theorem Post.mono {n m m' : Nat} {f f₀ : Fr} {K K' : Fr → World → Prop} {X X' : Nat → Fr → World → Prop} {R : Fr → World → Prop} (hm : ∀ f', Ag m f f' → Ag m' f₀ f') (hK : ∀ f' w, Ag m f f' → K f' w → K' f' w) (hX : ∀ i f' w, Ag m f f' → X i f' w → X' i f' w)
    {e : Exit} {a : Act} {w : World} (h : Post n m f K X R e a w) : Post n m' f₀ K' X' R e a w := by
  cases e with
  | normal => obtain ⟨f', h1, h2, h3⟩ := h; exact ⟨f', h1, hm _ h2, hK _ _ h2 h3⟩
  | exit i => obtain ⟨f', h1, h2, h3⟩ := h; exact ⟨f', h1, hm _ h2, hX _ _ _ h2 h3⟩
  | ret => exact h
  | goto l => exact h.elim
  | panic c => exact h.elim
  | outgrown => exact h.elim

theorem rgn_sound {P : Program} (hmix : P.follows .mixedOrders = true) {id : Nat} {l : List Oper} {draw : Bool} {K : Fr → World → Prop} {X : Nat → Fr → World → Prop} {R : Fr → World → Prop} {n : Nat} {a : Act} {f : Fr} {w : World}
    (hd : (l.all fun o => fits n o.dst) = true) (hr : Rel n a f) (H : rgn P l draw K f w) : (Code.region id l.toArray draw).wp P (Post n (wOps l) f K X R) a w := by
  have hd' : ∀ o ∈ l, fits n o.dst = true := fun o ho => List.all_eq_true.1 hd o ho
  unfold rgn at H
  cases draw with
  | false => exact region_text (cf := cfh P none) (lexF_C (h := none) l trivial hr hd' H)
  | true =>
    simp only [cond] at H
    cases h1 : lexOk (cfh P none) l with
    | true =>
      rw [h1] at H
      exact region_draw (S := fun _ => True) (cf := cfh P none) hmix h1 trivial (lexF_C (h := none) l trivial hr hd' H)
    | false =>
      rw [h1] at H
      cases h2 : lexOk (cfh P (some fun _ => True)) l with
      | true =>
        rw [h2] at H
        obtain ⟨S, hS, H⟩ := H
        exact region_draw (S := S) (cf := cfh P (some S)) hmix h2 hS (lexF_C (h := some S) l hS hr hd' H)
      | false => rw [h2] at H; exact H.elim

theorem sem_sound {P : Program} (hmix : P.follows .mixedOrders = true) {n : Nat} : ∀ (c : Code) (sm : Bool) (lo : Nat) (ex : List (Nat × Nat)) (rt : Nat) (K : Fr → World → Prop) (X : Nat → Fr → World → Prop) (R : Fr → World → Prop) (a : Act) (f : Fr) (w : World),
    fitsC n c = true → Rel n a f → sem P c sm lo ex rt K X R f w → c.wp P (Post n (wM c) f K X R) a w := by
  intro c
  induction c with
  | skip => intro sm lo ex rt K X R a f w _ hr H; exact wp_skip ⟨f, hr, Ag.refl _ _, H⟩
  | region id ops draw =>
    intro sm lo ex rt K X R a f w hf hr H
    obtain ⟨l⟩ := ops
    exact rgn_sound hmix (by simpa [fitsC] using hf) hr H
  | seq x y ihx ihy =>
    intro sm lo ex rt K X R a f w hf hr H
    simp only [fitsC, Bool.and_eq_true] at hf
    refine wp_seq ?_
    have fin : ∀ (a : Act) (f' : Fr) (w : World), Ag (wM x) f f' → Rel n a f' → sem P y sm lo ex rt K X R f' w → y.wp P (Post n (wM (.seq x y)) f K X R) a w := fun a f' w hag hr' H' =>
      Code.wp_mono (fun e a w h => Post.mono (fun f'' h'' => Ag.trans (Ag.left hag) (Ag.right h'')) (fun _ _ _ h => h) (fun _ _ _ _ h => h) h) (ihy sm lo ex rt K X R a f' w hf.2 hr' H')
    simp only [sem] at H
    cases hn : Nat.ble (nrm x) 1 with
    | true =>
      rw [hn] at H
      refine Code.wp_mono (fun e a w h => ?_) (ihx _ _ _ _ _ _ _ a f w hf.1 hr H)
      cases e with
      | normal => obtain ⟨f', h1, h2, h3⟩ := h; exact fin a f' w h2 h1 h3
      | exit i => obtain ⟨f', h1, h2, h3⟩ := h; exact ⟨f', h1, Ag.left h2, h3⟩
      | ret => exact h
      | goto l => exact h.elim
      | panic c => exact h.elim
      | outgrown => exact h.elim
    | false =>
      rw [hn] at H
      simp only [cond, jn] at H
      refine Code.wp_mono (fun e a w h => ?_) (ihx _ _ _ _ _ _ _ a f w hf.1 hr H)
      cases e with
      | normal =>
        obtain ⟨f', h1, h2, h3⟩ := h
        rw [app_cur _ _ _ (by simp [proj])] at h3
        have h4 := h3 f'
        rw [patch_proj h2] at h4
        exact fin a f' w h2 h1 h4
      | exit i => obtain ⟨f', h1, h2, h3⟩ := h; exact ⟨f', h1, Ag.left h2, h3⟩
      | ret => exact h
      | goto l => exact h.elim
      | panic c => exact h.elim
      | outgrown => exact h.elim
  | cond c x y ihx ihy =>
    intro sm lo ex rt K X R a f w hf hr H
    simp only [fitsC, Bool.and_eq_true] at hf
    simp only [sem, condS] at H
    split at H
    · rename_i hc
      exact wp_cond_true (by rw [hr.eval]; exact hc) (Code.wp_mono (fun e a w h => Post.mono (fun _ h => Ag.left h) (fun _ _ _ h => h) (fun _ _ _ _ h => h) h) (ihx sm lo ex rt K X R a f w hf.1 hr H))
    · rename_i hc
      exact wp_cond_false (by rw [hr.eval]; exact hc) (Code.wp_mono (fun e a w h => Post.mono (fun _ h => Ag.right h) (fun _ _ _ h => h) (fun _ _ _ _ h => h) h) (ihy sm lo ex rt K X R a f w hf.2 hr H))
    · exact H.elim
  | block id c ih =>
    intro sm lo ex rt K X R a f w hf hr H
    simp only [fitsC] at hf
    refine wp_block ?_
    have fin : ∀ (K' : Fr → World → Prop), (∀ f' w, Ag (wM c) f f' → K' f' w → K f' w) → ∀ e a w, Post n (wM c) f K' (fun i => cond (Nat.beq i id) K' (X i)) R e a w → Exit.inBlock id (Post n (wM (.block id c)) f K X R) e a w := by
      intro K' hK' e a w h
      cases e with
      | normal => obtain ⟨f', h1, h2, h3⟩ := h; exact ⟨f', h1, h2, hK' _ _ h2 h3⟩
      | exit i =>
        obtain ⟨f', h1, h2, h3⟩ := h
        simp only [Exit.inBlock]
        by_cases hi : i = id
        · subst hi
          rw [if_pos rfl]
          rw [show Nat.beq i i = true from Nat.beq_refl i] at h3
          exact ⟨f', h1, h2, hK' _ _ h2 h3⟩
        · rw [if_neg hi]
          have hb : Nat.beq i id = false := by
            cases hb : Nat.beq i id with
            | false => rfl
            | true => exact absurd (Nat.eq_of_beq_eq_true hb) hi
          rw [hb] at h3
          exact ⟨f', h1, h2, h3⟩
      | ret => exact h
      | goto l => exact h.elim
      | panic c => exact h.elim
      | outgrown => exact h.elim
    simp only [sem] at H
    cases hn : (sm || Nat.ble (nrm c + cntX id c) 1) with
    | true =>
      rw [hn] at H
      exact Code.wp_mono (fin K fun _ _ _ h => h) (ih _ _ _ _ _ _ _ a f w hf hr H)
    | false =>
      rw [hn] at H
      simp only [cond_false, jn] at H
      refine Code.wp_mono (fin _ fun f' w h2 h3 => ?_) (ih _ _ _ _ _ _ _ a f w hf hr H)
      rw [app_cur _ _ _ (by simp [proj])] at h3
      have h4 := h3 f'
      rw [patch_proj h2] at h4
      exact h4
  | loop c ih =>
    intro sm lo ex rt K X R a f w hf hr H
    simp only [fitsC] at hf
    simp only [sem] at H
    generalize slots (wM c &&& liveC (.loop c) 0 ex rt) = Ls at H
    generalize liveC (.loop c) 0 ex rt = lv at H
    obtain ⟨I, μ, h0, round⟩ := H
    refine wp_loop (fun a w => ∃ f', Rel n a f' ∧ Ag (wM c) f f' ∧ I (proj Ls f') w) (fun a w => μ (Ls.map fun i => a.tmps.getD i undef) w) ⟨f, hr, Ag.refl _ _, h0⟩ ?_
    rintro a w ⟨f', hr', hag, hI⟩
    have h1 := round (proj Ls f') w (by simp [proj]) hI
    rw [app_cur _ _ _ (by simp [proj])] at h1
    have h2 := h1 f'
    rw [patch_proj hag] at h2
    have hμ : ∀ {a : Act} {f'' : Fr}, Rel n a f'' → (Ls.map fun i => a.tmps.getD i undef) = proj Ls f'' := fun {a f''} h => by
      simp only [proj]; exact List.map_congr_left fun i _ => h.get i
    refine Code.wp_mono (fun e a' w' h => ?_) (ih _ _ _ _ _ _ _ a f' w hf hr' h2)
    cases e with
    | normal =>
      obtain ⟨f'', h3, h4, h5⟩ := h
      rw [app_cur _ _ _ (by simp [proj])] at h5
      exact ⟨⟨f'', h3, Ag.trans hag h4, h5.1⟩, by rw [hμ h3, hμ hr']; exact h5.2⟩
    | exit i => obtain ⟨f'', h3, h4, h5⟩ := h; exact ⟨f'', h3, Ag.trans hag h4, h5⟩
    | ret => exact h
    | goto l => exact h.elim
    | panic c => exact h.elim
    | outgrown => exact h.elim
  | exit id => intro sm lo ex rt K X R a f w _ hr H; exact wp_exit ⟨f, hr, Ag.refl _ _, H⟩
  | ret => intro sm lo ex rt K X R a f w _ hr H; exact wp_ret ⟨f, hr, H⟩
  | rangeFunc => intro sm lo ex rt K X R a f w _ hr H; exact H.elim
  | scope => intro sm lo ex rt K X R a f w _ hr H; exact H.elim
  | label => intro sm lo ex rt K X R a f w _ hr H; exact H.elim
  | goto => intro sm lo ex rt K X R a f w _ hr H; exact H.elim
  | refuse => intro sm lo ex rt K X R a f w _ hr H; exact H.elim

/-! ### A function -/

def getL : List Value → Nat → Value
  | [], _ => undef
  | v :: _, 0 => v
  | _ :: l, i + 1 => getL l i
def resS (rs : List ResultVar) (f : Fr) (Q : Value → World → Prop) (w : World) : Prop :=
  match rs with
  | [] => Q (.tuple #[]) w
  | [.tmp t] => Q (f t) w
  | [.tmp t, .tmp u] => Q (.tuple #[f t, f u]) w
  | [.tmp t, .tmp u, .tmp x] => Q (.tuple #[f t, f u, f x]) w
  | [.tmp t, .tmp u, .tmp x, .tmp y] => Q (.tuple #[f t, f u, f x, f y]) w
  | [.tmp t, .tmp u, .tmp x, .tmp y, .tmp z] => Q (.tuple #[f t, f u, f x, f y, f z]) w
  | _ => False
def resM : List ResultVar → Nat
  | [] => 0
  | .tmp t :: l => (1 <<< t) ||| resM l
  | _ :: l => resM l

def semF (P : Program) (g : FuncId) (args : List Value) (Q : Value → World → Prop) (w : World) : Prop :=
  match P.funcs[g]? with
  | none => False
  | some fn => match fn.body with
    | none => False
    | some c => sem P c true (resM fn.results.toList) [] (resM fn.results.toList) (fun f w => resS fn.results.toList f Q w) (fun _ _ _ => False) (fun f w => resS fn.results.toList f Q w) (getL args) w
def okF (P : Program) (g : FuncId) (k : Nat) : Bool :=
  match P.funcs[g]? with
  | none => false
  | some fn => match fn.body with
    | none => false
    | some c => fitsC fn.ntmps c && Nat.ble k fn.ntmps

theorem getL_eq (l : List Value) (m i : Nat) : (l.toArray ++ Array.replicate m undef).getD i undef = getL l i := by
  rw [Array.getD_eq_getD_getElem?, ← Array.getElem?_toList, Array.toList_append, Array.toList_replicate]
  simp only
  induction l generalizing i with
  | nil =>
    simp only [getL, List.nil_append]
    by_cases h : i < m
    · rw [List.getElem?_replicate, if_pos h]; rfl
    · rw [List.getElem?_replicate, if_neg h]; rfl
  | cons v l ih =>
    cases i with
    | zero => rfl
    | succ i => rw [getL, ← ih i]; rfl

theorem results_run {P : Program} {fn : Func} {a : Act} {f : Fr} {n : Nat} {Q : Value → World → Prop} {w : World} (hr : Rel n a f) (h : resS fn.results.toList f Q w) : ∃ v, (results fn a.tmps).run P w = .ok v w ∧ Q v w := by
  obtain ⟨l, hl⟩ : ∃ l, fn.results = List.toArray l := ⟨fn.results.toList, by simp⟩
  rw [hl] at h
  simp only at h
  unfold resS at h
  split at h
  · exact ⟨_, by simp [results, hl], h⟩
  · exact ⟨_, by simp [results, hl]; rfl, by rw [← hr.get] at h; simpa using h⟩
  · rename_i t u; refine ⟨.tuple #[a.tmps.getD t undef, a.tmps.getD u undef], by simp [results, hl], ?_⟩; simpa only [hr.get] using h
  · rename_i t u x; refine ⟨.tuple #[a.tmps.getD t undef, a.tmps.getD u undef, a.tmps.getD x undef], by simp [results, hl], ?_⟩; simpa only [hr.get] using h
  · rename_i t u x y; refine ⟨.tuple #[a.tmps.getD t undef, a.tmps.getD u undef, a.tmps.getD x undef, a.tmps.getD y undef], by simp [results, hl], ?_⟩; simpa only [hr.get] using h
  · rename_i t u x y z; refine ⟨.tuple #[a.tmps.getD t undef, a.tmps.getD u undef, a.tmps.getD x undef, a.tmps.getD y undef, a.tmps.getD z undef], by simp [results, hl], ?_⟩; simpa only [hr.get] using h
  · exact h.elim

theorem callS_of {P : Program} (hmix : P.follows .mixedOrders = true) {g : FuncId} {args : List Value} {Q : Value → World → Prop} {w : World} (hE : Enters P g) (hok : okF P g args.length = true) (H : semF P g args Q w) : callS P g args.toArray Q w := by
  refine ⟨hE, ?_⟩
  unfold semF at H
  unfold okF at hok
  cases hf : P.funcs[g]? with
  | none => rw [hf] at H; exact H.elim
  | some fn =>
    rw [hf] at H hok
    simp only at H hok
    cases hb : fn.body with
    | none => rw [hb] at H; exact H.elim
    | some c =>
      rw [hb] at H hok
      simp only [Bool.and_eq_true] at H hok
      have hlen := Nat.le_of_ble_eq_true hok.2
      refine calls_of_wp hf hb (Code.wp_mono (fun e a w h => ?_) (sem_sound hmix c _ _ _ _ _ _ _ { tmps := args.toArray ++ Array.replicate (fn.ntmps - args.toArray.size) undef, defers := [] } (getL args) w hok.1 ⟨by simp; omega, rfl, fun i => getL_eq _ _ _⟩ H))
      cases e with
      | normal =>
        obtain ⟨f', h1, h2, h3⟩ := h
        obtain ⟨v, hv, hQ⟩ := results_run (P := P) h1 h3
        exact ⟨h1.defers, v, hv, v, rfl, hQ⟩
      | exit i => obtain ⟨f', h1, h2, h3⟩ := h; exact h3.elim
      | ret =>
        obtain ⟨f', h1, h3⟩ := h
        obtain ⟨v, hv, hQ⟩ := results_run (P := P) h1 h3
        exact ⟨h1.defers, v, hv, v, rfl, hQ⟩
      | goto l => exact h.elim
      | panic c => exact h.elim
      | outgrown => exact h.elim

end Go.Sh
