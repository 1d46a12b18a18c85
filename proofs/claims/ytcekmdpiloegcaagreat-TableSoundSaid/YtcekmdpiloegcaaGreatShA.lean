/- A second reading of a Go function's translated code, as nested conditions on values and worlds, and the proof that it implies the model's own: for every program, every code of the forms named here, every world.
   Conditions: no defers, no goroutines, no labels, no range over a function; a region that draws its order is read in the order of the text where its operations commute. -/
import Derived.Orders
import Derived.KernelRfl
import Derived.Tactics
set_option linter.unusedSimpArgs false
set_option linter.unusedVariables false
namespace Go.Sh

abbrev Fr := Nat → Value
def upd (f : Fr) (d : Nat) (v : Value) : Fr := fun i => cond (Nat.beq i d) v (f i)
def updO (f : Fr) : Option Nat → Value → Fr
  | some d, v => upd f d v
  | none, _ => f
def ev (f : Fr) : Operand → Value
  | .tmp t => f t
  | .const v => v
  | .global g => .pointer (some ⟨g, 0, none⟩)
  | .func g => .func (.func g) #[] #[]

/-- The frame 'a' of n slots reads as f. -/
structure Rel (n : Nat) (a : Act) (f : Fr) : Prop where
  size : a.tmps.size = n
  defers : a.defers = []
  get : ∀ i, a.tmps.getD i undef = f i

theorem Rel.eval {n : Nat} {a : Act} {f : Fr} (h : Rel n a f) (x : Operand) : a.eval x = ev f x := by
  cases x <;> first | exact h.get _ | rfl

theorem Rel.evalF {n : Nat} {a : Act} {f : Fr} (h : Rel n a f) : a.eval = ev f := funext h.eval

def fits (n : Nat) : Option Nat → Bool
  | some d => Nat.ble (d + 1) n
  | none => true

theorem Rel.put {n : Nat} {a : Act} {f : Fr} (h : Rel n a f) {d : Option Nat} (hd : fits n d = true) (v : Value) : Rel n (a.put d v) (updO f d v) := by
  cases d with
  | none => exact h
  | some d =>
    have hd' : d < n := Nat.le_of_ble_eq_true hd
    refine ⟨by simp [Act.put, h.size], h.defers, fun i => ?_⟩
    have hg := h.get i
    by_cases hi : i = d
    · subst hi
      have : i < a.tmps.size := by rw [h.size]; exact hd'
      simp [Act.put, updO, upd, this]
    · have hb : Nat.beq i d = false := by
        cases hb : Nat.beq i d with
        | false => rfl
        | true => exact absurd (Nat.eq_of_beq_eq_true hb) hi
      simp only [updO, upd, hb, cond]
      rw [← hg]
      simp [Act.put, Array.getElem?_setIfInBounds_ne (Ne.symm hi)]

/-! ### One operation -/

def thenU (s : Sem Unit) : Sem Value := s >>= fun _ => pure undef
def isC : Operand → Bool
  | .const _ => true
  | _ => false

def eqG (op : BinOp) (t : TypeId) (cx cy : Bool) (a b : Value) : Sem Unit := do
  if !(op matches .eql | .neq) then return
  match a, b with
  | .nilIface, .nilIface =>
    if cx || cy then return
    if ← Op.eqGuardIn Op.maxDepth t a b then unsupported (.noEntry "binop/eql: two nil values of an interface type with methods, neither of them the literal nil")
  | .agg _, .agg _ =>
    if !(← program).eqGuardType (← program).depth t then return
    if ← Op.eqGuardIn Op.maxDepth t a b then unsupported (.noEntry "binop/eql: two nil values of an interface type with methods, in a part of a struct or an array")
  | _, _ => pure ()

theorem eqG_eq (op : BinOp) (t : TypeId) (x y : Operand) (a b : Value) : eqGuard op t x y a b = eqG op t (isC x) (isC y) a b := by
  unfold eqGuard eqG
  cases x <;> cases y <;> rfl

def binS (op : BinOp) (t : TypeId) (cx cy : Bool) (a b : Value) : Sem Value := do eqG op t cx cy a b; binOp op t a b

def pickS (c a b : Value) : Sem Value := do pure (if ← asBool c then a else b)

def nilV : Value → Sem Value
  | .pointer none | .nilIface | .nilFunc => stuck "nil"
  | .func (.method _) _ _ => stuck "a method value"
  | x => pure x

def bltV (b : Builtin) (argTypes : Array TypeId) (ty : TypeId) (args : Array Value) : Sem Value :=
  match b with
  | .append => Builtin.append_ argTypes ty args
  | .cap => Builtin.cap_ argTypes ty args
  | .clear => Builtin.clear_ argTypes ty args
  | .copy => Builtin.copy_ argTypes ty args
  | .delete => Builtin.delete_ argTypes ty args
  | .len => Builtin.len_ argTypes ty args
  | .max => Builtin.max_ argTypes ty args
  | .min => Builtin.min_ argTypes ty args
  | _ => stuck "no such builtin here"

def evs (ρ : Operand → Value) (l : Array Operand) : Array Value := (l.toList.map ρ).toArray
def evps (ρ : Operand → Value) (l : Array (Nat × Operand)) : Array (Nat × Value) := (l.toList.map fun p => (p.1, ρ p.2)).toArray

theorem evs_eq (ρ : Operand → Value) (l : Array Operand) : evs ρ l = l.map ρ := by cases l; simp [evs]
theorem evps_eq (ρ : Operand → Value) (l : Array (Nat × Operand)) : evps ρ l = l.map fun p => (p.1, ρ p.2) := by cases l; simp [evps]

/-- What an operation that is no call of a function yields. -/
def execV (ty : TypeId) (ρ : Operand → Value) : Op → Sem Value
  | .move x | .assign x => pure (ρ x)
  | .pick c a b => pickS (ρ c) (ρ a) (ρ b)
  | .alloc e => Instr.alloc e true (.tuple #[])
  | .box e x => Instr.box e (ρ x)
  | .build t ps => Instr.build t (evps ρ ps)
  | .buildSlice t n ps => Instr.buildSlice t n (evps ρ ps)
  | .load t a => Instr.loadAt t (ρ a)
  | .store t a x => thenU (Instr.storeAt t (ρ a) (ρ x))
  | .nilCheck x => nilV (ρ x)
  | .binOp op t x y _ => binS op t (isC x) (isC y) (ρ x) (ρ y)
  | .unOp op _ x => Op.unary op (ρ x)
  | .convert s d x => convert s d (ρ x)
  | .makeInterface t x => Instr.makeInterface t (ρ x)
  | .makeFunc fn first cap => pure (.func fn (evs ρ first) (evs ρ cap))
  | .makeMap t r => Instr.makeMap t (r.map ρ)
  | .makeSlice t l c => Instr.makeSlice t (ρ l) (ρ c)
  | .slice t x lo hi mx => Instr.sliceAt t (ρ x) (lo.map ρ) (hi.map ρ) (mx.map ρ)
  | .fieldAddr t x i => Instr.fieldAt t (ρ x) i
  | .field t x i => Instr.field t (ρ x) i
  | .indexAddr t x i => Instr.indexAt t (ρ x) (ρ i)
  | .index t x i => Instr.index t (ρ x) (ρ i)
  | .lookup t x i ok => Instr.lookup t (ρ x) (ρ i) ok
  | .mapUpdate t m k x | .insert t m k x => thenU (Instr.mapUpdate t (ρ m) (ρ k) (ρ x))
  | .mapEntry t m k => Instr.mapEntry t (ρ m) (ρ k)
  | .entryStore t m s x => thenU (Instr.entryStore t (ρ m) (ρ s) (ρ x))
  | .range t x => Instr.range t (ρ x)
  | .next it s => Instr.next (ρ it) s ty
  | .entry it => Instr.entry (ρ it)
  | .extract t i => Instr.extract (ρ t) i
  | .call { callee := .builtin b, args, argTypes } => bltV b argTypes ty (evs ρ args)
  | _ => stuck "no such operation here"

/-- The operation ran: its value (or nothing, which is 'undef'), the world behind it. -/
def Did (P : Program) (ρ : Operand → Value) (o : Oper) (v : Value) (w w' : World) : Prop :=
  (execOp ρ o).run P w = .ok (.value v) w' ∨ ((execOp ρ o).run P w = .ok .skip w' ∧ v = undef)

theorem did_v {P : Program} {s : Sem Value} {v : Value} {w w' : World} (h : s.run P w = .ok v w') :
    (s >>= fun x => (pure (.value x) : Sem Next)).run P w = .ok (.value v) w' := by simp [h]

theorem did_u {P : Program} {s : Sem Unit} {v : Value} {w w' : World} (h : (thenU s).run P w = .ok v w') :
    (s >>= fun _ => (pure .skip : Sem Next)).run P w = .ok .skip w' ∧ v = undef := by
  simp only [thenU, Sem.run_bind] at h ⊢
  cases hs : s.run P w with
  | ok u w₁ => rw [hs] at h; simp only [Result.andThen_ok, Sem.run_pure] at h ⊢; injection h with h1 h2; exact ⟨by rw [h2], h1.symm⟩
  | halt x w₁ => rw [hs] at h; simp at h

theorem execV_did {P : Program} {ρ : Operand → Value} {o : Oper} {v : Value} {w w' : World}
    (h : (execV o.type ρ o.op).run P w = .ok v w') : Did P ρ o v w w' := by
  obtain ⟨dst, op, ty, pos, after, guard⟩ := o
  simp only at h
  cases op
  case move x => left; simpa [execV, execOp] using h
  case assign x => left; simpa [execV, execOp] using h
  case pick c x y =>
    left
    simp only [execV, pickS, execOp, Sem.run_bind] at h ⊢
    cases hc : (asBool (ρ c)).run P w with
    | ok b w₁ => rw [hc] at h; simpa using h
    | halt e w₁ => rw [hc] at h; simp at h
  case nilCheck x =>
    left
    simp only [execV, nilV] at h
    simp only [execOp]
    generalize ρ x = y at h
    cases y with
    | pointer a => cases a with
      | none => simp [stuck] at h
      | some a => simpa using h
    | func fn first cap =>
      cases fn <;> first | (simp [stuck] at h; done) | simpa using h
    | nilFunc => simp [stuck] at h
    | nilIface => simp [stuck] at h
    | _ => simpa using h
  case binOp op t x y t' => left; simp only [execV, binS, execOp, ← eqG_eq] at h ⊢; exact did_v h
  case build t ps => left; simp only [execV, evps_eq] at h; simp only [execOp]; exact did_v h
  case buildSlice t n ps => left; simp only [execV, evps_eq] at h; simp only [execOp]; exact did_v h
  case makeFunc fn first cap => left; simp only [execV, evs_eq] at h; simp only [execOp, Instr.makeFunc]; exact did_v h
  case store t a x => right; simp only [execV] at h; simp only [execOp]; exact did_u h
  case mapUpdate t m k x => right; simp only [execV] at h; simp only [execOp]; exact did_u h
  case insert t m k x => right; simp only [execV] at h; simp only [execOp]; exact did_u h
  case entryStore t m k x => right; simp only [execV] at h; simp only [execOp]; exact did_u h
  case call c =>
    left
    obtain ⟨callee, args, argTypes⟩ := c
    cases callee with
    | builtin b =>
      simp only [execV, evs_eq] at h
      simp only [execOp, resolve, Sem.run_bind, Sem.run_pure, Result.andThen_ok, invoke]
      cases b <;> first | (simp [bltV, stuck] at h; done) | (simp only [bltV] at h; simp only [builtin]; exact did_v h)
    | value f => simp [execV, stuck] at h
    | invoke r m => simp [execV, stuck] at h
  all_goals first
    | (simp [execV, stuck] at h; done)
    | (left; simp only [execV] at h; simp only [execOp]; exact did_v h)

def CallsV (P : Program) (g : FuncId) (args : Array Value) (k : Value → World → Prop) (w : World) : Prop :=
  Calls P g args w fun e w' => ∃ v, e = .returned v ∧ k v w'
def Enters (P : Program) (g : FuncId) : Prop := ∀ args w, (callFunc g args).run P w = .ok (.enter g args) w
def callS (P : Program) (g : FuncId) (args : Array Value) (k : Value → World → Prop) (w : World) : Prop := Enters P g ∧ CallsV P g args k w
def callF (P : Program) (fv : Value) (args : Array Value) (k : Value → World → Prop) (w : World) : Prop :=
  match fv with
  | .func (.func g) first cap => callS P g (first ++ args ++ cap) k w
  | _ => False

theorem CallsV.mono {P : Program} {g : FuncId} {args : Array Value} {k k' : Value → World → Prop} {w : World} (h : CallsV P g args k w) (hk : ∀ v w, k v w → k' v w) : CallsV P g args k' w :=
  Calls.mono h fun _ _ ⟨v, he, hv⟩ => ⟨v, he, hk _ _ hv⟩
theorem callS_mono {P : Program} {g : FuncId} {args : Array Value} {k k' : Value → World → Prop} {w : World} (h : callS P g args k w) (hk : ∀ v w, k v w → k' v w) : callS P g args k' w :=
  ⟨h.1, h.2.mono hk⟩
theorem callF_mono {P : Program} {fv : Value} {args : Array Value} {k k' : Value → World → Prop} {w : World} (h : callF P fv args k w) (hk : ∀ v w, k v w → k' v w) : callF P fv args k' w := by
  unfold callF at *
  split at h
  · exact callS_mono h hk
  · exact h.elim

/-- A call comes to an end with some answer, in some world. -/
theorem callS_some {P : Program} {g : FuncId} {args : Array Value} {k : Value → World → Prop} {w : World} (h : callS P g args k w) : ∃ v w', k v w' := by
  obtain ⟨e, w', fr, ⟨v, _, hv⟩, _⟩ := h.2 []
  exact ⟨v, w', hv⟩

def act (P : Program) (s : Sem Value) (k : Value → World → Prop) (w : World) : Prop :=
  match s.run P w with
  | .ok v w' => k v w'
  | _ => False

/-- A writing operation, or a call. -/
def wrO (P : Program) (ty : TypeId) (ρ : Operand → Value) (op : Op) (k : Value → World → Prop) (w : World) : Prop :=
  match op with
  | .call { callee := .value (.func g), args, .. } => callS P g (evs ρ args) k w
  | .call { callee := .value x, args, .. } => callF P (ρ x) (evs ρ args) k w
  | op => act P (execV ty ρ op) k w

theorem run_act {P : Program} {s : Sem Value} {k : Value → World → Prop} {w : World} (h : act P s k w) :
    ∃ v w', s.run P w = .ok v w' ∧ k v w' := by
  unfold act at h
  split at h
  · rename_i v w' hr; exact ⟨v, w', hr, h⟩
  · exact h.elim

theorem wrO_mono {P : Program} {ty : TypeId} {ρ : Operand → Value} {op : Op} {k k' : Value → World → Prop} {w : World} (hk : ∀ v w, k v w → k' v w) (h : wrO P ty ρ op k w) : wrO P ty ρ op k' w := by
  unfold wrO at *
  split
  · exact callS_mono h hk
  · exact callF_mono (by split at h <;> simp_all) hk
  · rename_i h1 h2
    split at h
    · exact absurd rfl (h1 _ _ _)
    · exact absurd rfl (h2 _ _ _)
    · obtain ⟨v, w', hr, hkv⟩ := run_act h
      unfold act; rw [hr]; exact hk _ _ hkv

theorem wrO_some {P : Program} {ty : TypeId} {ρ : Operand → Value} {op : Op} {k : Value → World → Prop} {w : World} (h : wrO P ty ρ op k w) : ∃ v w', k v w' := by
  unfold wrO at h
  split at h
  · exact callS_some h
  · unfold callF at h
    split at h
    · exact callS_some h
    · exact h.elim
  · obtain ⟨v, w', _, hk⟩ := run_act h; exact ⟨v, w', hk⟩

theorem upon_did {P : Program} {o : Oper} {a : Act} {K : Act → World → Prop} {Q : Exit → Act → World → Prop} {v : Value} {w w' : World}
    (h : Did P a.eval o v w w') (hk : K (a.put o.dst v) w') : o.wp P a w K Q := by
  unfold Oper.wp
  rcases h with h | ⟨h, rfl⟩
  · rw [h]; exact hk
  · rw [h]; exact hk

theorem upon_call {P : Program} {o : Oper} {a : Act} {K : Act → World → Prop} {Q : Exit → Act → World → Prop} {w : World} {x : Operand} {args : Array Operand} {ts : Array TypeId} {g : FuncId} {first cap : Array Value}
    (ho : o.op = .call { callee := .value x, args, argTypes := ts }) (hx : a.eval x = .func (.func g) first cap)
    (h : callS P g (first ++ evs a.eval args ++ cap) (fun v w' => K (a.put o.dst v) w') w) : o.wp P a w K Q := by
  obtain ⟨hE, h⟩ := h
  unfold Oper.wp
  have he : (execOp a.eval o).run P w = .ok (.enter g (first ++ evs a.eval args ++ cap)) w := by
    simp only [execOp, ho, resolve, hx, Deferred.ofValue, Sem.run_bind, Sem.run_pure, Result.andThen_ok, invoke, evs_eq]
    exact hE _ _
  rw [he]
  exact Calls.mono h fun e w' ⟨v, he, hv⟩ => by subst he; exact hv

theorem wrO_wp {P : Program} {o : Oper} {a : Act} {K : Act → World → Prop} {Q : Exit → Act → World → Prop} {w : World}
    (h : wrO P o.type a.eval o.op (fun v w' => K (a.put o.dst v) w') w) : o.wp P a w K Q := by
  unfold wrO at h
  split at h
  · rename_i g args ts ho
    exact upon_call (x := .func g) (first := #[]) (cap := #[]) ho rfl (by simpa using h)
  · rename_i x args ts _ ho
    unfold callF at h
    split at h
    · rename_i g first cap hx
      exact upon_call ho hx h
    · exact h.elim
  · obtain ⟨v, w', hr, hk⟩ := run_act h
    exact upon_did (execV_did hr) hk

end Go.Sh
