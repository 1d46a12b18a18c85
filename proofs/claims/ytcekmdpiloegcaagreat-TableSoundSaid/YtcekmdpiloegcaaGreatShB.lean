/- Regions: the order of the text serves every order that the model may draw, where the operations commute. -/
import Derived.Test.YtcekmdpiloegcaaGreatShA
set_option linter.unusedSimpArgs false
set_option linter.unusedVariables false
namespace Go.Sh

def isScalar (P : Program) (t : TypeId) : Bool :=
  match Region.shape P.types t with
  | some .bool | some (.int _) | some .string => true
  | _ => false
def isInt (P : Program) (t : TypeId) : Bool :=
  match Region.shape P.types t with
  | some (.int _) => true
  | _ => false
def isStr (P : Program) (t : TypeId) : Bool :=
  match Region.shape P.types t with
  | some .string => true
  | _ => false
def isMap (P : Program) (t : TypeId) : Bool :=
  match Region.shape P.types t with
  | some (.map _ _) => true
  | _ => false

/-- 0: it looks at no memory; 1: it looks and leaves all as it was; 2: all else. -/
def clsOf (P : Program) : Op → Nat
  | .move _ | .assign _ | .pick .. | .nilCheck _ | .unOp .. | .field .. | .index .. | .extract .. | .makeFunc .. | .build .. | .fieldAddr .. | .indexAddr .. | .slice .. => 0
  | .binOp _ t _ _ _ => cond (isScalar P t) 0 1
  | .convert s d _ => cond ((isInt P s && isInt P d) || (isStr P s && isStr P d)) 0 2
  | .load .. | .lookup .. | .entry _ => 1
  | .call { callee := .builtin .len, argTypes, .. } => cond (isMap P (argTypes.toList.headD 0)) 1 0
  | .call { callee := .builtin .max, .. } | .call { callee := .builtin .min, .. } | .call { callee := .builtin .cap, .. } => 0
  | _ => 2

section
variable {P : Program} {ops : Array Oper} {S : World → Prop} {cf : Op → Nat}

def yl (P : Program) (S : World → Prop) (ops : Array Oper) (o : Oper) (a : Act) (v : Value) : Prop :=
  (Region.wanted o (yielded ops a.tmps) = true ∧ ∀ w, S w → Did P a.eval o v w w) ∨ (Region.wanted o (yielded ops a.tmps) = false ∧ v = undef)

theorem Did.unique {ρ : Operand → Value} {o : Oper} {v u : Value} {w w₁ w₂ : World} (h : Did P ρ o v w w₁) (h' : Did P ρ o u w w₂) : v = u := by
  rcases h with h | ⟨h, rfl⟩ <;> rcases h' with h' | ⟨h', rfl⟩ <;> rw [h] at h' <;> simp at h' <;> first | exact h'.1 | rfl

theorem yl.unique {o : Oper} {a : Act} {v u : Value} {w : World} (hw : S w) (h : yl P S ops o a v) (h' : yl P S ops o a u) : v = u := by
  rcases h with ⟨hg, h⟩ | ⟨hg, rfl⟩ <;> rcases h' with ⟨hg', h'⟩ | ⟨hg', rfl⟩
  · exact (h w hw).unique (h' w hw)
  · rw [hg] at hg'; cases hg'
  · rw [hg] at hg'; cases hg'
  · rfl

def stepC (P : Program) (S : World → Prop) (ops : Array Oper) (cf : Op → Nat) (o : Oper) (K : Act → World → Prop) (a : Act) (w : World) : Prop :=
  match cf o.op with
  | 0 => ∃ v, yl P S ops o a v ∧ K (a.put o.dst v) w
  | 1 => ∃ v, yl P (fun w' => w' = w) ops o a v ∧ K (a.put o.dst v) w
  | _ => if Region.wanted o (yielded ops a.tmps) then wrO P o.type a.eval o.op (fun v w' => S w' ∧ K (a.put o.dst v) w') w else K (a.put o.dst undef) w

theorem stepC_0 {o : Oper} {K : Act → World → Prop} {a : Act} {w : World} (h : cf o.op = 0) : stepC P S ops cf o K a w = ∃ v, yl P S ops o a v ∧ K (a.put o.dst v) w := by
  unfold stepC; simp only [h]
theorem stepC_1 {o : Oper} {K : Act → World → Prop} {a : Act} {w : World} (h : cf o.op = 1) : stepC P S ops cf o K a w = ∃ v, yl P (fun w' => w' = w) ops o a v ∧ K (a.put o.dst v) w := by
  unfold stepC; simp only [h]
theorem stepC_2 {o : Oper} {K : Act → World → Prop} {a : Act} {w : World} (h : ∀ c, c < 2 → cf o.op ≠ c) :
    stepC P S ops cf o K a w = if Region.wanted o (yielded ops a.tmps) then wrO P o.type a.eval o.op (fun v w' => S w' ∧ K (a.put o.dst v) w') w else K (a.put o.dst undef) w := by
  unfold stepC
  split
  · rename_i h0; exact absurd h0 (h 0 (by omega))
  · rename_i h0; exact absurd h0 (h 1 (by omega))
  · rfl

theorem cls_cases (c : Nat) : c = 0 ∨ c = 1 ∨ ∀ d, d < 2 → c ≠ d := by
  rcases Nat.lt_or_ge c 2 with h | h
  · rcases (show c = 0 ∨ c = 1 by omega) with h | h
    · exact .inl h
    · exact .inr (.inl h)
  · exact .inr (.inr fun d hd => by omega)

theorem stepC_mono {o : Oper} {K K' : Act → World → Prop} {a : Act} {w : World} (hS : S w) (hk : ∀ a w, S w → K a w → K' a w) (h : stepC P S ops cf o K a w) : stepC P S ops cf o K' a w := by
  rcases cls_cases (cf o.op) with hc | hc | hc
  · rw [stepC_0 hc] at *; obtain ⟨v, hy, hK⟩ := h; exact ⟨v, hy, hk _ _ hS hK⟩
  · rw [stepC_1 hc] at *; obtain ⟨v, hy, hK⟩ := h; exact ⟨v, hy, hk _ _ hS hK⟩
  · rw [stepC_2 hc] at *
    split
    · rename_i hg; rw [if_pos hg] at h; exact wrO_mono (fun v w' ⟨h1, h2⟩ => ⟨h1, hk _ _ h1 h2⟩) h
    · rename_i hg; rw [if_neg hg] at h; exact hk _ _ hS h

theorem stepC_some {o : Oper} {K : Act → World → Prop} {a : Act} {w : World} (h : stepC P S ops cf o K a w) : ∃ a' w', K a' w' := by
  rcases cls_cases (cf o.op) with hc | hc | hc
  · rw [stepC_0 hc] at h; obtain ⟨v, hy, hK⟩ := h; exact ⟨_, _, hK⟩
  · rw [stepC_1 hc] at h; obtain ⟨v, hy, hK⟩ := h; exact ⟨_, _, hK⟩
  · rw [stepC_2 hc] at h
    split at h
    · obtain ⟨v, w', _, hk⟩ := wrO_some h; exact ⟨_, _, hk⟩
    · exact ⟨_, _, h⟩

theorem stepC_wp {o : Oper} {K K' : Act → World → Prop} {Q : Exit → Act → World → Prop} {a : Act} {w : World} (hS : S w) (hk : ∀ a w, S w → K a w → K' a w) (h : stepC P S ops cf o K a w) :
    if Region.wanted o (yielded ops a.tmps) then o.wp P a w K' Q ∨ (o.asks P a w ∧ LetsOut Q) else K' (a.put o.dst undef) w := by
  have one : ∀ {T : World → Prop} {v : Value}, T w → yl P T ops o a v → K (a.put o.dst v) w →
      if Region.wanted o (yielded ops a.tmps) then o.wp P a w K' Q ∨ (o.asks P a w ∧ LetsOut Q) else K' (a.put o.dst undef) w := by
    intro T v hT hy hK
    rcases hy with ⟨hg, hd⟩ | ⟨hg, rfl⟩
    · rw [if_pos hg]; exact .inl (upon_did (hd w hT) (hk _ _ hS hK))
    · rw [if_neg (by simp [hg])]; exact hk _ _ hS hK
  rcases cls_cases (cf o.op) with hc | hc | hc
  · rw [stepC_0 hc] at h; obtain ⟨v, hy, hK⟩ := h; exact one hS hy hK
  · rw [stepC_1 hc] at h; obtain ⟨v, hy, hK⟩ := h; exact one (T := fun w' => w' = w) rfl hy hK
  · rw [stepC_2 hc] at h
    split
    · rename_i hg; rw [if_pos hg] at h; exact .inl (wrO_wp (wrO_mono (fun v w' ⟨h1, h2⟩ => hk _ _ h1 h2) h))
    · rename_i hg; rw [if_neg hg] at h; exact hk _ _ hS h

/-! ### The operands decide -/

theorem evs_congr {ρ ρ' : Operand → Value} {l : Array Operand} (h : ∀ x ∈ l, ρ x = ρ' x) : evs ρ l = evs ρ' l := by
  rw [evs_eq, evs_eq]; exact Array.map_congr_left h

theorem evps_congr {ρ ρ' : Operand → Value} {l : Array (Nat × Operand)} (h : ∀ x ∈ (l.toList.map (·.2)).toArray, ρ x = ρ' x) : evps ρ l = evps ρ' l := by
  rw [evps_eq, evps_eq]
  exact Array.map_congr_left fun p hp => by rw [h p.2 (by simp only [List.mem_toArray, List.mem_map, Array.mem_toList_iff]; exact ⟨p, hp, rfl⟩)]

theorem execV_congr {ρ ρ' : Operand → Value} {ty : TypeId} {op : Op} (h : ∀ x ∈ op.operands, ρ x = ρ' x) : execV ty ρ op = execV ty ρ' op := by
  cases op <;> simp only [Op.operands] at h <;> simp only [execV]
  case build t ps => rw [evps_congr h]
  case buildSlice t n ps => rw [evps_congr h]
  case makeFunc fn first cap => rw [evs_congr fun x hx => h x (by simp [hx]), evs_congr (l := cap) fun x hx => h x (by simp [hx])]
  case makeMap t r => cases r <;> simp_all
  case slice t x lo hi mx => cases lo <;> cases hi <;> cases mx <;> simp_all
  case call c =>
    obtain ⟨callee, args, argTypes⟩ := c
    cases callee <;> simp only
    rw [evs_congr fun x hx => h x (by simp [Call.operands, hx])]
  all_goals simp_all

theorem wrO_congr {ρ ρ' : Operand → Value} {ty : TypeId} {op : Op} (h : ∀ x ∈ op.operands, ρ x = ρ' x) {k : Value → World → Prop} {w : World} : wrO P ty ρ op k w = wrO P ty ρ' op k w := by
  have hv := execV_congr (ty := ty) h
  unfold wrO
  split
  · rw [evs_congr fun x hx => h x (by simp [Op.operands, Call.operands, hx])]
  · rename_i x args _ _
    rw [evs_congr fun x hx => h x (by simp [Op.operands, Call.operands, hx]), h x (by simp [Op.operands, Call.operands])]
  · rw [hv]

theorem mem_looks {o : Oper} {d : Nat} (h : (Operand.tmp d) ∈ o.op.operands) : d ∈ o.looksAt ops :=
  List.mem_append_left _ (List.mem_filterMap.2 ⟨.tmp d, by simpa using h, rfl⟩)

theorem operands_put {o : Oper} {a : Act} {dst : Option Tmp} {v : Value} (h : ∀ d, dst = some d → d ∉ o.looksAt ops) : ∀ x ∈ o.op.operands, (a.put dst v).eval x = a.eval x :=
  fun _ hx => Act.eval_put fun d hd hxd => h d hd (mem_looks (hxd ▸ hx))

theorem yl_put {o : Oper} {a : Act} {dst : Option Tmp} {v u : Value} (hs : ∀ cs b, o.op ≠ .select cs b) (h : ∀ d, dst = some d → d ∉ o.looksAt ops) : yl P S ops o (a.put dst v) u ↔ yl P S ops o a u := by
  unfold yl Did
  rw [wanted_put o a dst v h, execOp_put o hs a dst v h]

def comm (a b : Nat) : Bool := Nat.beq a 0 || Nat.beq b 0 || (Nat.beq a 1 && Nat.beq b 1)

theorem comm_cases {a b : Nat} (h : comm a b = true) : a = 0 ∨ b = 0 ∨ (a = 1 ∧ b = 1) := by
  simp only [comm, Bool.or_eq_true, Bool.and_eq_true] at h
  rcases h with (h | h) | h
  · exact .inl (Nat.eq_of_beq_eq_true h)
  · exact .inr (.inl (Nat.eq_of_beq_eq_true h))
  · exact .inr (.inr ⟨Nat.eq_of_beq_eq_true h.1, Nat.eq_of_beq_eq_true h.2⟩)

theorem swap {oi oj : Oper} {K : Act → World → Prop} {a : Act} {w : World} (hS : S w) (hi : ∀ cs b, oi.op ≠ .select cs b) (hj : ∀ cs b, oj.op ≠ .select cs b)
    (hap : oi.apart ops oj = true) (hc : comm (cf oi.op) (cf oj.op) = true) (h : stepC P S ops cf oi (stepC P S ops cf oj K) a w) : stepC P S ops cf oj (stepC P S ops cf oi K) a w := by
  obtain ⟨h1, h2, h3⟩ := Oper.apart_spec hap
  have pc : ∀ (a : Act) v u, (a.put oi.dst v).put oj.dst u = (a.put oj.dst u).put oi.dst v := fun a v u => Act.put_comm a v u h2
  have yj : ∀ {T : World → Prop} {a : Act} {v u : Value}, yl P T ops oj (a.put oi.dst v) u ↔ yl P T ops oj a u := yl_put hj h1
  have yi : ∀ {T : World → Prop} {a : Act} {v u : Value}, yl P T ops oi (a.put oj.dst v) u ↔ yl P T ops oi a u := yl_put hi h3
  have gj : ∀ (a : Act) v, Region.wanted oj (yielded ops (a.put oi.dst v).tmps) = Region.wanted oj (yielded ops a.tmps) := fun a v => wanted_put oj a oi.dst v h1
  have gi : ∀ (a : Act) v, Region.wanted oi (yielded ops (a.put oj.dst v).tmps) = Region.wanted oi (yielded ops a.tmps) := fun a v => wanted_put oi a oj.dst v h3
  rcases cls_cases (cf oi.op) with ci | ci | ci
  · -- the first one looks at no memory
    rw [stepC_0 ci] at h
    obtain ⟨v, hy, h⟩ := h
    rcases cls_cases (cf oj.op) with cj | cj | cj
    · rw [stepC_0 cj] at h ⊢
      obtain ⟨u, hu, hK⟩ := h
      exact ⟨u, yj.1 hu, by rw [stepC_0 ci]; exact ⟨v, yi.2 hy, by rw [← pc]; exact hK⟩⟩
    · rw [stepC_1 cj] at h ⊢
      obtain ⟨u, hu, hK⟩ := h
      exact ⟨u, yj.1 hu, by rw [stepC_0 ci]; exact ⟨v, yi.2 hy, by rw [← pc]; exact hK⟩⟩
    · rw [stepC_2 cj] at h ⊢
      rw [gj] at h
      split
      · rename_i hg
        rw [if_pos hg, wrO_congr (operands_put h1)] at h
        exact wrO_mono (fun u w' ⟨h4, h5⟩ => ⟨h4, by rw [stepC_0 ci]; exact ⟨v, yi.2 hy, by rw [← pc]; exact h5⟩⟩) h
      · rename_i hg
        rw [if_neg hg] at h
        rw [stepC_0 ci]; exact ⟨v, yi.2 hy, by rw [← pc]; exact h⟩
  · rw [stepC_1 ci] at h
    obtain ⟨v, hy, h⟩ := h
    rcases cls_cases (cf oj.op) with cj | cj | cj
    · rw [stepC_0 cj] at h ⊢
      obtain ⟨u, hu, hK⟩ := h
      exact ⟨u, yj.1 hu, by rw [stepC_1 ci]; exact ⟨v, yi.2 hy, by rw [← pc]; exact hK⟩⟩
    · rw [stepC_1 cj] at h ⊢
      obtain ⟨u, hu, hK⟩ := h
      exact ⟨u, yj.1 hu, by rw [stepC_1 ci]; exact ⟨v, yi.2 hy, by rw [← pc]; exact hK⟩⟩
    · rcases comm_cases hc with h0 | h0 | h0
      · omega
      · exact absurd h0 (cj 0 (by omega))
      · exact absurd h0.2 (cj 1 (by omega))
  · have cj : cf oj.op = 0 := by
      rcases comm_cases hc with h0 | h0 | h0
      · exact absurd h0 (ci 0 (by omega))
      · exact h0
      · exact absurd h0.1 (ci 1 (by omega))
    rw [stepC_2 ci] at h
    rw [stepC_0 cj]
    split at h
    · rename_i hg
      obtain ⟨v₀, w₀, _, hstep⟩ := wrO_some h
      rw [stepC_0 cj] at hstep
      obtain ⟨u₀, hu₀, _⟩ := hstep
      refine ⟨u₀, yj.1 hu₀, ?_⟩
      rw [stepC_2 ci, gi, if_pos hg, wrO_congr (operands_put h3)]
      refine wrO_mono (fun v w' ⟨h4, h5⟩ => ⟨h4, ?_⟩) h
      rw [stepC_0 cj] at h5
      obtain ⟨u, hu, hK⟩ := h5
      have : u = u₀ := (yj.1 hu).unique hS (yj.1 hu₀)
      subst this
      rw [← pc]; exact hK
    · rename_i hg
      rw [stepC_0 cj] at h
      obtain ⟨u, hu, hK⟩ := h
      refine ⟨u, yj.1 hu, ?_⟩
      rw [stepC_2 ci, gi, if_neg hg, ← pc]
      exact hK

/-! ### Whatever order is drawn -/

def anyC (P : Program) (S : World → Prop) (ops : Array Oper) (cf : Op → Nat) (Q : Act → World → Prop) : Nat → Array Bool → Act → World → Prop
  | 0, listed, a, w => Region.ready .any ops listed = [] ∧ Q a w
  | fuel + 1, listed, a, w =>
    (Region.ready .any ops listed = [] → Q a w) ∧
    ∀ i ∈ Region.ready .any ops listed, ∀ o, ops[i]? = some o → stepC P S ops cf o (anyC P S ops cf Q fuel (listed.setIfInBounds i true)) a w

theorem anyC_wp {Q : Act → World → Prop} {Q' : Exit → Act → World → Prop} (hQ : ∀ a w, S w → Q a w → Q' .normal a w) : ∀ (fuel : Nat) (listed : Array Bool) (a : Act) (w : World), S w →
    anyC P S ops cf Q fuel listed a w → wpAny P .any ops Q' fuel listed a w
  | 0, _, _, _, hS, h => ⟨h.1, hQ _ _ hS h.2⟩
  | fuel + 1, listed, a, w, hS, h => by
    refine ⟨fun h0 => hQ _ _ hS (h.1 h0), fun i hi => ?_⟩
    obtain ⟨_, o, ho, _⟩ := mem_ready.1 hi
    have h1 := h.2 i hi o ho
    unfold wpOp
    simp only [ho]
    exact stepC_wp hS (fun a w hS hK => anyC_wp hQ fuel _ a w hS hK) h1

theorem first {Q : Act → World → Prop} {i : Nat} {oi : Oper} {G : Nat → Bool} (hoi : ops[i]? = some oi) (hsel : ∀ (j : Nat) (o : Oper) cs b, ops[j]? = some o → o.op ≠ .select cs b)
    (hGi : G i = false)
    (hG2 : ∀ j oj, ops[j]? = some oj → j ≠ i → G j = false → ∃ e ∈ oj.after, Region.binds .any e = true ∧ G e.on = false) :
    ∀ (fuel : Nat) (listed : Array Bool) (a : Act) (w : World), S w →
      (∀ j, listed.getD j false = true → G j = true) →
      (∀ j oj, ops[j]? = some oj → j ≠ i → G j = true → listed.getD j true = false → oi.apart ops oj = true ∧ comm (cf oi.op) (cf oj.op) = true) →
      i ∈ Region.ready .any ops listed →
      stepC P S ops cf oi (anyC P S ops cf Q fuel (listed.setIfInBounds i true)) a w → anyC P S ops cf Q (fuel + 1) listed a w := by
  intro fuel
  induction fuel with
  | zero =>
    intro listed a w hS hG1 hG3 hr H
    refine ⟨fun h => (by rw [h] at hr; cases hr), fun j hj oj hoj => ?_⟩
    by_cases hji : j = i
    · subst hji
      have : oj = oi := Option.some.inj (hoj.symm.trans hoi)
      subst this; exact H
    · obtain ⟨a', w', h0⟩ := stepC_some H
      have := ready_mono hj hji
      rw [h0.1] at this
      cases this
  | succ fuel ih =>
    intro listed a w hS hG1 hG3 hr H
    refine ⟨fun h => (by rw [h] at hr; cases hr), fun j hj oj hoj => ?_⟩
    by_cases hji : j = i
    · subst hji
      have : oj = oi := Option.some.inj (hoj.symm.trans hoi)
      subst this; exact H
    · obtain ⟨hun, oj', hoj', hall⟩ := mem_ready.1 hj
      have : oj' = oj := Option.some.inj (hoj'.symm.trans hoj)
      subst this
      have hGj : G j = true := by
        cases hg : G j with
        | true => rfl
        | false =>
          obtain ⟨e, he, hb, hge⟩ := hG2 j oj' hoj hji hg
          rw [hG1 _ (hall e he hb)] at hge
          cases hge
      obtain ⟨hap, hcm⟩ := hG3 j oj' hoj hji hGj hun
      have h1 : stepC P S ops cf oi (stepC P S ops cf oj' (anyC P S ops cf Q fuel ((listed.setIfInBounds j true).setIfInBounds i true))) a w := by
        refine stepC_mono hS (fun a' w' _ hK => ?_) H
        have h2 := hK.2 j (ready_mono hj hji) oj' hoj
        rw [Array.setIfInBounds_comm _ _ hji]
        exact h2
      refine stepC_mono hS (fun a' w' hS' hK => ?_) (swap hS (fun cs b => hsel i oi cs b hoi) (fun cs b => hsel j oj' cs b hoj) hap hcm h1)
      refine ih (listed.setIfInBounds j true) a' w' hS' (fun k hk => ?_) (fun k ok hok hki hGk hunk => ?_) (ready_mono hr (Ne.symm hji)) hK
      · by_cases hkj : j = k
        · subst hkj; exact hGj
        · rw [getD_set_ne false hkj] at hk; exact hG1 k hk
      · by_cases hkj : j = k
        · subst hkj; exact hG3 j ok hok hki hGk hun
        · rw [getD_set_ne true hkj] at hunk; exact hG3 k ok hok hki hGk hunk

/-! ### The order of the text -/

def pre (o : Oper) (G : Nat) : Bool := o.after.toList.all fun e => !Region.binds .any e || G.testBit e.on
def grow : List Oper → Nat → Nat → Nat
  | [], _, G => G
  | o :: l, j, G => grow l (j + 1) (cond (pre o G) (G ||| (1 <<< j)) G)
def chk (ops : Array Oper) (cf : Op → Nat) (oi : Oper) (G : Nat) : List Oper → Nat → Bool
  | [], _ => true
  | o :: l, j => (cond (G.testBit j) (oi.apart ops o && comm (cf oi.op) (cf o.op)) (!pre o G)) && chk ops cf oi G l (j + 1)
/-- From operation k on. -/
def lexOkFrom (ops : Array Oper) (cf : Op → Nat) : List Oper → Nat → Bool
  | [], _ => true
  | o :: l, k =>
    let G := grow l (k + 1) (2 ^ k - 1)
    pre o (2 ^ k - 1) && !G.testBit k && (List.range k).all (fun j => G.testBit j) && chk ops cf o G l (k + 1) && lexOkFrom ops cf l (k + 1)
def noSel (l : List Oper) : Bool := l.all fun o => match o.op with | .select .. => false | _ => true
def lexOk (cf : Op → Nat) (l : List Oper) : Bool := noSel l && lexOkFrom l.toArray cf l 0

def lexC (P : Program) (S : World → Prop) (ops : Array Oper) (cf : Op → Nat) (Q : Act → World → Prop) : List Oper → Act → World → Prop
  | [], a, w => Q a w
  | o :: l, a, w => stepC P S ops cf o (lexC P S ops cf Q l) a w

theorem chk_spec {oi : Oper} {G : Nat} : ∀ (l : List Oper) (k : Nat), chk ops cf oi G l k = true → ∀ j o, l[j]? = some o →
    (G.testBit (k + j) = true → oi.apart ops o = true ∧ comm (cf oi.op) (cf o.op) = true) ∧ (G.testBit (k + j) = false → pre o G = false)
  | [], _, _, j, o, h => by simp at h
  | x :: l, k, hc, j, o, h => by
    simp only [chk, Bool.and_eq_true] at hc
    obtain ⟨h1, h2⟩ := hc
    cases j with
    | zero =>
      simp at h; subst h
      rw [Nat.add_zero]
      refine ⟨fun hg => ?_, fun hg => ?_⟩
      · rw [hg] at h1; simpa using h1
      · rw [hg] at h1; simpa using h1
    | succ j =>
      have := chk_spec l (k + 1) h2 j o (by simpa using h)
      rw [show k + (j + 1) = k + 1 + j by omega]
      exact this

theorem pre_false {o : Oper} {G : Nat} (h : pre o G = false) : ∃ e ∈ o.after, Region.binds .any e = true ∧ G.testBit e.on = false := by
  unfold pre at h
  rw [List.all_eq_false] at h
  obtain ⟨e, he, hb⟩ := h
  simp at hb
  exact ⟨e, by simpa using he, hb.1, by simpa using hb.2⟩

theorem lexC_any {Q : Act → World → Prop} (hsel : ∀ (j : Nat) (o : Oper) cs b, ops[j]? = some o → o.op ≠ .select cs b) : ∀ (l : List Oper) (k : Nat) (listed : Array Bool) (a : Act) (w : World), S w →
    (∀ j, l[j]? = ops[k + j]?) → listed.size = ops.size → (∀ j d, j < ops.size → listed.getD j d = decide (j < k)) → lexOkFrom ops cf l k = true →
    lexC P S ops cf Q l a w → anyC P S ops cf Q l.length listed a w
  | [], k, listed, a, w, hS, hl, hsz, hlst, _, h => by
    refine ⟨?_, h⟩
    have hk : ops.size ≤ k := by
      have := hl 0; simp at this; exact this
    cases hr : Region.ready .any ops listed with
    | nil => rfl
    | cons x xs =>
      have hx : x ∈ Region.ready .any ops listed := by rw [hr]; simp
      obtain ⟨h0, o, ho, _⟩ := mem_ready.1 hx
      have hlt := (Array.getElem?_eq_some_iff.1 ho).1
      rw [hlst x true hlt] at h0
      simp at h0; omega
  | o :: l, k, listed, a, w, hS, hl, hsz, hlst, hB, h => by
    have h0 : ops[k]? = some o := by simpa using (hl 0).symm
    have hklt := (Array.getElem?_eq_some_iff.1 h0).1
    simp only [lexOkFrom, Bool.and_eq_true] at hB
    obtain ⟨⟨⟨⟨hpre, hGk⟩, hall⟩, hch⟩, hB'⟩ := hB
    have hl' : ∀ j, l[j]? = ops[k + 1 + j]? := fun j => by have := hl (j + 1); simpa [Nat.add_assoc, Nat.add_comm 1 j] using this
    have hno : ∀ j, ¬ j < ops.size → listed.getD j false = false := fun j hj => by
      have : ¬ j < listed.size := by omega
      simp [Array.getElem?_eq_none (Nat.le_of_not_lt this)]
    generalize hG : grow l (k + 1) (2 ^ k - 1) = G at *
    refine first (G := fun j => G.testBit j) h0 hsel (by simpa using hGk) (fun j oj hoj hji hg => ?_) l.length listed a w hS (fun j hj => ?_) (fun j oj hoj hji hg hun => ?_) ?_ ?_
    · have hjlt := (Array.getElem?_eq_some_iff.1 hoj).1
      have hkj : k < j := by
        rcases Nat.lt_or_ge k j with h | h
        · exact h
        · have : j < k := by omega
          have := List.all_eq_true.1 hall j (List.mem_range.2 this)
          replace hg : G.testBit j = false := hg
          rw [this] at hg; cases hg
      have hlj : l[j - (k + 1)]? = some oj := by rw [hl', show k + 1 + (j - (k + 1)) = j by omega]; exact hoj
      have := (chk_spec l (k + 1) hch _ oj hlj).2
      rw [show k + 1 + (j - (k + 1)) = j by omega] at this
      exact pre_false (this hg)
    · by_cases hj' : j < ops.size
      · rw [hlst j false hj'] at hj
        exact List.all_eq_true.1 hall j (List.mem_range.2 (by simpa using hj))
      · rw [hno j hj'] at hj; cases hj
    · have hjlt := (Array.getElem?_eq_some_iff.1 hoj).1
      have hkj : k < j := by
        rw [hlst j true hjlt] at hun
        simp at hun; omega
      have hlj : l[j - (k + 1)]? = some oj := by rw [hl', show k + 1 + (j - (k + 1)) = j by omega]; exact hoj
      have := (chk_spec l (k + 1) hch _ oj hlj).1
      rw [show k + 1 + (j - (k + 1)) = j by omega] at this
      exact this hg
    · refine mem_ready.2 ⟨by rw [hlst k true hklt]; simp, o, h0, fun e he hb => ?_⟩
      unfold pre at hpre
      have h1 := List.all_eq_true.1 hpre e (by simpa using he)
      rw [hb] at h1
      simp only [Bool.not_true, Bool.false_or, Nat.testBit_two_pow_sub_one, decide_eq_true_eq] at h1
      rw [hlst e.on false (by omega)]
      simpa using h1
    · refine stepC_mono hS (fun a' w' hS' hK => ?_) h
      refine lexC_any hsel l (k + 1) _ a' w' hS' hl' (by simp [hsz]) (fun j d hj => ?_) hB' hK
      by_cases hjk : k = j
      · subst hjk
        have : k < listed.size := by omega
        simp [this]
      · rw [getD_set_ne d hjk, hlst j d hj]
        congr 1; apply propext; omega

theorem noSel_spec {l : List Oper} (h : noSel l = true) (j : Nat) (o : Oper) (cs : Array SelectCase) (b : Bool) (ho : l.toArray[j]? = some o) : o.op ≠ .select cs b := by
  intro heq
  have := List.all_eq_true.1 h o (List.mem_of_getElem? (by simpa using ho))
  simp [heq] at this

theorem region_draw {id : Nat} {Q : Exit → Act → World → Prop} {a : Act} {w : World} {l : List Oper} (hm : P.follows .mixedOrders = true) (hB : lexOk cf l = true) (hS : S w.drew)
    (h : lexC P S l.toArray cf (fun a w => Q .normal a w) l a w.drew) : (Code.region id l.toArray true).wp P Q a w := by
  simp only [lexOk, Bool.and_eq_true] at hB
  refine wp_region_any hm (anyC_wp (cf := cf) (Q := fun a w => Q .normal a w) (fun _ _ _ h => h) _ _ _ _ hS ?_)
  have := lexC_any (P := P) (S := S) (cf := cf) (noSel_spec hB.1) l 0 (Array.replicate l.toArray.size false) a w.drew hS (by simp) (by simp) (fun j d hj => by simp at hj; simp [hj]) hB.2 h
  simpa using this

theorem region_text {id : Nat} {Q : Exit → Act → World → Prop} {a : Act} {w : World} {l : List Oper}
    (h : lexC P (fun _ => True) l.toArray cf (fun a w => Q .normal a w) l a w) : (Code.region id l.toArray false).wp P Q a w := by
  refine wp_region_list ?_
  simp only
  have go : ∀ (r : List Oper) (a : Act) (w : World), lexC P (fun _ => True) l.toArray cf (fun a w => Q .normal a w) r a w → wpList P l.toArray Q r a w := by
    intro r
    induction r with
    | nil => intro a w h; exact h
    | cons o r ih => intro a w h; exact stepC_wp (Q := Q) (S := fun _ => True) trivial (fun a w _ hK => ih a w hK) h
  exact go l a w h
end
end Go.Sh
