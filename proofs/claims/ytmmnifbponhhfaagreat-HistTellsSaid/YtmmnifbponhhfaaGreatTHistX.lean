/- Histories, in plain words: what is read, what is written, what stays; numbers written digit by digit. Conditions: none. -/
import Derived.Test.YtmmnifbponhhfaaGreatTShS
set_option linter.unusedSimpArgs false
set_option linter.unusedVariables false
namespace Go.Sh.Hi
abbrev Im := Int × Int × ByteArray
abbrev Ar := List (Int × ByteArray)
def arGet (b : Int) : Ar → Option ByteArray
  | [] => none
  | p :: r => if b = p.1 then some p.2 else arGet b r
def arPut (b : Int) (d : ByteArray) : Ar → Ar
  | [] => [(b, d)]
  | p :: r => if b = p.1 then (b, d) :: r else p :: arPut b d r
theorem arGet_put {x b : Int} {d : ByteArray} : ∀ {A : Ar}, arGet x (arPut b d A) = if x = b then some d else arGet x A
  | [] => rfl
  | p :: r => by
    unfold arPut
    by_cases h : b = p.1
    · rw [if_pos h]
      by_cases h2 : x = b
      · simp [arGet, h2]
      · have h3 : x ≠ p.1 := fun e => h2 (e.trans h.symm)
        simp [arGet, h2, h3]
    · rw [if_neg h]
      by_cases h3 : x = p.1
      · have h2 : x ≠ b := fun e => h (e.symm.trans h3)
        have h2' : p.1 ≠ b := fun e => h e.symm
        simp [arGet, h3, h2']
      · simp only [arGet, if_neg h3]; exact arGet_put
structure Ev where
  kind : Int
  node : Int
  epoch : Int
  lsn : Int
  rv : Value
  wv : Value
  rd : List Im
  wr : List Im
def same (x y : Ev) : Bool := decide (x.node = y.node) && decide (x.epoch = y.epoch)
def readsF (z : ByteArray) (A : Ar) (l : List Im) : Bool := l.all fun i => decide ((arGet i.1 A).getD z = i.2.2)
def writeF (A : Ar) (l : List Im) : Ar := l.foldl (fun A i => arPut i.1 i.2.2 A) A
def maxL (p : Ev → Bool) (m : Int) (l : List Ev) : Int := l.foldl (fun m e => if p e = true then max m e.lsn else m) m
theorem maxL_snoc {p : Ev → Bool} {m : Int} {l : List Ev} {e : Ev} : maxL p m (l ++ [e]) = if p e = true then max (maxL p m l) e.lsn else maxL p m l := by simp [maxL]
theorem maxL_ge {p : Ev → Bool} : ∀ {l : List Ev} {m : Int}, m ≤ maxL p m l
  | [], m => Int.le_refl _
  | e :: l, m => by
    show m ≤ maxL p (if p e = true then max m e.lsn else m) l
    refine Int.le_trans ?_ maxL_ge
    split <;> omega
theorem maxL_lt {p : Ev → Bool} {B : Int} : ∀ {l : List Ev} {m : Int}, m < B → (∀ e ∈ l, e.lsn < B) → maxL p m l < B
  | [], m, h, _ => h
  | e :: l, m, h, hl => by
    show maxL p (if p e = true then max m e.lsn else m) l < B
    refine maxL_lt ?_ (fun x hx => hl x (by simp [hx]))
    have := hl e (by simp)
    split <;> omega
theorem writeF_snoc {A : Ar} {l : List Im} {i : Im} : writeF A (l ++ [i]) = arPut i.1 i.2.2 (writeF A l) := by simp [writeF]
theorem readsF_take {z : ByteArray} {A : Ar} {l : List Im} (h : readsF z A l = true) : ∀ i ∈ l, (arGet i.1 A).getD z = i.2.2 := fun i hi => of_decide_eq_true (List.all_eq_true.1 h i hi)
def greatF (e : Ev) (pre : List Ev) : Ev := if 0 < e.lsn then e else { e with lsn := maxL (fun x => decide (x.kind = 1) && same x e) e.lsn pre }
theorem greatF_eq (e : Ev) (pre : List Ev) : (greatF e pre).kind = e.kind ∧ (greatF e pre).node = e.node ∧ (greatF e pre).epoch = e.epoch ∧ (greatF e pre).rv = e.rv ∧ (greatF e pre).wv = e.wv ∧ (greatF e pre).rd = e.rd ∧ (greatF e pre).wr = e.wr := by
  unfold greatF; split <;> exact ⟨rfl, rfl, rfl, rfl, rfl, rfl, rfl⟩
def aloneF (z : ByteArray) (l : List Ev) : Ar × Bool := l.foldl (fun s e => (writeF s.1 e.wr, s.2 && readsF z s.1 e.rd)) ([], true)
theorem aloneF_snoc {z : ByteArray} {l : List Ev} {e : Ev} : aloneF z (l ++ [e]) = (writeF (aloneF z l).1 e.wr, (aloneF z l).2 && readsF z (aloneF z l).1 e.rd) := by simp [aloneF]
/-- What stands while a history is played. -/
structure PSt where
  a : Ar
  ok : Bool
  stay : List Ev
  gone : List (Int × Int)
  cuts : List Int
def keepB (e : Ev) (cut : Int) (x : Ev) : Bool := !(same x e && decide (cut < x.lsn))
def stepF (z : ByteArray) (pre : List Ev) (e : Ev) (s : PSt) : PSt :=
  if e.kind = 1 then
    if (e.node, e.epoch) ∈ s.gone then s
    else { s with a := writeF s.a e.wr, ok := s.ok && readsF z s.a e.rd, stay := s.stay ++ [greatF e pre] }
  else if e.kind = 3 then
    { s with a := (aloneF z (s.stay.filter (keepB e (s.cuts.headD 0)))).1, stay := s.stay.filter (keepB e (s.cuts.headD 0)), gone := s.gone ++ [(e.node, e.epoch)], cuts := s.cuts.tail }
  else if e.kind = 4 then { s with ok := s.ok && readsF z s.a e.rd }
  else s
def runF (z : ByteArray) : List Ev → List Ev → PSt → PSt
  | _, [], s => s
  | pre, e :: r, s => runF z (pre ++ [e]) r (stepF z pre e s)
def playF (z : ByteArray) (l : List Ev) (cuts : List Int) : PSt := runF z [] l ⟨[], true, [], [], cuts⟩
theorem runF_append (z : ByteArray) : ∀ (l l' pre : List Ev) (s : PSt), runF z pre (l ++ l') s = runF z (pre ++ l) l' (runF z pre l s)
  | [], l', pre, s => by simp [runF]
  | e :: l, l', pre, s => by
    simp only [List.cons_append, runF]
    rw [runF_append z l l' (pre ++ [e])]
    simp
theorem playF_snoc {z : ByteArray} {l : List Ev} {e : Ev} {cuts : List Int} : playF z (l ++ [e]) cuts = stepF z l e (playF z l cuts) := by
  unfold playF
  rw [runF_append]
  rfl
def okF (z : ByteArray) (l : List Ev) (cuts : List Int) : Bool := (playF z l cuts).ok && (aloneF z (playF z l cuts).stay).2
/-! ### cuts -/
def leastF (l : List Ev) (g : Ev) : Int := maxL (fun x => same x g && decide (x.kind = 2)) 0 l
def mostF (l : List Ev) (g : Ev) : Int := max (leastF l g) (maxL (fun x => same x g && decide (x.kind = 1)) 0 l)
def cutsR : List Ev → List Ev → List (Int × Int)
  | _, [] => []
  | pre, e :: r => (if e.kind = 3 then [(leastF pre e, mostF pre e)] else []) ++ cutsR (pre ++ [e]) r
theorem cutsR_append : ∀ (l l' pre : List Ev), cutsR pre (l ++ l') = cutsR pre l ++ cutsR (pre ++ l) l'
  | [], l', pre => by simp [cutsR]
  | e :: l, l', pre => by
    simp only [List.cons_append, cutsR]
    rw [cutsR_append l l' (pre ++ [e])]
    simp
theorem cutsR_snoc {l : List Ev} {e : Ev} : cutsR [] (l ++ [e]) = cutsR [] l ++ (if e.kind = 3 then [(leastF l e, mostF l e)] else []) := by
  rw [cutsR_append]
  simp [cutsR]
/-- The product of the numbers of cuts; none: it is too great. -/
def waysF (l : List (Int × Int)) : Option Int :=
  l.foldl (fun (s : Option Int) (p : Int × Int) => match s with | none => none | some n => if 3000 ≤ p.2 - p.1 ∨ 3000 < n * (p.2 - p.1 + 1) then none else some (n * (p.2 - p.1 + 1))) (some 1)
theorem waysF_snoc {l : List (Int × Int)} {p : Int × Int} : waysF (l ++ [p]) = match waysF l with | none => none | some n => if 3000 ≤ p.2 - p.1 ∨ 3000 < n * (p.2 - p.1 + 1) then none else some (n * (p.2 - p.1 + 1)) := by
  simp [waysF]
theorem waysF_none {l l' : List (Int × Int)} (h : waysF l = none) : waysF (l ++ l') = none := by
  unfold waysF at *
  rw [List.foldl_append, h]
  induction l' with
  | nil => rfl
  | cons p l' ih => exact ih
def rangeF (p : Int × Int) : List Int := (List.range (p.2 - p.1 + 1).toNat).map fun k => p.1 + (k : Nat)
def kindsF (l : List Ev) : Bool := l.all fun e => decide (1 ≤ e.kind) && decide (e.kind ≤ 4)
/-- 0: all is right; 2: too long; 1: a kind that there is not. -/
def errF (l : List Ev) : Int := if 200 < l.length then 2 else if waysF (cutsR [] l) = none then 2 else if kindsF l = true then 0 else 1
theorem leastF_b {l : List Ev} {g : Ev} {B : Int} (hB : 0 < B) (h : ∀ e ∈ l, e.lsn < B) : 0 ≤ leastF l g ∧ leastF l g < B := ⟨maxL_ge, maxL_lt hB h⟩
theorem mostF_b {l : List Ev} {g : Ev} {B : Int} (hB : 0 < B) (h : ∀ e ∈ l, e.lsn < B) : leastF l g ≤ mostF l g ∧ mostF l g < B := by
  have h1 := leastF_b (g := g) hB h
  have h2 := maxL_lt (p := fun x => same x g && decide (x.kind = 1)) hB h
  unfold mostF
  omega
theorem cutsR_take {l : List Ev} {i : Nat} (hi : i < l.length) : cutsR [] (l.take (i + 1)) = cutsR [] (l.take i) ++ (if l[i].kind = 3 then [(leastF (l.take i) l[i], mostF (l.take i) l[i])] else []) := by
  rw [List.take_add_one, List.getElem?_eq_getElem hi]
  exact cutsR_snoc
theorem ways_take {l : List Ev} {i : Nat} (h : waysF (cutsR [] (l.take i)) = none) : waysF (cutsR [] l) = none := by
  have e : cutsR [] l = cutsR [] (l.take i ++ l.drop i) := by rw [List.take_append_drop]
  rw [e, cutsR_append]
  exact waysF_none h
theorem rev_ind {α : Type} {P : List α → Prop} (h0 : P []) (h1 : ∀ l p, P l → P (l ++ [p])) : ∀ l, P l := by
  have key : ∀ n (l : List α), l.length = n → P l := by
    intro n
    induction n with
    | zero => intro l h; rw [List.length_eq_zero_iff.1 h]; exact h0
    | succ n ih =>
      intro l h
      rcases List.eq_nil_or_concat l with rfl | ⟨L, b, rfl⟩
      · exact h0
      · rw [List.concat_eq_append] at *
        exact h1 L b (ih L (by simpa using h))
  exact fun l => key l.length l rfl
theorem waysF_pos : ∀ (l : List (Int × Int)) {n : Int}, (∀ p ∈ l, p.1 ≤ p.2) → waysF l = some n → 1 ≤ n ∧ n ≤ 3000 ∧ ∀ p ∈ l, p.2 - p.1 < 3000 := by
  refine rev_ind (fun {n} _ h => ?_) (fun l p ih => ?_)
  · injection h with h; subst h; exact ⟨by omega, by omega, fun p hp => by simp at hp⟩
  · intro n hp h
    rw [waysF_snoc] at h
    cases hw : waysF l with
    | none => rw [hw] at h; cases h
    | some m =>
      rw [hw] at h
      obtain ⟨h1, h2, h3⟩ := ih (fun q hq => hp q (by simp [hq])) hw
      have hpp := hp p (by simp)
      dsimp only at h
      split at h
      · cases h
      · rename_i hc
        injection h with h
        have h4 : (1 : Int) * (p.2 - p.1 + 1) ≤ m * (p.2 - p.1 + 1) := Int.mul_le_mul_of_nonneg_right h1 (by omega)
        refine ⟨by omega, by omega, fun q hq => ?_⟩
        rcases List.mem_append.1 hq with hq | hq
        · exact h3 q hq
        · rw [List.mem_singleton.1 hq]; omega
theorem cutsR_le : ∀ (l pre : List Ev), ∀ p ∈ cutsR pre l, p.1 ≤ p.2
  | [], _, p, hp => by simp [cutsR] at hp
  | e :: l, pre, p, hp => by
    simp only [cutsR] at hp
    rcases List.mem_append.1 hp with hp | hp
    · split at hp
      · rw [List.mem_singleton.1 hp]
        show leastF pre e ≤ max (leastF pre e) _
        omega
      · simp at hp
    · exact cutsR_le l _ p hp
def choicesF (l : List Ev) : List (List Int) := (cutsR [] l).map rangeF
/-! ### digits -/
def prodL : List Nat → Nat
  | [] => 1
  | n :: r => n * prodL r
def dig : List Nat → Nat → List Nat
  | [], _ => []
  | n :: r, N => (N % n) :: dig r (N / n)
def carry : List Nat → List Nat → Option (List Nat)
  | n :: r, d :: ds => if d = n - 1 then (carry r ds).map (0 :: ·) else some ((d + 1) :: ds)
  | _, _ => none
theorem dig_len : ∀ (L : List Nat) (N : Nat), (dig L N).length = L.length
  | [], _ => rfl
  | n :: r, N => by simp [dig, dig_len r]
theorem dig_zero : ∀ (L : List Nat), dig L 0 = List.replicate L.length 0
  | [] => rfl
  | n :: r => by simp [dig, dig_zero r, List.replicate_succ]
theorem dig_lt : ∀ (L : List Nat) (N : Nat), (∀ n ∈ L, 0 < n) → ∀ i (hi : i < L.length), (dig L N)[i]'(by rw [dig_len]; exact hi) < L[i]
  | n :: r, N, hp, 0, _ => by simp only [dig, List.getElem_cons_zero]; exact Nat.mod_lt _ (hp n (by simp))
  | n :: r, N, hp, i + 1, hi => by
    simp only [dig, List.getElem_cons_succ]
    exact dig_lt r (N / n) (fun m hm => hp m (by simp [hm])) i (by simpa using hi)
theorem prodL_pos : ∀ {L : List Nat}, (∀ n ∈ L, 0 < n) → 0 < prodL L
  | [], _ => Nat.one_pos
  | n :: r, h => Nat.mul_pos (h n (by simp)) (prodL_pos fun m hm => h m (by simp [hm]))
theorem carry_dig : ∀ (L : List Nat) (N : Nat), (∀ n ∈ L, 0 < n) → N < prodL L →
    (carry L (dig L N) = none → N + 1 = prodL L) ∧ ∀ ds, carry L (dig L N) = some ds → ds = dig L (N + 1) ∧ N + 1 < prodL L
  | [], N, _, h => by
    have h : N < 1 := h
    refine ⟨fun _ => by show N + 1 = 1; omega, fun ds e => by simp [carry, dig] at e⟩
  | n :: r, N, hp, h => by
    have h : N < n * prodL r := h
    have hn := hp n (by simp)
    have hq : N / n < prodL r := Nat.div_lt_of_lt_mul h
    obtain ⟨i1, i2⟩ := carry_dig r (N / n) (fun m hm => hp m (by simp [hm])) hq
    have hd := Nat.mod_lt N hn
    have e0 := Nat.div_add_mod N n
    simp only [dig, carry]
    by_cases hm : N % n = n - 1
    · rw [if_pos hm]
      have e1 : N + 1 = n * (N / n + 1) := by rw [Nat.mul_add, Nat.mul_one]; omega
      refine ⟨fun e => ?_, fun ds e => ?_⟩
      · rw [Option.map_eq_none_iff] at e
        rw [e1, i1 e]; rfl
      · obtain ⟨ds', e', rfl⟩ := Option.map_eq_some_iff.1 e
        obtain ⟨rfl, hlt⟩ := i2 _ e'
        refine ⟨?_, ?_⟩
        · rw [e1, Nat.mul_mod_right, Nat.mul_div_cancel_left _ hn]
        · rw [e1]; exact Nat.mul_lt_mul_of_pos_left hlt hn
    · rw [if_neg hm]
      refine ⟨fun e => (by cases e), fun ds e => ?_⟩
      injection e with e
      subst e
      have e1 : N + 1 = N % n + 1 + n * (N / n) := by omega
      refine ⟨?_, ?_⟩
      · have a1 : (N + 1) % n = N % n + 1 := by
          conv => lhs; rw [e1]
          rw [Nat.add_mul_mod_self_left, Nat.mod_eq_of_lt (by omega)]
        have a2 : (N + 1) / n = N / n := by
          conv => lhs; rw [e1]
          rw [Nat.add_mul_div_left _ _ hn, Nat.div_eq_of_lt (by omega), Nat.zero_add]
        rw [a1, a2]
      · show N + 1 < n * prodL r
        have : n * (N / n + 1) ≤ n * prodL r := Nat.mul_le_mul_left n (by omega)
        rw [Nat.mul_add, Nat.mul_one] at this
        omega
theorem carry_full : ∀ (L ds : List Nat) (hl : ds.length = L.length), (∀ i (h : i < L.length), ds[i]'(by omega) = L[i] - 1) → carry L ds = none
  | [], [], _, _ => rfl
  | [], d :: ds, h, _ => by simp at h
  | n :: r, [], h, _ => by simp at h
  | n :: r, d :: ds, hl, h => by
    have h0 := h 0 (by simp)
    simp only [List.getElem_cons_zero] at h0
    have ih := carry_full r ds (by simpa using hl) (fun i hi => by
      have := h (i + 1) (by simpa using hi)
      simpa only [List.getElem_cons_succ] using this)
    simp [carry, h0, ih]
theorem carry_at : ∀ (L ds : List Nat) (hl : ds.length = L.length) (i : Nat) (hi : i < L.length), (∀ t (h : t < i), ds[t]'(by omega) = L[t] - 1) → ds[i]'(by omega) ≠ L[i] - 1 →
    carry L ds = some (List.replicate i 0 ++ (ds[i]'(by omega) + 1) :: ds.drop (i + 1))
  | [], _, _, i, hi, _, _ => by simp at hi
  | n :: r, [], h, _, _, _, _ => by simp at h
  | n :: r, d :: ds, hl, 0, _, _, hne => by
    simp only [List.getElem_cons_zero] at hne
    simp [carry, hne]
  | n :: r, d :: ds, hl, i + 1, hi, h, hne => by
    have h0 := h 0 (by omega)
    simp only [List.getElem_cons_zero] at h0
    have ih := carry_at r ds (by simpa using hl) i (by simpa using hi) (fun t ht => by
      have := h (t + 1) (by omega)
      simpa only [List.getElem_cons_succ] using this) (by simpa only [List.getElem_cons_succ] using hne)
    simp [carry, h0, ih, List.replicate_succ]
/-- The cuts that are picked. -/
def pickF : List (List Int) → List Nat → List Int
  | c :: cs, d :: ds => c.getD d 0 :: pickF cs ds
  | _, _ => []
theorem pickF_len : ∀ {cs : List (List Int)} {ds : List Nat}, ds.length = cs.length → (pickF cs ds).length = cs.length
  | [], _, _ => by simp [pickF]
  | c :: cs, [], h => by simp at h
  | c :: cs, d :: ds, h => by simp [pickF, pickF_len (cs := cs) (ds := ds) (by simpa using h)]
theorem pickF_take : ∀ {cs : List (List Int)} {ds : List Nat} {i : Nat}, ds.length = cs.length → ∀ (hi : i < cs.length), pickF (cs.take (i + 1)) (ds.take (i + 1)) = pickF (cs.take i) (ds.take i) ++ [cs[i].getD (ds.getD i 0) 0]
  | c :: cs, [], _, h, _ => by simp at h
  | c :: cs, d :: ds, 0, h, hi => by simp [pickF]
  | c :: cs, d :: ds, i + 1, h, hi => by
    simp only [List.take_succ_cons, pickF, List.cons_append, List.getElem_cons_succ, List.getD_cons_succ]
    rw [pickF_take (i := i) (by simpa using h) (by simpa using hi)]
def lensF (l : List Ev) : List Nat := (choicesF l).map List.length
def cutsAt (l : List Ev) (N : Nat) : List Int := pickF (choicesF l) (dig (lensF l) N)
theorem lensF_pos (l : List Ev) : ∀ n ∈ lensF l, 0 < n := fun n hn => by
  obtain ⟨c, hc, rfl⟩ := List.mem_map.1 hn
  obtain ⟨p, hp, rfl⟩ := List.mem_map.1 hc
  have := cutsR_le l [] p hp
  simp only [rangeF, List.length_map, List.length_range]
  omega
/-- May it be? -/
def judgeF (z : ByteArray) (l : List Ev) : Bool := (List.range (prodL (lensF l))).any fun N => okF z l (cutsAt l N)
theorem judge_yes {z : ByteArray} {l : List Ev} {N : Nat} (hN : N < prodL (lensF l)) (h : okF z l (cutsAt l N) = true) : judgeF z l = true :=
  List.any_eq_true.2 ⟨N, List.mem_range.2 hN, h⟩
theorem judge_no {z : ByteArray} {l : List Ev} (h : ∀ N, N < prodL (lensF l) → okF z l (cutsAt l N) = false) : judgeF z l = false := by
  rw [← Bool.not_eq_true]
  intro hj
  obtain ⟨N, hN, hk⟩ := List.any_eq_true.1 hj
  rw [h N (List.mem_range.1 hN)] at hk
  cases hk
end Go.Sh.Hi
