/- HistPlain, in plain words: commits that each read what was written last. Conditions: none. -/
import Derived.Test.YtmmnifbponhhfaaHistI
set_option linter.unusedSimpArgs false
set_option linter.unusedVariables false
namespace Go.Proofs.Ytmmnifbponhhfaa
open Go.Sh Go.Sh.Hi
set_option maxRecDepth 100000
section
variable {L L1 L2 : List Ev} {d d' : Nat → ByteArray} {e : Ev} {rv : Value}
def ims (d : Nat → ByteArray) : List Im := (List.range 10).map fun b : Nat => ((b : Int), 0, d b)
def upd (d : Nat → ByteArray) (b : Nat) (x : ByteArray) : Nat → ByteArray := fun k => if k = b then x else d k
theorem ims_len : (ims d).length = 10 := by simp [ims]
theorem ims_get {b : Nat} (hb : b < 10) : (ims d)[b]? = some ((b : Int), 0, d b) := by
  unfold ims
  rw [List.getElem?_map, List.getElem?_range hb]; rfl
theorem ims_set {b : Nat} {x : ByteArray} (hb : b < 10) : (ims d).set b ((b : Int), 0, x) = ims (upd d b x) := by
  refine List.ext_getElem? fun i => ?_
  rw [List.getElem?_set]
  by_cases h : b = i
  · subst h
    rw [if_pos rfl, if_pos (by rw [ims_len]; exact hb), ims_get hb]
    simp [upd]
  · rw [if_neg h]
    by_cases hi : i < 10
    · rw [ims_get hi, ims_get hi]
      simp [upd, Ne.symm h]
    · rw [List.getElem?_eq_none (by rw [ims_len]; omega), List.getElem?_eq_none (by rw [ims_len]; omega)]
/-- Commits that each read what was written last. -/
structure PlI (L : List Ev) (d : Nat → ByteArray) : Prop where
  ok : (playF Z96 L []).ok = true
  gone : (playF Z96 L []).gone = []
  al : aloneF Z96 (playF Z96 L []).stay = ((playF Z96 L []).a, true)
  ar : ∀ b : Nat, b < 10 → (arGet (b : Int) (playF Z96 L []).a).getD Z96 = d b
  kd : ∀ e ∈ L, e.kind = 1
  d8 : ∀ b, b < 10 → hd (d b) ≠ some 238 ∧ (d b).size = 96
  rd : ∀ e ∈ L, ∀ i ∈ e.rd, hd i.2.2 ≠ some 238 ∧ i.2.2.size = 96
theorem PlI.nil : PlI [] fun _ => Z96 :=
  ⟨rfl, rfl, rfl, fun b hb => rfl, fun e he => (by cases he), fun b hb => ⟨by rw [hd_zero]; decide, zeros_size 96⟩, fun e he => (by cases he)⟩
theorem reads_d {A : Ar} (h : ∀ b : Nat, b < 10 → (arGet (b : Int) A).getD Z96 = d b) {l : List Im} (hl : ∀ i ∈ l, ∃ b : Nat, b < 10 ∧ i = ((b : Int), 0, d b)) : readsF Z96 A l = true :=
  List.all_eq_true.2 fun i hi => by
    obtain ⟨b, hb, rfl⟩ := hl i hi
    exact decide_eq_true (h b hb)
theorem PlI.add (h : PlI L d) (hk : e.kind = 1) (hr : ∀ i ∈ e.rd, ∃ b : Nat, b < 10 ∧ i = ((b : Int), 0, d b)) (hw : ∀ b : Nat, b < 10 → (arGet (b : Int) (writeF (playF Z96 L []).a e.wr)).getD Z96 = d' b)
    (hd' : ∀ b, b < 10 → hd (d' b) ≠ some 238 ∧ (d' b).size = 96) : PlI (L ++ [e]) d' := by
  have hrd := reads_d h.ar hr
  have hst : Hi.stepF Z96 L e (playF Z96 L []) = { playF Z96 L [] with a := writeF (playF Z96 L []).a e.wr, ok := (playF Z96 L []).ok && readsF Z96 (playF Z96 L []).a e.rd, stay := (playF Z96 L []).stay ++ [greatF e L] } := by
    unfold Hi.stepF; rw [if_pos hk, if_neg (by rw [h.gone]; simp)]
  have g := greatF_eq e L
  refine ⟨?_, ?_, ?_, ?_, fun x hx => ?_, hd', fun x hx i hi => ?_⟩
  · rw [playF_snoc, hst]; simp only [h.ok, hrd, Bool.and_self]
  · rw [playF_snoc, hst]; exact h.gone
  · rw [playF_snoc, hst]
    dsimp only
    rw [aloneF_snoc, h.al, g.2.2.2.2.2.2, g.2.2.2.2.2.1]
    simp only [hrd, Bool.and_self]
  · rw [playF_snoc, hst]; exact hw
  · rcases List.mem_append.1 hx with hx | hx
    · exact h.kd x hx
    · rw [List.mem_singleton.1 hx]; exact hk
  · rcases List.mem_append.1 hx with hx | hx
    · exact h.rd x hx i hi
    · rw [List.mem_singleton.1 hx] at hi
      obtain ⟨b, hb, rfl⟩ := hr i hi
      exact h.d8 b hb
theorem noGone (hl : L.length ≤ 200) (hk : ∀ e ∈ L, e.kind = 1 ∨ e.kind = 4) : errF L = 0 ∧ judgeF Z96 L = Hi.okF Z96 L [] := by
  have hc : cutsR [] L = [] := by
    have gen : ∀ (l pre : List Ev), (∀ e ∈ l, e.kind = 1 ∨ e.kind = 4) → cutsR pre l = [] := by
      intro l
      induction l with
      | nil => intro _ _; rfl
      | cons e l ih =>
        intro pre h
        simp only [cutsR]
        rw [if_neg (by rcases h e (by simp) with h | h <;> rw [h] <;> decide), ih _ fun x hx => h x (by simp [hx])]; rfl
    exact gen L [] hk
  refine ⟨?_, ?_⟩
  · unfold errF
    rw [if_neg (by omega), hc, if_neg (by intro h; cases h)]
    have : kindsF L = true := List.all_eq_true.2 fun e he => by rcases hk e he with h | h <;> rw [h] <;> rfl
    rw [if_pos this]
  · simp [judgeF, cutsAt, choicesF, hc, lensF, dig, pickF, prodL, List.range, List.range.loop]
theorem PlI.judge1 (h : PlI L d) (hl : L.length ≤ 100) : errF (L ++ [⟨4, 0, 0, 0, rv, .slice none 0 0, ims d, []⟩]) = 0 ∧ judgeF Z96 (L ++ [⟨4, 0, 0, 0, rv, .slice none 0 0, ims d, []⟩]) = true := by
  obtain ⟨h1, h2⟩ := noGone (L := L ++ [⟨4, 0, 0, 0, rv, .slice none 0 0, ims d, []⟩]) (by rw [List.length_append]; simp; omega) (fun x hx => by
    rcases List.mem_append.1 hx with hx | hx
    · exact .inl (h.kd x hx)
    · rw [List.mem_singleton.1 hx]; exact .inr rfl)
  refine ⟨h1, ?_⟩
  rw [h2]
  have hrd : readsF Z96 (playF Z96 L []).a (ims d) = true := reads_d h.ar fun i hi => by
    obtain ⟨b, hb, rfl⟩ := List.mem_map.1 hi
    exact ⟨b, List.mem_range.1 hb, rfl⟩
  unfold Hi.okF
  rw [playF_snoc]
  simp only [Hi.stepF, show ((4 : Int) = 1) = False from by simp, show ((4 : Int) = 3) = False from by simp, if_false, if_true]
  rw [h.ok, hrd, h.al]
  rfl
theorem play_false {l' : List Ev} {cuts : List Int} : ∀ {l : List Ev}, (playF Z96 l cuts).ok = false → (playF Z96 (l ++ l') cuts).ok = false := by
  induction l' with
  | nil => intro l h; rw [List.append_nil]; exact h
  | cons e l' ih =>
    intro l h
    rw [show l ++ e :: l' = (l ++ [e]) ++ l' by simp]
    refine ih ?_
    rw [playF_snoc]
    unfold Hi.stepF
    split
    · split
      · exact h
      · simp only [h, Bool.false_and]
    · split
      · exact h
      · split
        · simp only [h, Bool.false_and]
        · exact h
theorem PlI.judge2 {k : Nat} {i : Im} {x : ByteArray} (h : PlI (L1 ++ e :: L2) d) (hl : (L1 ++ e :: L2).length ≤ 100) (hi : e.rd[k]? = some i) (hx : hd x = some 238) :
    errF (L1 ++ { e with rv := rv, rd := e.rd.set k (i.1, i.2.1, x) } :: L2) = 0 ∧ judgeF Z96 (L1 ++ { e with rv := rv, rd := e.rd.set k (i.1, i.2.1, x) } :: L2) = false := by
  have he : e.kind = 1 := h.kd e (by simp)
  obtain ⟨h1, h2⟩ := noGone (L := L1 ++ { e with rv := rv, rd := e.rd.set k (i.1, i.2.1, x) } :: L2) (by rw [List.length_append] at *; simp only [List.length_cons] at *; omega) (fun y hy => by
    rcases List.mem_append.1 hy with hy | hy
    · exact .inl (h.kd y (by simp [hy]))
    · rcases List.mem_cons.1 hy with rfl | hy
      · exact .inl he
      · exact .inl (h.kd y (by simp [hy])))
  refine ⟨h1, ?_⟩
  rw [h2]
  have hok : (playF Z96 (L1 ++ [e]) []).ok = true := by
    cases hc : (playF Z96 (L1 ++ [e]) []).ok with
    | true => rfl
    | false =>
      have := play_false (l' := L2) hc
      rw [show L1 ++ [e] ++ L2 = L1 ++ e :: L2 by simp, h.ok] at this
      cases this
  have hgone : (playF Z96 L1 []).gone = [] := by
    have gen : ∀ l : List Ev, (∀ e ∈ l, e.kind = 1) → (playF Z96 l []).gone = [] := by
      refine rev_ind (fun _ => rfl) (fun l e ih hk => ?_)
      rw [playF_snoc]
      unfold Hi.stepF
      rw [if_pos (hk e (by simp)), if_neg (by rw [ih fun x hx => hk x (by simp [hx])]; simp)]
      exact ih fun x hx => hk x (by simp [hx])
    exact gen L1 fun x hx => h.kd x (by simp [hx])
  have hst : ∀ y : Ev, y.kind = 1 → (playF Z96 (L1 ++ [y]) []).ok = ((playF Z96 L1 []).ok && readsF Z96 (playF Z96 L1 []).a y.rd) := fun y hy => by
    rw [playF_snoc]
    unfold Hi.stepF
    rw [if_pos hy, if_neg (by rw [hgone]; simp)]
  rw [hst e he, Bool.and_eq_true] at hok
  have hmem : i ∈ e.rd := List.mem_of_getElem? hi
  have hri := readsF_take hok.2 i hmem
  have hkl : k < e.rd.length := (List.getElem?_eq_some_iff.1 hi).1
  have hbad : readsF Z96 (playF Z96 L1 []).a (e.rd.set k (i.1, i.2.1, x)) = false := by
    rw [← Bool.not_eq_true]
    intro hr
    have := readsF_take hr (i.1, i.2.1, x) (List.mem_of_getElem? (i := k) (by rw [List.getElem?_set_self hkl]))
    dsimp only at this
    rw [hri] at this
    have h3 := (h.rd e (by simp) i hmem).1
    rw [this] at h3
    exact h3 hx
  have hbad2 : (playF Z96 (L1 ++ [{ e with rv := rv, rd := e.rd.set k (i.1, i.2.1, x) }]) []).ok = false := by
    rw [hst { e with rv := rv, rd := e.rd.set k (i.1, i.2.1, x) } he]
    dsimp only
    rw [hbad, Bool.and_false]
  have := play_false (l' := L2) hbad2
  unfold Hi.okF
  rw [show L1 ++ { e with rv := rv, rd := e.rd.set k (i.1, i.2.1, x) } :: L2 = L1 ++ [{ e with rv := rv, rd := e.rd.set k (i.1, i.2.1, x) }] ++ L2 by simp, this]
  rfl
end
end Go.Proofs.Ytmmnifbponhhfaa
