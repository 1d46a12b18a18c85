/- Histories as the document tells them: the array a sorted list of images, counts told behind the fact. Conditions: as each says. -/
import Derived.Test.YtmmnifbponhhfaaGreatTHistX
set_option linter.unusedSimpArgs false
set_option linter.unusedVariables false
namespace Go.Sh.Hi
abbrev dOf (D : List Im) : Ar := D.map fun i => (i.1, i.2.2)
def insD (x : Im) : List Im → List Im
  | [] => [x]
  | y :: r => if y.1 < x.1 then y :: insD x r else if y.1 = x.1 then x :: r else x :: y :: r
abbrev w0 (i : Im) : Im := (i.1, 0, i.2.2)
def writeD (D l : List Im) : List Im := l.foldl (fun D i => insD (w0 i) D) D
theorem writeD_snoc {D l : List Im} {i : Im} : writeD D (l ++ [i]) = insD (w0 i) (writeD D l) := by simp [writeD]
def EqA (A B : Ar) : Prop := ∀ b, arGet b A = arGet b B
theorem insD_get {x : Im} {b : Int} : ∀ {D : List Im}, arGet b (dOf (insD x D)) = if b = x.1 then some x.2.2 else arGet b (dOf D)
  | [] => rfl
  | y :: r => by
    unfold insD
    split
    · rename_i h
      show (if b = y.1 then some y.2.2 else arGet b (dOf (insD x r))) = _
      by_cases h1 : b = y.1
      · rw [if_pos h1, if_neg (by omega)]
        show _ = if b = y.1 then some y.2.2 else _
        rw [if_pos h1]
      · rw [if_neg h1, insD_get]
        show _ = if b = x.1 then _ else (if b = y.1 then some y.2.2 else _)
        rw [if_neg h1]
    · split
      · rename_i _ h
        show (if b = x.1 then some x.2.2 else arGet b (dOf r)) = if b = x.1 then _ else (if b = y.1 then some y.2.2 else _)
        by_cases h1 : b = x.1
        · rw [if_pos h1, if_pos h1]
        · rw [if_neg h1, if_neg h1, if_neg (by omega)]
      · rfl
def SrtD (D : List Im) : Prop := D.Pairwise (fun x y => x.1 < y.1) ∧ ∀ x ∈ D, x.2.1 = 0
theorem insD_mem {x z : Im} : ∀ {D : List Im}, z ∈ insD x D → z = x ∨ z ∈ D
  | [], h => by simpa [insD] using h
  | y :: r, h => by
    unfold insD at h
    split at h
    · rcases List.mem_cons.1 h with rfl | h
      · exact .inr (by simp)
      · rcases insD_mem h with rfl | h
        · exact .inl rfl
        · exact .inr (by simp [h])
    · split at h
      · rcases List.mem_cons.1 h with rfl | h
        · exact .inl rfl
        · exact .inr (by simp [h])
      · rcases List.mem_cons.1 h with rfl | h
        · exact .inl rfl
        · exact .inr h
theorem insD_srt {x : Im} (hx : x.2.1 = 0) {D : List Im} (h : SrtD D) : SrtD (insD x D) := by
  refine ⟨?_, fun z hz => ?_⟩
  · have h1 := h.1
    clear h
    induction D with
    | nil => simp [insD]
    | cons y r ih =>
      obtain ⟨hy, hr⟩ := List.pairwise_cons.1 h1
      unfold insD
      split
      · rename_i hlt
        refine List.pairwise_cons.2 ⟨fun z hz => ?_, ih hr⟩
        rcases insD_mem hz with rfl | hz
        · exact hlt
        · exact hy z hz
      · split
        · rename_i _ he
          exact List.pairwise_cons.2 ⟨fun z hz => by have := hy z hz; omega, hr⟩
        · refine List.pairwise_cons.2 ⟨fun z hz => ?_, h1⟩
          rcases List.mem_cons.1 hz with rfl | hz
          · omega
          · have := hy z hz; omega
  · rcases insD_mem hz with rfl | hz
    · exact hx
    · exact h.2 z hz
theorem writeD_srt : ∀ {l D : List Im}, SrtD D → SrtD (writeD D l)
  | [], _, h => h
  | i :: l, D, h => writeD_srt (l := l) (insD_srt (x := w0 i) rfl h)
theorem writeD_eq : ∀ {l D : List Im} {A : Ar}, EqA A (dOf D) → EqA (writeF A l) (dOf (writeD D l))
  | [], _, _, h => h
  | i :: l, D, A, h => writeD_eq (l := l) fun b => by rw [arGet_put, insD_get, h b]
theorem readsF_eq {z : ByteArray} {A B : Ar} (h : EqA A B) (l : List Im) : readsF z A l = readsF z B l := by
  unfold readsF
  congr 1
  funext i
  rw [h]
/-! ### what a commit counts as -/
def countF (pre : List Ev) (y : Ev) : Int := if y.lsn = 0 then maxL (fun x => same x y) y.lsn pre else y.lsn
def stillR (e : Ev) (cut : Int) : List Ev → List Ev → List Ev
  | _, [] => []
  | pre, y :: r => (if same y e = true ∧ cut < countF pre y then [] else [y]) ++ stillR e cut (pre ++ [y]) r
def stillF (e : Ev) (cut : Int) (l : List Ev) : List Ev := stillR e cut [] l
theorem stillR_append {e : Ev} {cut : Int} : ∀ (l l' pre : List Ev), stillR e cut pre (l ++ l') = stillR e cut pre l ++ stillR e cut (pre ++ l) l'
  | [], l', pre => by simp [stillR]
  | y :: l, l', pre => by
    simp only [List.cons_append, stillR]
    rw [stillR_append l l' (pre ++ [y])]
    simp
theorem stillF_snoc {e y : Ev} {cut : Int} {l : List Ev} : stillF e cut (l ++ [y]) = stillF e cut l ++ if same y e = true ∧ cut < countF l y then [] else [y] := by
  unfold stillF
  rw [stillR_append]
  simp [stillR]
def cR : List Ev → List Ev → List Ev
  | _, [] => []
  | pre, y :: r => { y with lsn := countF pre y } :: cR (pre ++ [y]) r
def cF (l : List Ev) : List Ev := cR [] l
theorem cR_append : ∀ (l l' pre : List Ev), cR pre (l ++ l') = cR pre l ++ cR (pre ++ l) l'
  | [], l', pre => by simp [cR]
  | y :: l, l', pre => by
    simp only [List.cons_append, cR]
    rw [cR_append l l' (pre ++ [y])]
    simp
theorem cF_snoc {l : List Ev} {y : Ev} : cF (l ++ [y]) = cF l ++ [{ y with lsn := countF l y }] := by
  unfold cF
  rw [cR_append]
  simp [cR]
theorem same_iff {x y : Ev} : same x y = true ↔ x.node = y.node ∧ x.epoch = y.epoch := by simp [same]
theorem same_symm {x y : Ev} (h : same x y = true) : same y x = true := by rw [same_iff] at *; exact ⟨h.1.symm, h.2.symm⟩
theorem same_trans {x y z : Ev} (h : same x y = true) (h' : same y z = true) : same x z = true := by rw [same_iff] at *; exact ⟨h.1.trans h'.1, h.2.trans h'.2⟩
theorem maxL_filter {p : Ev → Bool} : ∀ {l : List Ev} {m : Int}, maxL p m l = maxL p m (l.filter p)
  | [], m => rfl
  | x :: l, m => by
    by_cases h : p x = true
    · rw [List.filter_cons_of_pos h]
      show maxL p (if p x = true then _ else _) l = maxL p (if p x = true then _ else _) (l.filter p)
      rw [maxL_filter]
    · rw [List.filter_cons_of_neg h]
      show maxL p (if p x = true then _ else _) l = _
      rw [if_neg h, maxL_filter]
theorem maxL_congr {p q : Ev → Bool} : ∀ {l : List Ev} {m : Int}, (∀ x ∈ l, p x = q x) → maxL p m l = maxL q m l
  | [], m, _ => rfl
  | x :: l, m, h => by
    show maxL p (if p x = true then _ else _) l = maxL q (if q x = true then _ else _) l
    rw [h x (by simp), maxL_congr fun y hy => h y (by simp [hy])]
theorem maxL_le {p : Ev → Bool} {B : Int} {l : List Ev} {m : Int} (h : m ≤ B) (hl : ∀ x ∈ l, p x = true → x.lsn ≤ B) : maxL p m l ≤ B := by
  rw [maxL_filter]
  have : ∀ {l : List Ev} {m : Int}, m ≤ B → (∀ x ∈ l, x.lsn ≤ B) → maxL p m l ≤ B := by
    intro l
    induction l with
    | nil => intro m h _; exact h
    | cons x l ih =>
      intro m h hl
      show maxL p (if p x = true then max m x.lsn else m) l ≤ B
      refine ih ?_ fun y hy => hl y (by simp [hy])
      have := hl x (by simp)
      split <;> omega
  exact this h fun x hx => hl x (List.mem_filter.1 hx).1 (List.mem_filter.1 hx).2
theorem maxL_mem {p : Ev → Bool} : ∀ {l : List Ev} {m : Int} {x : Ev}, x ∈ l → p x = true → x.lsn ≤ maxL p m l
  | y :: l, m, x, hx, hp => by
    show x.lsn ≤ maxL p (if p y = true then max m y.lsn else m) l
    rcases List.mem_cons.1 hx with rfl | hx
    · rw [if_pos hp]
      refine Int.le_trans ?_ maxL_ge
      omega
    · exact maxL_mem hx hp
/-- Of another pair, all stay. -/
theorem still_other {e : Ev} {cut : Int} {g : Ev} (hg : ¬ same g e = true) : ∀ l : List Ev, (stillF e cut l).filter (fun x => same x g) = l.filter fun x => same x g := by
  refine rev_ind rfl fun l y ih => ?_
  rw [stillF_snoc, List.filter_append, List.filter_append, ih]
  congr 1
  split
  · rename_i h
    have : ¬ same y g = true := fun h2 => hg (same_trans (same_symm h2) h.1)
    simp [this]
  · rfl
theorem still_same {e : Ev} {cut : Int} {g : Ev} : ∀ l : List Ev, (∀ x ∈ l, same x g = true → x.lsn ≤ cut) → (stillF e cut l).filter (fun x => same x g) = l.filter fun x => same x g := by
  refine rev_ind (fun _ => rfl) fun l y ih h => ?_
  rw [stillF_snoc, List.filter_append, List.filter_append, ih fun x hx => h x (by simp [hx])]
  congr 1
  by_cases hy : same y g = true
  · rw [if_neg]
    rintro ⟨_, h2⟩
    have hy2 := h y (by simp) hy
    unfold countF at h2
    split at h2
    · have : maxL (fun x => same x y) y.lsn l ≤ cut := maxL_le hy2 fun x hx hp => h x (by simp [hx]) (same_trans hp hy)
      omega
    · omega
  · split
    · simp [hy]
    · rfl
theorem count_filter {l l' : List Ev} {y : Ev} (h : l.filter (fun x => same x y) = l'.filter fun x => same x y) : countF l y = countF l' y := by
  unfold countF
  rw [maxL_filter (l := l), maxL_filter (l := l'), h]
/-- What stays counts as it did. -/
theorem still_counts {e : Ev} {cut : Int} : ∀ l : List Ev, (cF l).filter (keepB e cut) = cF (stillF e cut l) := by
  refine rev_ind rfl fun l y ih => ?_
  rw [cF_snoc, List.filter_append, ih, stillF_snoc]
  have hs : same { y with lsn := countF l y } e = same y e := rfl
  by_cases h : same y e = true ∧ cut < countF l y
  · rw [if_pos h, List.append_nil]
    have : keepB e cut { y with lsn := countF l y } = false := by
      unfold keepB; rw [hs, h.1]; simp [h.2]
    simp [this]
  · rw [if_neg h, cF_snoc]
    have hk : keepB e cut { y with lsn := countF l y } = true := by
      unfold keepB; rw [hs]
      by_cases h1 : same y e = true
      · have h2 : ¬ cut < countF l y := fun h2 => h ⟨h1, h2⟩
        simp [h2]
      · simp [h1]
    rw [List.filter_cons_of_pos hk]
    congr 1
    have hc : countF (stillF e cut l) y = countF l y := by
      by_cases h1 : same y e = true
      · have h2 : ¬ cut < countF l y := fun h2 => h ⟨h1, h2⟩
        by_cases h0 : y.lsn = 0
        · refine count_filter (still_same l fun x hx hp => ?_)
          have := maxL_mem (m := y.lsn) hx (p := fun x => same x y) hp
          unfold countF at h2
          rw [if_pos h0] at h2
          omega
        · unfold countF; rw [if_neg h0, if_neg h0]
      · exact count_filter (still_other h1 l)
    rw [hc]; rfl
/-! ### the document's play -/
structure DSt where
  a : List Im
  ok : Bool
  there : List Ev
  gone : List Ev
def allW (l : List Ev) : List Im := l.foldl (fun D y => writeD D y.wr) []
def stepD (z : ByteArray) (cuts : List Int) (s : DSt) (e : Ev) : DSt :=
  if e.kind = 1 then
    if s.gone.any (fun g => same g e) = true then s
    else { s with a := writeD s.a e.wr, ok := s.ok && readsF z (dOf s.a) e.rd, there := s.there ++ [e] }
  else if e.kind = 3 then
    { s with a := allW (stillF e (cuts.getD s.gone.length 0) s.there), there := stillF e (cuts.getD s.gone.length 0) s.there, gone := s.gone ++ [e] }
  else if e.kind = 4 then { s with ok := s.ok && readsF z (dOf s.a) e.rd }
  else s
def playD (z : ByteArray) (l : List Ev) (cuts : List Int) : DSt := l.foldl (stepD z cuts) ⟨[], true, [], []⟩
theorem playD_snoc {z : ByteArray} {l : List Ev} {e : Ev} {cuts : List Int} : playD z (l ++ [e]) cuts = stepD z cuts (playD z l cuts) e := by simp [playD]
def aloneD (z : ByteArray) (l : List Ev) : List Im × Bool := l.foldl (fun s e => (writeD s.1 e.wr, s.2 && readsF z (dOf s.1) e.rd)) ([], true)
theorem aloneD_snoc {z : ByteArray} {l : List Ev} {e : Ev} : aloneD z (l ++ [e]) = (writeD (aloneD z l).1 e.wr, (aloneD z l).2 && readsF z (dOf (aloneD z l).1) e.rd) := by simp [aloneD]
theorem allW_snoc {l : List Ev} {e : Ev} : allW (l ++ [e]) = writeD (allW l) e.wr := by simp [allW]
theorem alone_allW {z : ByteArray} : ∀ l, (aloneD z l).1 = allW l := by
  refine rev_ind rfl fun l e ih => ?_
  rw [aloneD_snoc, allW_snoc, ih]
theorem allW_srt : ∀ l, SrtD (allW l) := by
  refine rev_ind ⟨List.Pairwise.nil, fun x hx => by cases hx⟩ fun l e ih => ?_
  rw [allW_snoc]; exact writeD_srt ih
theorem alone_eq {z : ByteArray} : ∀ l, EqA (aloneF z (cF l)).1 (dOf (allW l)) ∧ (aloneF z (cF l)).2 = (aloneD z l).2 := by
  refine rev_ind ⟨fun _ => rfl, rfl⟩ fun l e ih => ?_
  rw [cF_snoc, aloneF_snoc, allW_snoc, aloneD_snoc, alone_allW]
  refine ⟨writeD_eq ih.1, ?_⟩
  show ((aloneF z (cF l)).2 && readsF z (aloneF z (cF l)).1 e.rd) = _
  rw [ih.2, readsF_eq ih.1]
structure DI (z : ByteArray) (l : List Ev) (cuts : List Int) : Prop where
  a : (playD z l cuts).a = allW (playD z l cuts).there
  A : (playF z l cuts).a = (aloneF z (playF z l cuts).stay).1
  ok : (playF z l cuts).ok = (playD z l cuts).ok
  st : (playF z l cuts).stay = cF (playD z l cuts).there
  gone : (playF z l cuts).gone = (playD z l cuts).gone.map fun g => (g.node, g.epoch)
  ct : (playF z l cuts).cuts = cuts.drop (playD z l cuts).gone.length
  fil : ∀ g : Ev, (g.node, g.epoch) ∉ (playF z l cuts).gone → l.filter (fun x => decide (x.kind = 1) && same x g) = (playD z l cuts).there.filter fun x => same x g
theorem DI.eqA {z : ByteArray} {l : List Ev} {cuts : List Int} (h : DI z l cuts) : EqA (playF z l cuts).a (dOf (playD z l cuts).a) := by
  rw [h.A, h.a, h.st]; exact (alone_eq _).1
theorem play_doc {z : ByteArray} {cuts : List Int} : ∀ l : List Ev, (∀ e ∈ l, 0 ≤ e.lsn) → DI z l cuts := by
  refine rev_ind (fun _ => ⟨rfl, rfl, rfl, rfl, rfl, rfl, fun g _ => rfl⟩) fun l e ih hl => ?_
  have h := ih fun x hx => hl x (by simp [hx])
  have he := hl e (by simp)
  have hmem : (e.node, e.epoch) ∈ (playF z l cuts).gone ↔ (playD z l cuts).gone.any (fun g => same g e) = true := by
    rw [h.gone, List.mem_map, List.any_eq_true]
    constructor
    · rintro ⟨g, hg, e1⟩
      injection e1 with e1 e2
      exact ⟨g, hg, same_iff.2 ⟨e1, e2⟩⟩
    · rintro ⟨g, hg, e1⟩
      have := same_iff.1 e1
      exact ⟨g, hg, by rw [this.1, this.2]⟩
  by_cases k1 : e.kind = 1
  · by_cases hm : (e.node, e.epoch) ∈ (playF z l cuts).gone
    · have e1 : playF z (l ++ [e]) cuts = playF z l cuts := by rw [playF_snoc]; unfold stepF; rw [if_pos k1, if_pos hm]
      have e2 : playD z (l ++ [e]) cuts = playD z l cuts := by rw [playD_snoc]; unfold stepD; rw [if_pos k1, if_pos (hmem.1 hm)]
      refine ⟨by rw [e2]; exact h.a, by rw [e1]; exact h.A, by rw [e1, e2]; exact h.ok, by rw [e1, e2]; exact h.st, by rw [e1, e2]; exact h.gone, by rw [e1, e2]; exact h.ct, fun g hg => ?_⟩
      rw [e1] at hg
      rw [e2, List.filter_append, h.fil g hg]
      have : ¬ same e g = true := fun hs => hg (by have := same_iff.1 hs; rw [← this.1, ← this.2]; exact hm)
      simp [this]
    · have e1 : playF z (l ++ [e]) cuts = { playF z l cuts with a := writeF (playF z l cuts).a e.wr, ok := (playF z l cuts).ok && readsF z (playF z l cuts).a e.rd, stay := (playF z l cuts).stay ++ [greatF e l] } := by rw [playF_snoc]; unfold stepF; rw [if_pos k1, if_neg hm]
      have e2 : playD z (l ++ [e]) cuts = { playD z l cuts with a := writeD (playD z l cuts).a e.wr, ok := (playD z l cuts).ok && readsF z (dOf (playD z l cuts).a) e.rd, there := (playD z l cuts).there ++ [e] } := by rw [playD_snoc]; unfold stepD; rw [if_pos k1, if_neg fun hh => hm (hmem.2 hh)]
      have hgr : greatF e l = { e with lsn := countF (playD z l cuts).there e } := by
        unfold greatF countF
        by_cases h0 : e.lsn = 0
        · rw [if_neg (by omega), if_pos h0, maxL_filter (l := l), h.fil e hm, maxL_filter (l := (playD z l cuts).there)]
          have e5 : maxL (fun x => decide (x.kind = 1) && same x e) e.lsn ((playD z l cuts).there.filter fun x => same x e) = maxL (fun x => same x e) e.lsn ((playD z l cuts).there.filter fun x => same x e) := maxL_congr fun x hx => by
            have h1 := (List.mem_filter.1 hx).2
            rw [← h.fil e hm] at hx
            have h2 := (List.mem_filter.1 hx).2
            exact h2.trans h1.symm
          rw [e5]
        · rw [if_pos (by omega), if_neg h0]
      refine ⟨?_, ?_, ?_, ?_, ?_, ?_, fun g hg => ?_⟩
      · rw [e2, allW_snoc, ← h.a]
      · rw [e1]
        dsimp only
        rw [aloneF_snoc, ← h.A, (greatF_eq e l).2.2.2.2.2.2]
      · rw [e1, e2]
        dsimp only
        rw [h.ok, readsF_eq h.eqA]
      · rw [e1, e2, cF_snoc, ← h.st, hgr]
      · rw [e1, e2]; exact h.gone
      · rw [e1, e2]; exact h.ct
      · rw [e1] at hg
        rw [e2, List.filter_append, List.filter_append, h.fil g hg]
        simp [List.filter_cons, k1]
  · by_cases k3 : e.kind = 3
    · have hcut : (playF z l cuts).cuts.headD 0 = cuts.getD (playD z l cuts).gone.length 0 := by
        rw [h.ct, List.headD_eq_head?_getD, List.head?_drop, List.getD_eq_getElem?_getD]
      have e1 : playF z (l ++ [e]) cuts = { playF z l cuts with a := (aloneF z ((playF z l cuts).stay.filter (keepB e ((playF z l cuts).cuts.headD 0)))).1, stay := (playF z l cuts).stay.filter (keepB e ((playF z l cuts).cuts.headD 0)), gone := (playF z l cuts).gone ++ [(e.node, e.epoch)], cuts := (playF z l cuts).cuts.tail } := by rw [playF_snoc]; unfold stepF; rw [if_neg k1, if_pos k3]
      have e2 : playD z (l ++ [e]) cuts = { playD z l cuts with a := allW (stillF e (cuts.getD (playD z l cuts).gone.length 0) (playD z l cuts).there), there := stillF e (cuts.getD (playD z l cuts).gone.length 0) (playD z l cuts).there, gone := (playD z l cuts).gone ++ [e] } := by rw [playD_snoc]; unfold stepD; rw [if_neg k1, if_pos k3]
      refine ⟨by rw [e2], by rw [e1], by rw [e1, e2]; exact h.ok, ?_, ?_, ?_, fun g hg => ?_⟩
      · rw [e1, e2]
        dsimp only
        rw [hcut, h.st, still_counts]
      · rw [e1, e2]
        dsimp only
        rw [h.gone, List.map_append]; rfl
      · rw [e1, e2]
        dsimp only
        rw [h.ct, List.tail_drop, List.length_append]; rfl
      · rw [e1] at hg
        have hg1 : (g.node, g.epoch) ∉ (playF z l cuts).gone := fun hh => hg (List.mem_append_left _ hh)
        have hg2 : ¬ same g e = true := fun hs => hg (List.mem_append_right _ (by have := same_iff.1 hs; rw [this.1, this.2]; simp))
        rw [e2, List.filter_append, h.fil g hg1]
        dsimp only
        rw [still_other hg2]
        simp [k1]
    · have fil : ∀ g : Ev, (l ++ [e]).filter (fun x => decide (x.kind = 1) && same x g) = l.filter (fun x => decide (x.kind = 1) && same x g) := fun g => by rw [List.filter_append]; simp [k1]
      by_cases k4 : e.kind = 4
      · have e1 : playF z (l ++ [e]) cuts = { playF z l cuts with ok := (playF z l cuts).ok && readsF z (playF z l cuts).a e.rd } := by rw [playF_snoc]; unfold stepF; rw [if_neg k1, if_neg k3, if_pos k4]
        have e2 : playD z (l ++ [e]) cuts = { playD z l cuts with ok := (playD z l cuts).ok && readsF z (dOf (playD z l cuts).a) e.rd } := by rw [playD_snoc]; unfold stepD; rw [if_neg k1, if_neg k3, if_pos k4]
        refine ⟨by rw [e2]; exact h.a, by rw [e1]; exact h.A, ?_, by rw [e1, e2]; exact h.st, by rw [e1, e2]; exact h.gone, by rw [e1, e2]; exact h.ct, fun g hg => ?_⟩
        · rw [e1, e2]
          dsimp only
          rw [h.ok, readsF_eq h.eqA]
        · rw [e1] at hg
          rw [e2, fil]; exact h.fil g hg
      · have e1 : playF z (l ++ [e]) cuts = playF z l cuts := by rw [playF_snoc]; unfold stepF; rw [if_neg k1, if_neg k3, if_neg k4]
        have e2 : playD z (l ++ [e]) cuts = playD z l cuts := by rw [playD_snoc]; unfold stepD; rw [if_neg k1, if_neg k3, if_neg k4]
        refine ⟨by rw [e2]; exact h.a, by rw [e1]; exact h.A, by rw [e1, e2]; exact h.ok, by rw [e1, e2]; exact h.st, by rw [e1, e2]; exact h.gone, by rw [e1, e2]; exact h.ct, fun g hg => ?_⟩
        rw [e1] at hg
        rw [e2, fil]; exact h.fil g hg
/-- May it be, as the document plays it? -/
def okD (z : ByteArray) (l : List Ev) (cuts : List Int) : Bool := (playD z l cuts).ok && (aloneD z (playD z l cuts).there).2
theorem ok_doc {z : ByteArray} {cuts : List Int} {l : List Ev} (h : ∀ e ∈ l, 0 ≤ e.lsn) : okF z l cuts = okD z l cuts := by
  have d := play_doc (z := z) (cuts := cuts) l h
  unfold okF okD
  rw [d.ok, d.st, (alone_eq _).2]
theorem arGet_some {b : Int} : ∀ {A : Ar}, (arGet b A).isSome = true ↔ b ∈ A.map (·.1)
  | [] => by simp [arGet]
  | p :: r => by
    unfold arGet
    by_cases h : b = p.1
    · rw [if_pos h]; simp [h]
    · rw [if_neg h, arGet_some]; simp [h]
theorem arPut_keys {b : Int} {d : ByteArray} : ∀ {A : Ar} (x : Int), x ∈ (arPut b d A).map (·.1) ↔ x = b ∨ x ∈ A.map (·.1) := fun {A} x => by
  rw [← arGet_some, arGet_put]
  split
  · rename_i h; simp [h]
  · rename_i h
    rw [arGet_some]
    exact ⟨.inr, fun e => e.resolve_left h⟩
theorem arPut_nodup {b : Int} {d : ByteArray} : ∀ {A : Ar}, (A.map (·.1)).Nodup → ((arPut b d A).map (·.1)).Nodup
  | [], _ => by simp [arPut]
  | p :: r, h => by
    rw [List.map_cons, List.nodup_cons] at h
    unfold arPut
    split
    · rename_i e
      rw [List.map_cons, List.nodup_cons]
      exact ⟨by rw [e]; exact h.1, h.2⟩
    · rename_i e
      rw [List.map_cons, List.nodup_cons]
      refine ⟨fun hm => ?_, arPut_nodup h.2⟩
      rcases (arPut_keys p.1).1 hm with h1 | h1
      · exact e h1.symm
      · exact h.1 h1
theorem writeF_nodup : ∀ {l : List Im} {A : Ar}, (A.map (·.1)).Nodup → ((writeF A l).map (·.1)).Nodup
  | [], _, h => h
  | i :: l, A, h => writeF_nodup (l := l) (arPut_nodup h)
theorem alone_nodup {z : ByteArray} : ∀ l, (((aloneF z l).1).map (·.1)).Nodup := by
  refine rev_ind List.nodup_nil fun l e ih => ?_
  rw [aloneF_snoc]; exact writeF_nodup ih
theorem srt_get {D : List Im} (h : SrtD D) {i : Im} (hi : i ∈ D) : i = (i.1, 0, (arGet i.1 (dOf D)).getD ⟨#[]⟩) := by
  have key : arGet i.1 (dOf D) = some i.2.2 := by
    have h1 := h.1
    clear h
    induction D with
    | nil => cases hi
    | cons y r ih =>
      obtain ⟨hy, hr⟩ := List.pairwise_cons.1 h1
      show (if i.1 = y.1 then some y.2.2 else arGet i.1 (dOf r)) = _
      rcases List.mem_cons.1 hi with rfl | hi
      · rw [if_pos rfl]
      · have := hy i hi
        rw [if_neg (by omega)]
        exact ih hi hr
  rw [key]
  have := h.2 i hi
  exact Prod.ext rfl (Prod.ext this rfl)
/-- What is told of the array's blocks is what the document has. -/
theorem told_doc {A : Ar} {D : List Im} {ks : List Int} (h : EqA A (dOf D)) (hs : SrtD D) (hA : (A.map (·.1)).Nodup) (hp : ks.Perm (A.map (·.1))) (hk : ks.Pairwise (· ≤ ·)) :
    ks.map (fun k => ((k, 0, (arGet k A).getD ⟨#[]⟩) : Im)) = D := by
  have hD : (D.map (·.1)).Pairwise (· < ·) := by rw [List.pairwise_map]; exact hs.1
  have nD : (D.map (·.1)).Nodup := hD.imp (by intro a b h; omega)
  have hperm : ks.Perm (D.map (·.1)) := by
    refine hp.trans ?_
    refine (List.perm_ext_iff_of_nodup hA nD).2 fun b => ?_
    rw [← arGet_some, h b, arGet_some, List.map_map]; rfl
  have hks : ks = D.map (·.1) := List.Perm.eq_of_pairwise (le := (· ≤ ·)) (fun a b _ _ h1 h2 => by omega) hk (hD.imp (by intro a b h; omega)) hperm
  rw [hks, List.map_map]
  have : ∀ i ∈ D, ((fun k => ((k, 0, (arGet k A).getD ⟨#[]⟩) : Im)) ∘ fun x => x.1) i = i := fun i hi => by
    show (i.1, 0, (arGet i.1 A).getD ⟨#[]⟩) = i
    rw [h i.1]; exact (srt_get hs hi).symm
  exact (List.map_congr_left this).trans (List.map_id D)
theorem told_play {z : ByteArray} {cuts : List Int} {l : List Ev} {ks : List Int} (h : ∀ e ∈ l, 0 ≤ e.lsn) (hp : ks.Perm ((aloneF z (playF z l cuts).stay).1.map (·.1))) (hk : ks.Pairwise (· ≤ ·)) :
    ks.map (fun k => ((k, 0, (arGet k (aloneF z (playF z l cuts).stay).1).getD ⟨#[]⟩) : Im)) = (playD z l cuts).a := by
  have d := play_doc (z := z) (cuts := cuts) l h
  refine told_doc ?_ (by rw [d.a]; exact allW_srt _) (alone_nodup _) hp hk
  rw [← d.A]; exact d.eqA
end Go.Sh.Hi
