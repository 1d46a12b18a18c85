/- Lists that are kept in a book: rows of rows of one's own. Conditions: as each says. -/
import Derived.Test.YtmmnifbponhhfaaGreatTKeep
set_option linter.unusedSimpArgs false
set_option linter.unusedVariables false
namespace Go.Sh
section
variable {α : Type} {w w' : World} {B z n : Nat} {te e : TypeId} {enc : α → List Value} {v : Value} {xs : List Value} {ps qs : List (Value × List α)}
/-- A row of one's own stands while blocks turn of which it is none. -/
theorem Own.ty {base : Nat} (h : Own w base e z v n xs) {g : Nat} (hg : v.ownBlock = some g) : base ≤ g ∧ ∃ cs, blk w g = some (.cells cs e) := (h.trd (Nat.le_refl _)).2 g hg
theorem TRd.own0 {base : Nat} (h : Own w base e z v n xs) : TRd w base e z v n xs := h.trd (Nat.le_refl _)
theorem TRd.lt (h : TRd w B e z v n xs) {g : Nat} (hg : v.ownBlock = some g) : g < siz w := by obtain ⟨_, cs, hb⟩ := h.2 g hg; exact blk_lt hb
theorem TRd.keepF {F : Nat → Prop} (h : TRd w B e z v n xs) (k : Keep F w w') (hF : ∀ g, v.ownBlock = some g → ¬ F g) : TRd w' B e z v n xs :=
  ⟨h.1.keep k fun g hg _ => hF g hg, fun g hg => by
    obtain ⟨h1, cs, hc⟩ := h.2 g hg
    exact ⟨h1, cs, k.blk hc (hF g hg)⟩⟩
/-- Lists that are kept: their row, and each of them; no two share memory. -/
structure Shf (w : World) (B : Nat) (te e : TypeId) (z : Nat) (enc : α → List Value) (v : Value) (ps : List (Value × List α)) : Prop where
  row : Own w B te 1 v ps.length (ps.map (·.1))
  each : ∀ p ∈ ps, Own w B e z p.1 p.2.length (flat enc p.2)
  apart : ps.Pairwise fun p q => ∀ g, p.1.ownBlock = some g → q.1.ownBlock ≠ some g
/-- Lists that read so. -/
structure Shr (w : World) (B : Nat) (te e : TypeId) (z : Nat) (enc : α → List Value) (v : Value) (ps : List (Value × List α)) : Prop where
  row : TRd w B te 1 v ps.length (ps.map (·.1))
  each : ∀ p ∈ ps, TRd w B e z p.1 p.2.length (flat enc p.2)
/-- The blocks of kept lists. -/
def fts (v : Value) (ps : List (Value × List α)) (g : Nat) : Prop := v.ownBlock = some g ∨ ∃ p ∈ ps, p.1.ownBlock = some g
theorem Shf.rd (h : Shf w B te e z enc v ps) : Shr w B te e z enc v ps := ⟨h.row.trd (Nat.le_refl _), fun p hp => (h.each p hp).trd (Nat.le_refl _)⟩
theorem Shf.nil (w : World) (B : Nat) (te e : TypeId) (z : Nat) (enc : α → List Value) : Shf w B te e z enc (.slice none 0 0) [] := ⟨Own.nil _ _ _ _, fun _ h => by simp at h, .nil⟩
theorem Shf.lt (h : Shf w B te e z enc v ps) {g : Nat} (hg : fts v ps g) : B ≤ g ∧ g < siz w := by
  rcases hg with hg | ⟨p, hp, hg⟩
  · exact h.row.lt hg
  · exact (h.each p hp).lt hg
theorem Shf.keep {F : Nat → Prop} (h : Shf w B te e z enc v ps) (k : Keep F w w') (hF : ∀ g, fts v ps g → ¬ F g) : Shf w' B te e z enc v ps :=
  ⟨h.row.keep k fun g hg => hF g (.inl hg), fun p hp => (h.each p hp).keep k fun g hg => hF g (.inr ⟨p, hp, hg⟩), h.apart⟩
theorem Shf.keep0 (h : Shf w B te e z enc v ps) (k : K0 w w') : Shf w' B te e z enc v ps := h.keep k fun _ _ => id
theorem Shf.ko {A : Nat} {p : Obj → Bool} (h : Shf w B te e z enc v ps) (k : KO A p w w') (h1 : ∀ cs, p (.cells cs te) = false) (h2 : ∀ cs, p (.cells cs e) = false) : Shf w' B te e z enc v ps :=
  ⟨k.own h.row h1, fun q hq => k.own (h.each q hq) h2, h.apart⟩
theorem Shr.ko {A : Nat} {p : Obj → Bool} (h : Shr w B te e z enc v ps) (k : KO A p w w') (h1 : ∀ cs, p (.cells cs te) = false) (h2 : ∀ cs, p (.cells cs e) = false) : Shr w' B te e z enc v ps :=
  ⟨h.row.ko k h1, fun q hq => (h.each q hq).ko k h2⟩
theorem Shr.keep0 (h : Shr w B te e z enc v ps) (k : K0 w w') : Shr w' B te e z enc v ps := ⟨h.row.keep0 k, fun q hq => (h.each q hq).keep0 k⟩
theorem Shr.nil (w : World) (B : Nat) (te e : TypeId) (z : Nat) (enc : α → List Value) : Shr w B te e z enc (.slice none 0 0) [] := (Shf.nil w B te e z enc).rd
/-- One more list. -/
theorem Shf.add {v' l : Value} {ys : List α} (h : Shf w B te e z enc v ps) (hr : Own w B te 1 v' (ps.length + 1) (ps.map (·.1) ++ [l])) (hl : Own w B e z l ys.length (flat enc ys)) (hf : ∀ g, l.ownBlock = some g → ¬ fts v ps g) :
    Shf w B te e z enc v' (ps ++ [(l, ys)]) := by
  refine ⟨by simpa using hr, fun p hp => ?_, ?_⟩
  · rcases List.mem_append.1 hp with hp | hp
    · exact h.each p hp
    · rw [List.mem_singleton.1 hp]; exact hl
  · rw [List.pairwise_append]
    refine ⟨h.apart, List.pairwise_singleton _ _, fun p hp q hq g hg hg' => ?_⟩
    rw [List.mem_singleton.1 hq] at hg'
    exact hf g hg' (.inr ⟨p, hp, hg⟩)
theorem fts_add {v v' l : Value} {ys : List α} {g : Nat} (h : fts v' (ps ++ [(l, ys)]) g) (hv : ∀ g, v'.ownBlock = some g → v.ownBlock = some g ∨ siz w ≤ g) : fts v ps g ∨ l.ownBlock = some g ∨ siz w ≤ g := by
  rcases h with h | ⟨p, hp, h⟩
  · rcases hv g h with h | h
    · exact .inl (.inl h)
    · exact .inr (.inr h)
  · rcases List.mem_append.1 hp with hp | hp
    · exact .inl (.inr ⟨p, hp, h⟩)
    · rw [List.mem_singleton.1 hp] at h; exact .inr (.inl h)
/-- A list's own element. -/
theorem Shr.at {i : Nat} (h : Shr w B te e z enc v ps) (hi : i < ps.length) : ∃ g o c, v = .slice (some ⟨g, o, none⟩) ps.length c ∧ cel w g (o + i) = some ps[i].1 := by
  obtain ⟨g, o, c, e, _, hc⟩ := h.row.1.at (by omega)
  refine ⟨g, o, c, e, ?_⟩
  rw [hc i (by omega), List.getElem?_map, List.getElem?_eq_getElem hi]; rfl
theorem Shr.form (h : Shr w B te e z enc v ps) : ∃ a c, v = .slice a ps.length c := h.row.1.form
/-- An element of a row of one's own is set. -/
theorem Own.setE (hz : ∀ x, (enc x).length = z) {base g cap i : Nat} {L : List α} (h : Own w base e z (.slice (some ⟨g, 0, none⟩) L.length cap) L.length (flat enc L)) (hi : i < L.length) (x : α) :
    Own (stoL w g (i * z) (enc x)) base e z (.slice (some ⟨g, 0, none⟩) L.length cap) L.length (flat enc (L.set i x)) := by
  have h1 := Own.setL (enc x) h (j := i * z) (by
    rw [hz]
    have := Nat.mul_le_mul_right z (show i + 1 ≤ L.length by omega)
    rw [Nat.add_mul, Nat.one_mul] at this
    exact this)
  have e2 : (flat enc L).take (i * z) ++ (enc x ++ (flat enc L).drop (i * z + (enc x).length)) = flat enc (L.set i x) := by
    rw [hz, flat_take hz, show i * z + z = (i + 1) * z by rw [Nat.add_mul, Nat.one_mul], flat_drop hz, ← flat_one (enc := enc) (x := x), ← flat_append, ← flat_append, List.set_eq_take_append_cons_drop, if_pos hi]
    rfl
  rw [e2] at h1
  exact h1
end
/-! ### the book's own cells -/
/-- The book's cells. -/
def BkC (tB : TypeId) (w : World) (b : Nat) (f : Nat → Value) : Prop := blk w b = some (.cells ((List.range 30).map f).toArray tB)
def bupd (f : Nat → Value) (o : Nat) (v : Value) : Nat → Value := fun j => if j = o then v else f j
section
variable {tB : TypeId} {w w' : World} {b : Nat} {f : Nat → Value}
theorem BkC.cel (h : BkC tB w b f) {o : Nat} (ho : o < 30) : cel w b o = some (f o) := by
  rw [cel_b h, List.getElem?_toArray, List.getElem?_map, List.getElem?_range ho]; rfl
theorem BkC.fre (h : BkC tB w b f) : fre w b = true := fre_b h
theorem BkC.lt (h : BkC tB w b f) : b < siz w := blk_lt h
theorem BkC.keep {F : Nat → Prop} (h : BkC tB w b f) (k : Keep F w w') (hF : ¬ F b) : BkC tB w' b f := k.blk h hF
theorem BkC.ko {A : Nat} {p : Obj → Bool} (h : BkC tB w b f) (k : KO A p w w') (hp : ∀ cs, p (.cells cs tB) = false) : BkC tB w' b f := k.blk h (hp _)
theorem BkC.set (h : BkC tB w b f) {o : Nat} (ho : o < 30) (v : Value) : BkC tB (sto w b o v) b (bupd f o v) := by
  have := blk_sto (o := o) (v := v) h
  unfold BkC
  rw [this]
  congr 2
  apply Array.ext
  · simp
  · intro i h1 h2
    simp only [List.size_toArray, List.length_map, List.length_range] at h2
    by_cases e : i = o
    · subst e; simp [bupd]
    · have : ¬ o = i := fun h => e h.symm
      simp [bupd, e, this, Array.getElem_setIfInBounds]
theorem bupd_same (o : Nat) (v : Value) : bupd f o v o = v := if_pos rfl
theorem bupd_ne {o j : Nat} (v : Value) (h : j ≠ o) : bupd f o v j = f j := if_neg h
end
/-! ### one kind of list -/
section
variable {α : Type} {w w' : World} {B z : Nat} {te e : TypeId} {enc : α → List Value} {v v' : Value} {ps qs : List (Value × List α)}
/-- The lists of one kind, and the copies that were made at once. -/
structure KS (w : World) (B : Nat) (te e : TypeId) (z : Nat) (enc : α → List Value) (M : Nat) (v v' : Value) (ps qs : List (Value × List α)) : Prop where
  p : Shf w B te e z enc v ps
  q : Shf w B te e z enc v' qs
  ne : ∀ g, v.ownBlock = some g → v'.ownBlock ≠ some g
  same : ps.map (·.2) = qs.map (·.2)
  le : ps.length ≤ 250
  bd : ∀ p ∈ ps, p.2.length ≤ M
def kft (v v' : Value) (ps qs : List (Value × List α)) (g : Nat) : Prop := fts v ps g ∨ fts v' qs g
variable {M : Nat}
theorem KS.keep {F : Nat → Prop} (h : KS w B te e z enc M v v' ps qs) (k : Keep F w w') (hF : ∀ g, kft v v' ps qs g → ¬ F g) : KS w' B te e z enc M v v' ps qs :=
  { h with p := h.p.keep k fun g hg => hF g (.inl hg), q := h.q.keep k fun g hg => hF g (.inr hg) }
theorem KS.keep0 (h : KS w B te e z enc M v v' ps qs) (k : K0 w w') : KS w' B te e z enc M v v' ps qs := h.keep k fun _ _ => id
theorem KS.ko {A : Nat} {p : Obj → Bool} (h : KS w B te e z enc M v v' ps qs) (k : KO A p w w') (h1 : ∀ cs, p (.cells cs te) = false) (h2 : ∀ cs, p (.cells cs e) = false) : KS w' B te e z enc M v v' ps qs :=
  { h with p := h.p.ko k h1 h2, q := h.q.ko k h1 h2 }
theorem KS.lt (h : KS w B te e z enc M v v' ps qs) {g : Nat} (hg : kft v v' ps qs g) : B ≤ g ∧ g < siz w := hg.elim (fun h1 => h.p.lt h1) (fun h1 => h.q.lt h1)
theorem KS.len (h : KS w B te e z enc M v v' ps qs) : ps.length = qs.length := by have := congrArg List.length h.same; simpa using this
theorem KS.nil (w : World) (B : Nat) (te e : TypeId) (z : Nat) (enc : α → List Value) (M : Nat) : KS w B te e z enc M (.slice none 0 0) (.slice none 0 0) [] [] :=
  ⟨Shf.nil _ _ _ _ _ _, Shf.nil _ _ _ _ _ _, fun g h => (by cases h), rfl, Nat.zero_le _, fun _ h => (by simp at h)⟩
end
/-! ### what is put behind a row, once more: the old row's block stands where the row moves -/
theorem act_append2 {P : Program} {w : World} {t ty e : TypeId} {i : TypeInfo} {z : Value} {size bytes base : Nat} (ht : P.underlying t = some (.slice e)) (hi : P.info? e = some i) (hz : i.zero = some z)
    (hsize : i.size = size) (hby : i.bytes = bytes) (hzs : z.cells.size = size) (hsz : 0 < size) {k : Value → World → Prop}
    {v : Value} {n : Nat} {xs : List Value} (hown : Own w base e size v n xs)
    {b o m c : Nat} {news : List Value} (hl : news.length = m * size) (hnews : ∀ j, j < m * size → cel w b (o + j) = news[j]?) (h1 : ∀ u ∈ news, one u = true)
    (hbytes : (n + m) * bytes ≤ 140737488355328) (h63 : n + m ≤ maxLen) (hbase : base ≤ siz w)
    (hk : ∀ v' w', Own w' base e size v' (n + m) (xs ++ news) → (v'.ownBlock = v.ownBlock ∧ Keep (fun g => v.ownBlock = some g) w w' ∨ K0 w w' ∧ ∀ g, v'.ownBlock = some g → siz w ≤ g) → k v' w') :
    act P (Builtin.append_ #[t, t] ty #[v, .slice (some ⟨b, o, none⟩) m c]) k w := by
  have hn : ∀ j u, news[j]? = some u → w.cell? ((⟨b, o, none⟩ : Addr).add j) = some u := fun j u hu => by
    have hj : j < m * size := by rw [← hl]; exact (List.getElem?_eq_some_iff.1 hu).1
    have : (⟨b, o, none⟩ : Addr).add j = ⟨b, o + j, none⟩ := by unfold Addr.add; split <;> simp_all
    rw [this, cell_cel, hnews j hj]; exact hu
  obtain ⟨v', w', hr, hown', hg, hnil⟩ := run_append_own (P := P) w base t ty e i z size bytes ht hi hz hsize hby hzs hsz v n xs hown ⟨b, o, none⟩ m c news hl hn (fun u hu => one_oneCell (h1 u hu)) h63 hbytes hbase
  rw [act_eq hr]
  refine hk v' w' hown' ?_
  subst hsize
  rcases hown.2 with ⟨rfl, rfl⟩ | ⟨g0, cap, cur, rfl, _, hg0, hcap, hcapm, hcur, htake⟩
  · rcases Nat.eq_zero_or_pos m with rfl | hm
    · rw [hnil.2 ⟨rfl, rfl⟩]; exact .inl ⟨rfl, grown_keep hg⟩
    · have h2 := run_append_nil (P := P) w t ty e i z ht hi hz ⟨b, o, none⟩ m c news hl hn hm (by simp only [maxLen] at h63; omega) (by rw [hby]; simp only [Nat.zero_add] at hbytes; omega)
      rw [h2] at hr
      injection hr with hr hw
      subst hr hw
      refine .inr ⟨((K0.refl w).drew).alloc _, fun g hg' => ?_⟩
      injection hg' with hg'
      rw [← hg']; exact Nat.le_refl _
  · by_cases hroom : n + m ≤ cap
    · have hfit : n * i.size + news.length ≤ cur.size := by
        rw [hl, hcur, ← Nat.add_mul]; exact Nat.mul_le_mul_right _ hroom
      have h2 := run_append_room (P := P) w t ty e i ht hi g0 n cap cur hg0 ⟨b, o, none⟩ m c news hl hn (fun u hu => one_oneCell (h1 u hu)) hroom hfit
      rw [h2] at hr
      injection hr with hr _
      subst hr
      exact .inl ⟨rfl, grown_keep hg⟩
    · have h2 := run_append_grow (P := P) w t ty e i z ht hi hz ⟨g0, 0, none⟩ n cap xs hown.1 (World.ownsRow.cells hown rfl) ⟨b, o, none⟩ m c news hl hn (by omega) (by simp only [maxLen] at h63; omega)
        (growslice_fits (by omega) (by rw [hby]; exact hbytes))
      rw [h2] at hr
      injection hr with hr hw
      subst hr hw
      refine .inr ⟨((K0.refl w).drew).alloc _, fun g hg' => ?_⟩
      injection hg' with hg'
      rw [← hg']; exact Nat.le_refl _
/-! ### changing one list of many -/
section
variable {α : Type} {w w' : World} {B z : Nat} {te e : TypeId} {enc : α → List Value} {v : Value} {ps : List (Value × List α)}
theorem Shf.get (h : Shf w B te e z enc v ps) {i : Nat} (hi : i < ps.length) : Own w B e z ps[i].1 ps[i].2.length (flat enc ps[i].2) := h.each _ (List.getElem_mem hi)
theorem Shf.ne (h : Shf w B te e z enc v ps) {i j : Nat} (hi : i < ps.length) (hj : j < ps.length) (hij : i ≠ j) {g : Nat} (hg : ps[i].1.ownBlock = some g) : ps[j].1.ownBlock ≠ some g := by
  have := List.pairwise_iff_getElem.1 h.apart
  rcases Nat.lt_or_gt_of_ne hij with hlt | hlt
  · exact this i j hi hj hlt g hg
  · intro hg'
    exact this j i hj hi hlt g hg' hg
theorem map_set_fst {i : Nat} (hi : i < ps.length) (L : List α) : (ps.set i (ps[i].1, L)).map (·.1) = ps.map (·.1) := by
  rw [List.map_set]
  apply List.ext_getElem
  · simp
  · intro j h1 h2
    rw [List.getElem_set]
    split
    · next h => subst h; simp
    · rfl
/-- One list's content turns. -/
theorem Shf.put (hte : te ≠ e) (h : Shf w B te e z enc v ps) {i : Nat} (hi : i < ps.length) {L : List α} (k : Keep (fun g => ps[i].1.ownBlock = some g) w w') (ho : Own w' B e z ps[i].1 L.length (flat enc L)) : Shf w' B te e z enc v (ps.set i (ps[i].1, L)) := by
  have hrow : ∀ g, v.ownBlock = some g → ¬ ps[i].1.ownBlock = some g := fun g hg e' => by
    obtain ⟨_, cs, hb⟩ := h.row.ty hg
    obtain ⟨_, cs', hb'⟩ := (h.get hi).ty e'
    rw [hb] at hb'; injection hb' with hb'; injection hb' with _ hb'; exact hte hb'
  refine ⟨?_, fun p hp => ?_, ?_⟩
  · rw [map_set_fst hi, List.length_set]
    exact h.row.keep k hrow
  · obtain ⟨j, hj, rfl⟩ := List.getElem_of_mem hp
    rw [List.length_set] at hj
    by_cases e' : i = j
    · subst e'
      rw [List.getElem_set_self]; exact ho
    · rw [List.getElem_set_ne e']
      exact (h.get hj).keep k fun g hg e2 => h.ne hi hj e' e2 hg
  · rw [List.pairwise_iff_getElem]
    intro a b ha hb hab g hg
    rw [List.length_set] at ha hb
    have f1 : ∀ (c : Nat) (hc : c < (ps.set i (ps[i].1, L)).length) (hc' : c < ps.length), (ps.set i (ps[i].1, L))[c].1 = ps[c].1 := fun c hc hc' => by
      rw [List.getElem_set]; split
      · next h => subst h; rfl
      · rfl
    rw [f1 a _ ha] at hg
    rw [f1 b _ hb]
    exact List.pairwise_iff_getElem.1 h.apart a b ha hb hab g hg
end
/-- What lies ahead in a row of one's own: the shorter row at the same place reads so. -/
theorem Own.under {α : Type} {w : World} {B z N n0 c0 g : Nat} {e : TypeId} {enc : α → List Value} (hz : ∀ x, (enc x).length = z) {v' : Value} {L : List α} (h : Own w B e z v' N (flat enc L)) (hL : L.length = N) (hg : v'.ownBlock = some g) (hn : n0 ≤ N) (hc : n0 ≤ c0) :
    TRd w B e z (.slice (some ⟨g, 0, none⟩) n0 c0) n0 (flat enc (L.take n0)) := by
  have hlen : (flat enc (L.take n0)).length = n0 * z := by rw [flat_len hz, List.length_take, hL, Nat.min_eq_left hn]
  refine ⟨⟨hlen, ?_⟩, fun g' hg' => ?_⟩
  · by_cases h0 : n0 = 0
    · exact .inl ⟨h0, some ⟨g, 0, none⟩, c0, by rw [h0]⟩
    · obtain ⟨g1, cap, e1, _, _, _, _, _, hcel⟩ := h.at (by omega)
      rw [e1] at hg
      injection hg with hg
      subst hg
      refine .inr ⟨g1, 0, c0, rfl, hc, fun j hj => ?_⟩
      have hle : n0 * z ≤ N * z := Nat.mul_le_mul_right z hn
      rw [Nat.zero_add, hcel j (by omega), ← flat_take hz, List.getElem?_take, if_pos hj]
  · injection hg' with hg'
    rw [← hg']
    exact h.ty hg
end Go.Sh
