/- The cache of last uses as it lies in memory: a round of nodes, a map of their keys; what taking a node out and putting it first do to it.
   Conditions: the nodes lie in blocks of their own. -/
import Derived.Test.YtdnbegjamoeahaaGreatLShQ
set_option linter.unusedSimpArgs false
set_option linter.unusedVariables false
namespace Go.Sh.Lru

abbrev Pl := Nat × Nat
def ptr (x : Pl) : Value := .pointer (some ⟨x.1, x.2, none⟩)
/-- y follows x in the round. -/
def lk (w : World) (x y : Pl) : Prop := cel w x.1 (x.2 + 4) = some (ptr y) ∧ cel w y.1 (y.2 + 3) = some (ptr x)
def Seg (w : World) : List Pl → Prop
  | x :: y :: r => lk w x y ∧ Seg w (y :: r)
  | _ => True

theorem seg_append {w : World} {x : Pl} : ∀ {A B : List Pl}, Seg w (A ++ x :: B) ↔ Seg w (A ++ [x]) ∧ Seg w (x :: B)
  | [], B => by simp [Seg]
  | [a], B => by simp [Seg]
  | a :: b :: A, B => by
    have := seg_append (w := w) (x := x) (A := b :: A) (B := B)
    simp only [List.cons_append, Seg] at *
    rw [this, and_assoc]

theorem seg_frame {w w' : World} : ∀ {R : List Pl}, Seg w R → (∀ a ∈ R.dropLast, cel w' a.1 (a.2 + 4) = cel w a.1 (a.2 + 4)) → (∀ b ∈ R.tail, cel w' b.1 (b.2 + 3) = cel w b.1 (b.2 + 3)) → Seg w' R
  | [], _, _, _ => trivial
  | [_], _, _, _ => trivial
  | x :: y :: r, h, h1, h2 => by
    refine ⟨⟨?_, ?_⟩, seg_frame h.2 (fun a ha => h1 a (by simp [List.dropLast] at ha ⊢; exact .inr ha)) (fun b hb => h2 b (by simp at hb ⊢; exact .inr hb))⟩
    · rw [h1 x (by simp [List.dropLast])]; exact h.1.1
    · rw [h2 y (by simp)]; exact h.1.2

theorem seg_keep {w w' : World} {R : List Pl} (h : Seg w R) (hb : ∀ a ∈ R, blk w' a.1 = blk w a.1) : Seg w' R :=
  seg_frame h (fun a ha => by rw [cel, hb a (List.dropLast_subset _ ha)]; rfl) (fun b hb' => by rw [cel, hb b (List.mem_of_mem_tail hb')]; rfl)

/-- Places of one block are one place. -/
def Apart (R : List Pl) : Prop := ∀ a ∈ R, ∀ b ∈ R, a.1 = b.1 → a = b

theorem apart_ne {R : List Pl} (h : Apart R) {a b : Pl} (ha : a ∈ R) (hb : b ∈ R) (hn : a ≠ b) (i j : Nat) : ¬ (a.1 = b.1 ∧ a.2 + i = b.2 + j) := fun e => hn (h a ha b hb e.1)

def offW (w : World) (p n : Pl) : World := sto (sto w.drew p.1 (p.2 + 4) (ptr n)) n.1 (n.2 + 3) (ptr p)

/-- x, which stood between p and n, is taken out. -/
theorem seg_off {w : World} {A B : List Pl} {p x n : Pl} (hap : Apart (A ++ p :: x :: n :: B)) (h : Seg w (A ++ p :: x :: n :: B))
    (h1 : p ∉ A) (h2 : n ∉ (A ++ [p]).tail) (h3 : p ∉ (n :: B).dropLast) (h4 : n ∉ B) : Seg (offW w p n) (A ++ p :: n :: B) := by
  have hA := (seg_append.1 h).1
  have hB := (seg_append.1 h).2
  have hpx : lk w p x := hB.1
  have hxn : lk w x n := hB.2.1
  have hnB : Seg w (n :: B) := hB.2.2
  have mp : p ∈ A ++ p :: x :: n :: B := by simp
  have mn : n ∈ A ++ p :: x :: n :: B := by simp
  have cp : (cel w.drew p.1 (p.2 + 4)).isSome = true := by rw [cel_drew, hpx.1]; rfl
  have pn : ¬ (n.1 = p.1 ∧ n.2 + 3 = p.2 + 4) := fun e => by have := hap n mn p mp e.1; subst this; omega
  have cn : (cel (sto w.drew p.1 (p.2 + 4) (ptr n)) n.1 (n.2 + 3)).isSome = true := by rw [cel_sto_ne pn, cel_drew, hxn.2]; rfl
  have nx : ∀ a : Pl, a ∈ A ++ p :: x :: n :: B → a ≠ p → cel (offW w p n) a.1 (a.2 + 4) = cel w a.1 (a.2 + 4) := fun a ha hne => by
    rw [offW, cel_sto_ne (fun e => by have := hap a ha n mn e.1; subst this; omega), cel_sto_ne (apart_ne hap ha mp hne 4 4), cel_drew]
  have pv : ∀ b : Pl, b ∈ A ++ p :: x :: n :: B → b ≠ n → cel (offW w p n) b.1 (b.2 + 3) = cel w b.1 (b.2 + 3) := fun b hb hne => by
    rw [offW, cel_sto_ne (apart_ne hap hb mn hne 3 3), cel_sto_ne (fun e => by have := hap b hb p mp e.1; subst this; omega), cel_drew]
  refine seg_append.2 ⟨?_, ?_, ?_⟩
  · refine seg_frame hA (fun a ha => ?_) (fun b hb => ?_)
    · have ha' : a ∈ A := by simpa using ha
      exact nx a (by simp [ha']) (fun e => h1 (e ▸ ha'))
    · have hb' : b ∈ A ++ [p] := List.mem_of_mem_tail hb
      refine pv b ?_ (fun e => h2 (e ▸ hb))
      rcases List.mem_append.1 hb' with h | h
      · simp [h]
      · simp at h; subst h; exact mp
  · refine ⟨?_, ?_⟩
    · rw [offW, cel_sto_ne (fun e => pn ⟨e.1.symm, e.2.symm⟩), cel_sto_same cp]
    · rw [offW, cel_sto_same cn]
  · refine seg_frame hnB (fun a ha => ?_) (fun b hb => ?_)
    · refine nx a ?_ (fun e => h3 (e ▸ ha))
      have := List.dropLast_subset _ ha
      rcases List.mem_cons.1 this with rfl | h
      · exact mn
      · simp [h]
    · have hb' : b ∈ B := by simpa using hb
      exact pv b (by simp [hb']) (fun e => h4 (e ▸ hb'))

def fstW (w : World) (h x f : Pl) : World :=
  sto (sto (sto (sto w.drew x.1 (x.2 + 3) (ptr h)) x.1 (x.2 + 4) (ptr f)).drew h.1 (h.2 + 4) (ptr x)) f.1 (f.2 + 3) (ptr x)

/-- x is put behind h, ahead of f. -/
theorem seg_first {w : World} {B : List Pl} {h x f : Pl} (hap : Apart (x :: h :: f :: B)) (hs : Seg w (h :: f :: B)) (hx : x ∉ h :: f :: B) (h1 : h ∉ (f :: B).dropLast) (h2 : f ∉ B)
    (c3 : (cel w x.1 (x.2 + 3)).isSome = true) (c4 : (cel w x.1 (x.2 + 4)).isSome = true) : Seg (fstW w h x f) (h :: x :: f :: B) := by
  have mx : x ∈ x :: h :: f :: B := by simp
  have mh : h ∈ x :: h :: f :: B := by simp
  have mf : f ∈ x :: h :: f :: B := by simp
  have xh : x ≠ h := fun e => hx (by simp [e])
  have xf : x ≠ f := fun e => hx (by simp [e])
  have hhf : lk w h f := hs.1
  have cx4 : (cel (sto w.drew x.1 (x.2 + 3) (ptr h)) x.1 (x.2 + 4)).isSome = true := by rw [cel_sto_ne (by omega)]; exact c4
  have ne1 : ∀ i j, ¬ (h.1 = x.1 ∧ h.2 + i = x.2 + j) := fun i j e => xh (hap x mx h mh e.1.symm)
  have ne2 : ∀ i j, ¬ (f.1 = x.1 ∧ f.2 + i = x.2 + j) := fun i j e => xf (hap x mx f mf e.1.symm)
  have ch : (cel (sto (sto w.drew x.1 (x.2 + 3) (ptr h)) x.1 (x.2 + 4) (ptr f)).drew h.1 (h.2 + 4)).isSome = true := by
    rw [cel_drew, cel_sto_ne (ne1 4 4), cel_sto_ne (ne1 4 3), cel_drew, hhf.1]; rfl
  have fh : ¬ (f.1 = h.1 ∧ f.2 + 3 = h.2 + 4) := fun e => by have := hap f mf h mh e.1; subst this; omega
  have cf : (cel (sto (sto (sto w.drew x.1 (x.2 + 3) (ptr h)) x.1 (x.2 + 4) (ptr f)).drew h.1 (h.2 + 4) (ptr x)) f.1 (f.2 + 3)).isSome = true := by
    rw [cel_sto_ne fh, cel_drew, cel_sto_ne (ne2 3 4), cel_sto_ne (ne2 3 3), cel_drew, hhf.2]; rfl
  have other : ∀ (a : Pl) (i : Nat), a ∈ h :: f :: B → (i = 4 → a ≠ h) → (i = 3 → a ≠ f) → (i = 3 ∨ i = 4) → cel (fstW w h x f) a.1 (a.2 + i) = cel w a.1 (a.2 + i) := fun a i ha h3 h4 hi => by
    have ma : a ∈ x :: h :: f :: B := List.mem_cons_of_mem _ ha
    have ax : a ≠ x := fun e => hx (e ▸ ha)
    rw [fstW, cel_sto_ne, cel_sto_ne, cel_drew, cel_sto_ne (apart_ne hap ma mx ax i 4), cel_sto_ne (apart_ne hap ma mx ax i 3), cel_drew]
    · intro e; have := hap a ma h mh e.1; subst this; rcases hi with rfl | rfl
      · omega
      · exact h3 rfl rfl
    · intro e; have := hap a ma f mf e.1; subst this; rcases hi with rfl | rfl
      · exact h4 rfl rfl
      · omega
  refine ⟨⟨?_, ?_⟩, ⟨?_, ?_⟩, ?_⟩
  · rw [fstW, cel_sto_ne (fun e => fh ⟨e.1.symm, e.2.symm⟩), cel_sto_same ch]
  · rw [fstW, cel_sto_ne (fun e => ne2 3 3 ⟨e.1.symm, e.2.symm⟩), cel_sto_ne (fun e => ne1 4 3 ⟨e.1.symm, e.2.symm⟩), cel_drew, cel_sto_ne (by omega), cel_sto_same (by rw [cel_drew]; exact c3)]
  · rw [fstW, cel_sto_ne (fun e => ne2 3 4 ⟨e.1.symm, e.2.symm⟩), cel_sto_ne (fun e => ne1 4 4 ⟨e.1.symm, e.2.symm⟩), cel_drew, cel_sto_same cx4]
  · rw [fstW, cel_sto_same cf]
  · refine seg_frame hs.2 (fun a ha => ?_) (fun b hb => ?_)
    · exact other a 4 (List.mem_cons_of_mem _ (List.dropLast_subset _ ha)) (fun _ e => h1 (e ▸ ha)) (by omega) (.inr rfl)
    · have hb' : b ∈ B := by simpa using hb
      exact other b 3 (by simp [hb']) (by omega) (fun _ e => h2 (e ▸ hb')) (.inl rfl)

/-! ### the cache -/

structure Nd where
  b : Nat
  k : Value
  v : Value
  p : Nat

def Nd.pl (n : Nd) : Pl := (n.b, 0)

structure Node (w : World) (n : Nd) : Prop where
  k : cel w n.b 0 = some n.k
  v : cel w n.b 1 = some n.v
  p : cel w n.b 2 = some (.int .i64 n.p)
  fre : fre w n.b = true
  ok : one n.k = true
  ov : one n.v = true

def entry (n : Nd) : Value × Value := (n.k, ptr n.pl)

structure Rep (ok : Value → Prop) (B : Nat) (w : World) (c mb room : Nat) (L : List Nd) : Prop where
  base : B ≤ c ∧ B ≤ mb ∧ ∀ n ∈ L, B ≤ n.b
  m : cel w c 0 = some (.map (some mb))
  rm : cel w c 6 = some (.int .i64 room)
  fc : Sh.fre w c = true
  ring : Seg w ((c, 1) :: (L.map Nd.pl ++ [(c, 1)]))
  node : ∀ n ∈ L, Node w n
  kv : ∃ l, mp w mb = some l ∧ l.Perm (L.map entry)
  nd : (c :: L.map (·.b)).Nodup
  keys : (L.map (·.k)).Nodup
  okk : ∀ n ∈ L, ok n.k
  len : L.length ≤ room
  big : room ≤ 100000

/-- The blocks of the cache. -/
def foot (c mb : Nat) (L : List Nd) (b : Nat) : Prop := b = c ∨ b = mb ∨ ∃ n ∈ L, b = n.b

theorem Node.keep {w w' : World} {n : Nd} (h : Node w n) (hb : blk w' n.b = blk w n.b) : Node w' n :=
  ⟨by rw [cel, hb]; exact h.k, by rw [cel, hb]; exact h.v, by rw [cel, hb]; exact h.p, by rw [Sh.fre, hb]; exact h.fre, h.ok, h.ov⟩

section
variable {ok : Value → Prop} {B : Nat} {w w' : World} {c mb room : Nat} {L : List Nd}

theorem Rep.keepB (h : Rep ok B w c mb room L) (hb : ∀ b, foot c mb L b → blk w' b = blk w b) : Rep ok B w' c mb room L where
  base := h.base
  m := by rw [cel, hb c (.inl rfl)]; exact h.m
  rm := by rw [cel, hb c (.inl rfl)]; exact h.rm
  fc := by rw [Sh.fre, hb c (.inl rfl)]; exact h.fc
  ring := seg_keep h.ring fun a ha => by
    simp only [List.mem_cons, List.mem_append, List.mem_map, List.not_mem_nil, or_false] at ha
    rcases ha with rfl | ⟨n, hn, rfl⟩ | rfl
    · exact hb c (.inl rfl)
    · exact hb n.b (.inr (.inr ⟨n, hn, rfl⟩))
    · exact hb c (.inl rfl)
  node := fun n hn => (h.node n hn).keep (hb n.b (.inr (.inr ⟨n, hn, rfl⟩)))
  kv := by obtain ⟨l, hl, hp⟩ := h.kv; exact ⟨l, by rw [mp, hb mb (.inr (.inl rfl))]; exact hl, hp⟩
  nd := h.nd
  keys := h.keys
  okk := h.okk
  len := h.len
  big := h.big

theorem Rep.lt (h : Rep ok B w c mb room L) {b : Nat} (hb : foot c mb L b) : b < siz w := by
  rcases hb with rfl | rfl | ⟨n, hn, rfl⟩
  · exact fre_lt h.fc
  · obtain ⟨l, hl, _⟩ := h.kv; exact mp_lt hl
  · exact fre_lt (h.node n hn).fre

theorem Rep.keep {F : Nat → Prop} (h : Rep ok B w c mb room L) (hk : Keep F w w') (hF : ∀ b, foot c mb L b → ¬ F b) : Rep ok B w' c mb room L :=
  h.keepB fun b hb => hk.block b (h.lt hb) (hF b hb)

theorem Rep.drew (h : Rep ok B w c mb room L) : Rep ok B w.drew c mb room L := h.keepB fun _ _ => rfl
theorem Rep.alloc (h : Rep ok B w c mb room L) (o : Obj) : Rep ok B (w.alloc o) c mb room L := h.keepB fun _ hb => blk_alloc_old (h.lt hb)

theorem Rep.mb_ne (h : Rep ok B w c mb room L) {b : Nat} (hb : Sh.fre w b = true) : mb ≠ b := fun e => by
  obtain ⟨l, hl, _⟩ := h.kv
  subst e
  simp only [mp, kvO] at hl
  simp only [Sh.fre, freeO] at hb
  split at hl
  · rename_i hx; rw [hx] at hb; cases hb
  · cases hl

theorem Rep.apart (h : Rep ok B w c mb room L) : Apart ((c, 1) :: L.map Nd.pl) := by
  have hnd := h.nd
  simp only [List.nodup_cons, List.mem_map, not_exists, not_and] at hnd
  intro a ha b hb hab
  simp only [List.mem_cons, List.mem_map] at ha hb
  rcases ha with rfl | ⟨n, hn, rfl⟩ <;> rcases hb with rfl | ⟨n', hn', rfl⟩
  · rfl
  · exact absurd hab.symm (hnd.1 n' hn')
  · exact absurd hab (hnd.1 n hn)
  · simp only [Nd.pl] at *; rw [hab]

theorem ends {α : Type} (a : α) : ∀ l : List α, ∃ i z, a :: l = i ++ [z]
  | [] => ⟨[], a, rfl⟩
  | b :: l => by obtain ⟨i, z, h⟩ := ends b l; exact ⟨a :: i, z, by rw [h]; rfl⟩
theorem begins {α : Type} (a : α) : ∀ l : List α, ∃ z r, l ++ [a] = z :: r
  | [] => ⟨a, [], rfl⟩
  | b :: l => ⟨b, l ++ [a], rfl⟩

/-- The place ahead of a node, and the one behind it. -/
theorem Rep.around {A C : List Nd} {n : Nd} (h : Rep ok B w c mb room (A ++ n :: C)) : ∃ p q i r, (c, 1) :: A.map Nd.pl = i ++ [p] ∧ C.map Nd.pl ++ [(c, 1)] = q :: r ∧ Seg w (i ++ p :: n.pl :: q :: r) ∧
    Apart (i ++ p :: n.pl :: q :: r) ∧ p ∉ i ∧ q ∉ (i ++ [p]).tail ∧ p ∉ (q :: r).dropLast ∧ q ∉ r ∧ lk w p n.pl ∧ lk w n.pl q := by
  obtain ⟨i, p, hi⟩ := ends ((c, 1) : Pl) (A.map Nd.pl)
  obtain ⟨q, r, hq⟩ := begins ((c, 1) : Pl) (C.map Nd.pl)
  have hring := h.ring
  have e : ((c, 1) : Pl) :: ((A ++ n :: C).map Nd.pl ++ [(c, 1)]) = i ++ p :: n.pl :: q :: r := by
    rw [List.map_append, List.map_cons, List.append_assoc, ← List.cons_append, hi, List.cons_append, hq]; simp
  have hnd := h.nd
  rw [List.map_append, List.map_cons] at hnd
  -- the places are all different, but for the head that stands at both ends
  have hpl : (((c, 1) : Pl) :: (A.map Nd.pl ++ n.pl :: C.map Nd.pl)).Nodup := by
    have h1 : ((((c, 1) : Pl) :: (A.map Nd.pl ++ n.pl :: C.map Nd.pl)).map (·.1)).Nodup := by
      simp only [List.map_cons, List.map_append, List.map_map]
      exact hnd
    exact List.Pairwise.of_map _ (fun a b h e => h (by rw [e])) h1
  have h2 : (i ++ [p] ++ n.pl :: C.map Nd.pl).Nodup := by rw [← hi]; simpa using hpl
  have hap := h.apart
  have hsub : ∀ a ∈ i ++ p :: n.pl :: q :: r, a ∈ ((c, 1) : Pl) :: (A ++ n :: C).map Nd.pl := fun a ha => by
    rw [← e] at ha
    simp only [List.mem_cons, List.mem_append, List.not_mem_nil, or_false] at ha ⊢
    rcases ha with h | h | h
    · exact .inl h
    · exact .inr h
    · exact .inl h
  rw [e] at hring
  have h3 := (seg_append.1 hring).2
  have hnr : (C.map Nd.pl ++ [(c, 1)]).Nodup := by
    have h4 : (n.pl :: C.map Nd.pl).Nodup := (List.nodup_append.1 h2).2.1
    have h5 : ((c, 1) : Pl) ∉ C.map Nd.pl := fun hc => by
      have := (List.nodup_cons.1 hpl).1
      exact this (by simp only [List.mem_append, List.mem_cons]; exact .inr (.inr hc))
    exact List.nodup_append.2 ⟨(List.nodup_cons.1 h4).2, by simp, fun a ha b hb => by simp at hb; subst hb; exact fun e => h5 (e ▸ ha)⟩
  refine ⟨p, q, i, r, hi, hq, hring, fun a ha b hb hab => hap a (hsub a ha) b (hsub b hb) hab, ?_, ?_, ?_, ?_, h3.1, h3.2.1⟩
  · have := (List.nodup_append.1 (List.nodup_append.1 h2).1).2.2
    intro hp; exact this p hp p (by simp) rfl
  · rw [← hi]
    simp only [List.tail_cons]
    intro hqa
    have hq' : q ∈ C.map Nd.pl ++ [((c, 1) : Pl)] := by rw [hq]; simp
    rcases List.mem_append.1 hq' with h | h
    · have := (List.nodup_append.1 (List.nodup_cons.1 hpl).2).2.2 q hqa q (by simp [h])
      exact this rfl
    · simp at h; subst h
      exact (List.nodup_cons.1 hpl).1 (List.mem_append_left _ hqa)
  · rw [← hq]
    simp only [List.dropLast_concat]
    intro hpc
    have hp' : p ∈ i ++ [p] := by simp
    exact (List.nodup_append.1 h2).2.2 p hp' p (by simp only [List.mem_cons]; exact .inr hpc) rfl
  · rw [hq] at hnr; exact (List.nodup_cons.1 hnr).1

/-- A cell that holds no link of the round. -/
def still (c : Nat) (L : List Nd) (b o : Nat) : Prop := ¬ (b = c ∧ (o = 4 ∨ o = 5)) ∧ ¬ ((∃ n ∈ L, b = n.b) ∧ (o = 3 ∨ o = 4))

theorem Rep.rering {L' L'' : List Nd} (h : Rep ok B w c mb room L) (hq : ∀ b o, still c L b o → cel w' b o = cel w b o) (hf : ∀ b, Sh.fre w' b = Sh.fre w b)
    (hkv : ∃ l, mp w' mb = some l ∧ l.Perm (L'.map entry)) (hs : Seg w' ((c, 1) :: (L'.map Nd.pl ++ [(c, 1)]))) (hL : L'.Perm L'') (hsub : L''.Sublist L) : Rep ok B w' c mb room L' := by
  have hmem : ∀ n ∈ L', n ∈ L := fun n hn => hsub.subset (hL.subset hn)
  have hnc : ∀ n ∈ L, n.b ≠ c := fun n hn e => (List.nodup_cons.1 h.nd).1 (by rw [← e]; exact List.mem_map_of_mem (f := (·.b)) hn)
  refine ⟨⟨h.base.1, h.base.2.1, fun n hn => h.base.2.2 n (hmem n hn)⟩, ?_, ?_, by rw [hf]; exact h.fc, hs, fun n hn => ?_, hkv, ?_, ?_, fun n hn => h.okk n (hmem n hn), ?_, h.big⟩
  · rw [hq c 0 ⟨by omega, by omega⟩]; exact h.m
  · rw [hq c 6 ⟨by omega, by omega⟩]; exact h.rm
  · have hn' := h.node n (hmem n hn)
    have hne := hnc n (hmem n hn)
    exact ⟨by rw [hq _ _ ⟨fun e => hne e.1, by omega⟩]; exact hn'.k, by rw [hq _ _ ⟨fun e => hne e.1, by omega⟩]; exact hn'.v, by rw [hq _ _ ⟨fun e => hne e.1, by omega⟩]; exact hn'.p, by rw [hf]; exact hn'.fre, hn'.ok, hn'.ov⟩
  · have h1 : (c :: L''.map (·.b)).Nodup := h.nd.sublist ((hsub.map _).cons_cons _)
    exact ((hL.map (·.b)).cons c).nodup_iff.2 h1
  · exact ((hL.map (·.k)).nodup_iff).2 (h.keys.sublist (hsub.map _))
  · rw [hL.length_eq]; exact Nat.le_trans hsub.length_le h.len

theorem off_still {p q : Pl} (hp : p ∈ ((c, 1) : Pl) :: L.map Nd.pl) (hq : q ∈ ((c, 1) : Pl) :: L.map Nd.pl) : ∀ b o, still c L b o → cel (offW w p q) b o = cel w b o := by
  intro b o ⟨h1, h2⟩
  have hx : ∀ x : Pl, x ∈ ((c, 1) : Pl) :: L.map Nd.pl → ∀ i, (i = 3 ∨ i = 4) → ¬ (b = x.1 ∧ o = x.2 + i) := by
    intro x hx i hi e
    simp only [List.mem_cons, List.mem_map] at hx
    rcases hx with rfl | ⟨n, hn, rfl⟩
    · exact h1 ⟨e.1, by rcases hi with rfl | rfl <;> simp at e <;> omega⟩
    · exact h2 ⟨⟨n, hn, e.1⟩, by rcases hi with rfl | rfl <;> simp [Nd.pl] at e <;> omega⟩
  rw [offW, cel_sto_ne (hx q hq 3 (.inl rfl)), cel_sto_ne (hx p hp 4 (.inr rfl)), cel_drew]

theorem fst_still {h x f : Pl} (mh : h ∈ ((c, 1) : Pl) :: L.map Nd.pl) (mx : x ∈ ((c, 1) : Pl) :: L.map Nd.pl) (mf : f ∈ ((c, 1) : Pl) :: L.map Nd.pl) : ∀ b o, still c L b o → cel (fstW w h x f) b o = cel w b o := by
  intro b o ⟨h1, h2⟩
  have hx : ∀ x : Pl, x ∈ ((c, 1) : Pl) :: L.map Nd.pl → ∀ i, (i = 3 ∨ i = 4) → ¬ (b = x.1 ∧ o = x.2 + i) := by
    intro x hx i hi e
    simp only [List.mem_cons, List.mem_map] at hx
    rcases hx with rfl | ⟨n, hn, rfl⟩
    · exact h1 ⟨e.1, by rcases hi with rfl | rfl <;> simp at e <;> omega⟩
    · exact h2 ⟨⟨n, hn, e.1⟩, by rcases hi with rfl | rfl <;> simp [Nd.pl] at e <;> omega⟩
  rw [fstW, cel_sto_ne (hx f mf 3 (.inl rfl)), cel_sto_ne (hx h mh 4 (.inr rfl)), cel_drew, cel_sto_ne (hx x mx 4 (.inr rfl)), cel_sto_ne (hx x mx 3 (.inl rfl)), cel_drew]

theorem fre_off {p q : Pl} {b : Nat} : Sh.fre (offW w p q) b = Sh.fre w b := by rw [offW, fre_sto, fre_sto, fre_drew]
theorem fre_fst {h x f : Pl} {b : Nat} : Sh.fre (fstW w h x f) b = Sh.fre w b := by rw [fstW, fre_sto, fre_sto, fre_drew, fre_sto, fre_sto, fre_drew]

theorem mp_sto {b o b' : Nat} {v : Value} (hb : b' ≠ b) : mp (sto w b o v) b' = mp w b' := by rw [mp, blk_sto_ne hb]; rfl
theorem mp_off {p q : Pl} {b : Nat} (hp : b ≠ p.1) (hq : b ≠ q.1) : mp (offW w p q) b = mp w b := by rw [offW, mp_sto hq, mp_sto hp]; rfl
theorem mp_fst {h x f : Pl} {b : Nat} (hh : b ≠ h.1) (hx : b ≠ x.1) (hf : b ≠ f.1) : mp (fstW w h x f) b = mp w b := by
  rw [fstW, mp_sto hf, mp_sto hh]; show mp (sto _ _ _ _) b = _; rw [mp_sto hx, mp_sto hx]; rfl

theorem Rep.pl_fre (h : Rep ok B w c mb room L) {x : Pl} (hx : x ∈ ((c, 1) : Pl) :: L.map Nd.pl) : Sh.fre w x.1 = true := by
  simp only [List.mem_cons, List.mem_map] at hx
  rcases hx with rfl | ⟨n, hn, rfl⟩
  · exact h.fc
  · exact (h.node n hn).fre
theorem Rep.mb_pl (h : Rep ok B w c mb room L) {x : Pl} (hx : x ∈ ((c, 1) : Pl) :: L.map Nd.pl) : mb ≠ x.1 := h.mb_ne (h.pl_fre hx)

theorem keep_off {F : Nat → Prop} {p q : Pl} (hp : F p.1 ∨ siz w ≤ p.1) (hq : F q.1 ∨ siz w ≤ q.1) : Keep F w (offW w p q) := ((Keep.refl F w).drew.sto hp _ _).sto hq _ _
theorem keep_fst {F : Nat → Prop} {h x f : Pl} (hh : F h.1 ∨ siz w ≤ h.1) (hx : F x.1 ∨ siz w ≤ x.1) (hf : F f.1 ∨ siz w ≤ f.1) : Keep F w (fstW w h x f) :=
  (((((Keep.refl F w).drew.sto hx _ _).sto hx _ _).drew).sto hh _ _).sto hf _ _

theorem pl_foot {x : Pl} (hx : x ∈ ((c, 1) : Pl) :: L.map Nd.pl) : foot c mb L x.1 := by
  simp only [List.mem_cons, List.mem_map] at hx
  rcases hx with rfl | ⟨n, hn, rfl⟩
  · exact .inl rfl
  · exact .inr (.inr ⟨n, hn, rfl⟩)

/-- The places beside a node are places of the cache. -/
theorem beside {A C : List Nd} {n : Nd} {p q : Pl} {i r : List Pl} (hi : ((c, 1) : Pl) :: A.map Nd.pl = i ++ [p]) (hq : C.map Nd.pl ++ [((c, 1) : Pl)] = q :: r) :
    p ∈ ((c, 1) : Pl) :: (A ++ n :: C).map Nd.pl ∧ q ∈ ((c, 1) : Pl) :: (A ++ n :: C).map Nd.pl := by
  constructor
  · have : p ∈ ((c, 1) : Pl) :: A.map Nd.pl := by rw [hi]; simp
    simp only [List.mem_cons, List.map_append, List.map_cons, List.mem_append] at this ⊢
    rcases this with h | h
    · exact .inl h
    · exact .inr (.inl h)
  · have : q ∈ C.map Nd.pl ++ [((c, 1) : Pl)] := by rw [hq]; simp
    simp only [List.mem_cons, List.map_append, List.map_cons, List.mem_append, List.not_mem_nil, or_false] at this ⊢
    rcases this with h | h
    · exact .inr (.inr (.inr h))
    · exact .inl h

/-- A node is taken out and put first. -/
theorem Rep.use {A C : List Nd} {n : Nd} (h : Rep ok B w c mb room (A ++ n :: C)) {p q f : Pl} {i r rf : List Pl} (hi : ((c, 1) : Pl) :: A.map Nd.pl = i ++ [p]) (hq : C.map Nd.pl ++ [((c, 1) : Pl)] = q :: r)
    (hs : Seg (offW w p q) (i ++ p :: q :: r)) (hf : (A ++ C).map Nd.pl ++ [((c, 1) : Pl)] = f :: rf) :
    Rep ok B (fstW (offW w p q) (c, 1) n.pl f) c mb room (n :: (A ++ C)) := by
  obtain ⟨mp', mq⟩ := beside (n := n) hi hq
  have mf : f ∈ ((c, 1) : Pl) :: (A ++ n :: C).map Nd.pl := by
    have : f ∈ (A ++ C).map Nd.pl ++ [((c, 1) : Pl)] := by rw [hf]; simp
    simp only [List.mem_cons, List.map_append, List.map_cons, List.mem_append, List.not_mem_nil, or_false] at this ⊢
    rcases this with (h | h) | h
    · exact .inr (.inl h)
    · exact .inr (.inr (.inr h))
    · exact .inl h
  have mn : n.pl ∈ ((c, 1) : Pl) :: (A ++ n :: C).map Nd.pl := by simp
  have mc : ((c, 1) : Pl) ∈ ((c, 1) : Pl) :: (A ++ n :: C).map Nd.pl := by simp
  have e1 : i ++ p :: q :: r = ((c, 1) : Pl) :: f :: rf := by
    have : i ++ p :: q :: r = (i ++ [p]) ++ (q :: r) := by simp
    rw [this, ← hi, ← hq, ← hf]; simp
  rw [e1] at hs
  have hpl : (((c, 1) : Pl) :: (A.map Nd.pl ++ n.pl :: C.map Nd.pl)).Nodup := by
    have h1 : ((((c, 1) : Pl) :: (A.map Nd.pl ++ n.pl :: C.map Nd.pl)).map (·.1)).Nodup := by
      simp only [List.map_cons, List.map_append, List.map_map]
      have := h.nd; rw [List.map_append, List.map_cons] at this; exact this
    exact List.Pairwise.of_map _ (fun a b h e => h (by rw [e])) h1
  have hpl2 : (n.pl :: ((c, 1) : Pl) :: (A ++ C).map Nd.pl).Nodup := by
    refine List.Perm.nodup_iff ?_ |>.1 hpl
    rw [List.map_append]
    exact ((List.perm_middle).cons _).trans (List.Perm.swap _ _ _)
  have hap := h.apart
  have hrf : ∀ a ∈ f :: rf, a = (c, 1) ∨ a ∈ (A ++ C).map Nd.pl := fun a ha => by
    rw [← hf] at ha; simp only [List.mem_append, List.mem_cons, List.not_mem_nil, or_false] at ha; exact ha.symm
  have hcAC : ((c, 1) : Pl) ∉ (A ++ C).map Nd.pl := (List.nodup_cons.1 (List.nodup_cons.1 hpl2).2).1
  have cn : ∀ j, (j = 3 ∨ j = 4) → (cel (offW w p q) n.b (0 + j)).isSome = true := by
    intro j hj
    obtain ⟨p', q', i', r', _, _, hs', _, _, _, _, _, l1, l2⟩ := h.around
    have hw : (cel w n.b (0 + j)).isSome = true := by
      rcases hj with rfl | rfl
      · have := l1.2; simp only [Nd.pl] at this; rw [this]; rfl
      · have := l2.1; simp only [Nd.pl] at this; rw [this]; rfl
    have s1 : ∀ {w : World} {b o b' o' : Nat} {v : Value}, (cel w b' o').isSome = true → (cel (sto w b o v) b' o').isSome = true := by
      intro w b o b' o' v hc
      by_cases e : b' = b ∧ o' = o
      · obtain ⟨rfl, rfl⟩ := e; rw [cel_sto_same hc]; rfl
      · rw [cel_sto_ne e]; exact hc
    exact s1 (s1 hw)
  have hap2 : Apart (n.pl :: (c, 1) :: f :: rf) := fun a ha b hb e => by
    have sub : ∀ a ∈ n.pl :: ((c, 1) : Pl) :: f :: rf, a ∈ ((c, 1) : Pl) :: (A ++ n :: C).map Nd.pl := fun a ha => by
      rcases List.mem_cons.1 ha with rfl | ha
      · exact mn
      · rcases List.mem_cons.1 ha with rfl | ha
        · exact mc
        · rcases hrf a ha with rfl | ha
          · exact mc
          · simp only [List.map_append, List.mem_append, List.map_cons, List.mem_cons] at ha ⊢
            rcases ha with h | h
            · exact .inr (.inl h)
            · exact .inr (.inr (.inr h))
    exact hap a (sub a ha) b (sub b hb) e
  have hnd2 : ((A ++ C).map Nd.pl ++ [((c, 1) : Pl)]).Nodup := List.nodup_append.2 ⟨(List.nodup_cons.1 (List.nodup_cons.1 hpl2).2).2, by simp, fun a ha b hb => by simp at hb; subst hb; exact fun e => hcAC (e ▸ ha)⟩
  rw [hf] at hnd2
  have hseg := seg_first hap2 hs (fun hx => by
      rcases List.mem_cons.1 hx with e | hx
      · exact (List.nodup_cons.1 hpl2).1 (by rw [e]; simp)
      · rcases hrf _ hx with e | e
        · exact (List.nodup_cons.1 hpl2).1 (by rw [e]; simp)
        · exact (List.nodup_cons.1 hpl2).1 (List.mem_cons_of_mem _ e))
    (fun hx => by rw [← hf] at hx; simp only [List.dropLast_concat] at hx; exact hcAC hx) (List.nodup_cons.1 hnd2).1 (cn 3 (.inl rfl)) (cn 4 (.inr rfl))
  refine h.rering (L' := n :: (A ++ C)) (L'' := A ++ n :: C) (fun b o hst => ?_) (fun b => by rw [fre_fst, fre_off]) ?_ ?_ (List.perm_middle.symm) (List.Sublist.refl _)
  · rw [fst_still mc mn mf b o hst, off_still mp' mq b o hst]
  · obtain ⟨l, hl, hp⟩ := h.kv
    refine ⟨l, ?_, hp.trans ((List.perm_middle).map _)⟩
    rw [mp_fst (h.mb_pl mc) (h.mb_pl mn) (h.mb_pl mf), mp_off (h.mb_pl mp') (h.mb_pl mq)]
    exact hl
  · rw [List.map_cons, List.cons_append, hf]; exact hseg
end
end Go.Sh.Lru
