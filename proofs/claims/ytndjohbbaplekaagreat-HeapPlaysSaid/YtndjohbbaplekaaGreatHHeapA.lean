/- The heap of values that wait, as it lies in memory, by the place of each; what it means to be in order; what an exchange of two does. Conditions: none. -/
import Derived.Test.YtndjohbbaplekaaGreatHShM
import Derived.Test.YtndjohbbaplekaaGreatHShQ
set_option linter.unusedSimpArgs false
set_option linter.unusedVariables false
namespace Go.Sh.Hp

structure It where
  b : Nat
  t : Int
  id : Nat
  v : Value
def ptr (x : It) : Value := .pointer (some ⟨x.b, 0, none⟩)
def entry (x : It) : Value × Value := (.int .i64 (x.id : Int), ptr x)
def lt (a b : It) : Prop := a.t < b.t ∨ (a.t = b.t ∧ a.id < b.id)
def items (n : Nat) (f : Nat → It) : List It := (List.range n).map f
def sg (i j k : Nat) : Nat := if k = i then j else if k = j then i else k
def swp (f : Nat → It) (i j : Nat) : Nat → It := fun k => f (sg i j k)

theorem sg_sg (i j k : Nat) : sg i j (sg i j k) = k := by
  unfold sg
  split <;> split <;> (try split) <;> omega
theorem sg_lt {i j k n : Nat} (hi : i < n) (hj : j < n) (hk : k < n) : sg i j k < n := by
  unfold sg; split
  · exact hj
  · split <;> omega
theorem swp_i {f : Nat → It} {i j : Nat} : swp f i j i = f j := by simp [swp, sg]
theorem swp_j {f : Nat → It} {i j : Nat} : swp f i j j = f i := by
  simp only [swp, sg]; split
  · rename_i h; rw [h]
  · simp
theorem swp_ne {f : Nat → It} {i j k : Nat} (h : k ≠ i) (h' : k ≠ j) : swp f i j k = f k := by simp [swp, sg, h, h']
theorem mem_items {n : Nat} {f : Nat → It} {x : It} : x ∈ items n f ↔ ∃ k, k < n ∧ f k = x := by simp [items]
theorem items_swp {n i j : Nat} {f : Nat → It} (hi : i < n) (hj : j < n) : (items n (swp f i j)).Perm (items n f) := by
  have h1 : ((List.range n).map (sg i j)).Perm (List.range n) := by
    refine (List.perm_ext_iff_of_nodup ?_ List.nodup_range).2 fun k => ?_
    · exact List.pairwise_map.2 (List.nodup_range.imp fun {a b} hne e => hne (by rw [← sg_sg i j a, e, sg_sg]))
    · simp only [List.mem_map, List.mem_range]
      exact ⟨fun ⟨a, ha, e⟩ => e ▸ sg_lt hi hj ha, fun hk => ⟨sg i j k, sg_lt hi hj hk, sg_sg i j k⟩⟩
  have h2 : items n (swp f i j) = ((List.range n).map (sg i j)).map f := by simp [items, swp]
  rw [h2]
  exact h1.map f
theorem items_succ {n : Nat} {f : Nat → It} : items (n + 1) f = items n f ++ [f n] := by simp [items, List.range_succ]
theorem items_congr {n : Nat} {f g : Nat → It} (h : ∀ k, k < n → f k = g k) : items n f = items n g := List.map_congr_left fun k hk => h k (by simpa using hk)

def Heap (n : Nat) (f : Nat → It) : Prop := ∀ k, 0 < k → k < n → ¬ lt (f k) (f ((k - 1) / 2))
def UpPre (n : Nat) (f : Nat → It) (i : Nat) : Prop := (∀ k, 0 < k → k < n → k ≠ i → ¬ lt (f k) (f ((k - 1) / 2))) ∧ ∀ c, 0 < c → c < n → (c - 1) / 2 = i → 0 < i → ¬ lt (f c) (f ((i - 1) / 2))
def DnPre (n : Nat) (f : Nat → It) (i : Nat) : Prop := (∀ k, 0 < k → k < n → (k - 1) / 2 ≠ i → ¬ lt (f k) (f ((k - 1) / 2))) ∧ ∀ c, 0 < c → c < n → (c - 1) / 2 = i → 0 < i → ¬ lt (f c) (f ((i - 1) / 2))

theorem lt_asymm {a b : It} (h : lt a b) : ¬ lt b a := by unfold lt at *; omega
theorem lt_trans {a b c : It} (h : lt a b) (h' : lt b c) : lt a c := by unfold lt at *; omega
theorem nlt_trans {a b c : It} (h : ¬ lt a b) (h' : ¬ lt b c) : ¬ lt a c := by unfold lt at *; omega
theorem lt_nlt {a b c : It} (h : lt a b) (h' : ¬ lt c b) : ¬ lt c a := by unfold lt at *; omega

theorem up_step {n i : Nat} {f : Nat → It} (hi : i < n) (h0 : 0 < i) (hl : lt (f i) (f ((i - 1) / 2))) (h : UpPre n f i) : UpPre n (swp f i ((i - 1) / 2)) ((i - 1) / 2) := by
  obtain ⟨h1, h2⟩ := h
  generalize hp : (i - 1) / 2 = p at *
  have hpi : p < i := by omega
  refine ⟨fun k hk hkn hne => ?_, fun c hc hcn hcp hp0 => ?_⟩
  · by_cases e : k = i
    · subst e; rw [swp_i, hp, swp_j]; exact lt_asymm hl
    · rw [swp_ne e hne]
      by_cases e1 : (k - 1) / 2 = i
      · rw [e1, swp_i]; exact h2 k hk hkn e1 h0
      · by_cases e2 : (k - 1) / 2 = p
        · rw [e2, swp_j]
          have := h1 k hk hkn e
          rw [e2] at this
          exact lt_nlt hl this
        · rw [swp_ne e1 e2]; exact h1 k hk hkn e
  · have hg : swp f i p ((p - 1) / 2) = f ((p - 1) / 2) := swp_ne (by omega) (by omega)
    rw [hg]
    have hpp := h1 p hp0 (by omega) (by omega)
    by_cases e : c = i
    · subst e; rw [swp_i]; exact hpp
    · rw [swp_ne e (by omega)]
      have := h1 c hc hcn e
      rw [hcp] at this
      exact nlt_trans this hpp
theorem up_end {n i : Nat} {f : Nat → It} (h : UpPre n f i) (h0 : i = 0 ∨ ¬ lt (f i) (f ((i - 1) / 2))) : Heap n f := fun k hk hkn => by
  by_cases e : k = i
  · subst e; rcases h0 with h0 | h0
    · omega
    · exact h0
  · exact h.1 k hk hkn e

theorem dn_step {n i s : Nat} {f : Nat → It} (hs : s < n) (hsi : 0 < s ∧ (s - 1) / 2 = i) (hl : lt (f s) (f i)) (hm : ∀ c, 0 < c → c < n → (c - 1) / 2 = i → ¬ lt (f c) (f s)) (h : DnPre n f i) : DnPre n (swp f i s) s := by
  obtain ⟨h1, h2⟩ := h
  obtain ⟨hs0, hsp⟩ := hsi
  have his : i < s := by omega
  refine ⟨fun k hk hkn hne => ?_, fun c hc hcn hcp hp0 => ?_⟩
  · by_cases e : k = s
    · subst e; rw [swp_j, hsp, swp_i]; exact lt_asymm hl
    · by_cases e1 : (k - 1) / 2 = i
      · rw [swp_ne (by omega) e, e1, swp_i]; exact hm k hk hkn e1
      · by_cases e2 : k = i
        · subst e2
          rw [swp_i, swp_ne (by omega) hne]
          exact h2 s hs0 hs hsp hk
        · rw [swp_ne e2 e, swp_ne e1 hne]; exact h1 k hk hkn e1
  · rw [hsp, swp_i, swp_ne (by omega) (by omega)]
    have := h1 c hc hcn (by omega)
    rw [hcp] at this
    exact this
theorem dn_end {n i : Nat} {f : Nat → It} (h : DnPre n f i) (hm : ∀ c, 0 < c → c < n → (c - 1) / 2 = i → ¬ lt (f c) (f i)) : Heap n f := fun k hk hkn => by
  by_cases e : (k - 1) / 2 = i
  · rw [e]; exact hm k hk hkn e
  · exact h.1 k hk hkn e
theorem root_min {n : Nat} {f : Nat → It} (h : Heap n f) : ∀ k, k < n → ¬ lt (f k) (f 0) := fun k => by
  induction k using Nat.strongRecOn with
  | _ k ih =>
    intro hk
    rcases Nat.eq_zero_or_pos k with rfl | h0
    · unfold lt; omega
    · exact nlt_trans (h k h0 hk) (ih ((k - 1) / 2) (by omega) (by omega))
theorem heap_dn {n i : Nat} {f : Nat → It} (h : Heap n f) : DnPre n f i := ⟨fun k hk hkn _ => h k hk hkn, fun c hc hcn e h0 => by
  have h1 := h c hc hcn
  rw [e] at h1
  exact nlt_trans h1 (h i h0 (by omega))⟩
/-- The last one stands in the place of one that went. -/
theorem gone_pre {n i : Nat} {f g : Nat → It} (h : Heap (n + 1) f) (hi : i < n) (hg : ∀ k, k < n → k ≠ i → g k = f k) :
    (∀ k, 0 < k → k < n → k ≠ i → (k - 1) / 2 ≠ i → ¬ lt (g k) (g ((k - 1) / 2))) ∧ ∀ c, 0 < c → c < n → (c - 1) / 2 = i → 0 < i → ¬ lt (g c) (g ((i - 1) / 2)) := by
  refine ⟨fun k hk hkn e e1 => ?_, fun c hc hcn e h0 => ?_⟩
  · rw [hg k hkn e, hg _ (by omega) e1]; exact h k hk (by omega)
  · rw [hg c hcn (by omega), hg _ (by omega) (by omega)]
    have h1 := h c hc (by omega)
    rw [e] at h1
    exact nlt_trans h1 (h i h0 (by omega))

/-! ### in memory -/

structure Item (w : World) (x : It) (k : Nat) : Prop where
  t : cel w x.b 0 = some (.int .i64 x.t)
  id : cel w x.b 1 = some (.int .i64 (x.id : Int))
  v : cel w x.b 2 = some x.v
  k : cel w x.b 3 = some (.int .i64 (k : Int))
  fre : fre w x.b = true
  ov : one x.v = true

structure Mem (e : TypeId) (F : Nat → Prop) (w : World) (h : Nat) (sl : Value) (mo : Option Nat) (last n : Nat) (f : Nat → It) : Prop where
  Fh : F h
  Fm : ∀ m, mo = some m → F m
  Fi : ∀ k, k < n → F (f k).b
  Fs : ∀ g, sl.ownBlock = some g → F g
  l : cel w h 0 = some sl
  m : cel w h 1 = some (.map mo)
  z : cel w h 2 = some (.int .i64 (last : Int))
  fh : Sh.fre w h = true
  own : Own w 0 e 1 sl n ((List.range n).map fun k => ptr (f k))
  it : ∀ k, k < n → Item w (f k) k
  kv : (mo = none ∧ n = 0) ∨ ∃ m l, mo = some m ∧ mp w m = some l ∧ l.Perm ((items n f).map entry)
  nb : ∀ i j, i < n → j < n → (f i).b = (f j).b → i = j
  hb : ∀ k, k < n → (f k).b ≠ h
  sb : ∀ g, sl.ownBlock = some g → g ≠ h ∧ ∀ k, k < n → (f k).b ≠ g
  ids : ∀ k, k < n → 1 ≤ (f k).id ∧ (f k).id ≤ last
  inj : ∀ i j, i < n → j < n → (f i).id = (f j).id → i = j
  big : n ≤ last ∧ last ≤ 1000000

section
variable {e : TypeId} {F : Nat → Prop} {w w' : World} {h : Nat} {sl : Value} {mo : Option Nat} {last n : Nat} {f : Nat → It}

theorem mp_fre {b : Nat} {l : List (Value × Value)} (hm : mp w b = some l) : Sh.fre w b = false := by
  simp only [mp, kvO] at hm
  simp only [Sh.fre, freeO]
  split at hm
  · rename_i hx; rw [hx]
  · cases hm

theorem Item.keep {x : It} {k : Nat} (hi : Item w x k) (hb : blk w' x.b = blk w x.b) : Item w' x k :=
  ⟨by rw [cel, hb]; exact hi.t, by rw [cel, hb]; exact hi.id, by rw [cel, hb]; exact hi.v, by rw [cel, hb]; exact hi.k, by rw [Sh.fre, hb]; exact hi.fre, hi.ov⟩

/-- Its blocks are as they were. -/
theorem Mem.keep {G : Nat → Prop} (hm : Mem e F w h sl mo last n f) (k : Keep G w w') (hG : ∀ b, F b → b < siz w → ¬ G b) : Mem e F w' h sl mo last n f where
  Fh := hm.Fh
  Fm := hm.Fm
  Fi := hm.Fi
  Fs := hm.Fs
  l := k.cel hm.l (hG h hm.Fh (fre_lt hm.fh))
  m := k.cel hm.m (hG h hm.Fh (fre_lt hm.fh))
  z := k.cel hm.z (hG h hm.Fh (fre_lt hm.fh))
  fh := k.fre hm.fh (hG h hm.Fh (fre_lt hm.fh))
  own := hm.own.keep k fun g hg => hG g (hm.Fs g hg) (hm.own.lt hg).2
  it := fun i hi => (hm.it i hi).keep (k.block _ (fre_lt (hm.it i hi).fre) (hG _ (hm.Fi i hi) (fre_lt (hm.it i hi).fre)))
  kv := by
    rcases hm.kv with hk | ⟨m, l, e, hl, hp⟩
    · exact .inl hk
    · exact .inr ⟨m, l, e, by rw [mp, k.block m (mp_lt hl) (hG m (hm.Fm m e) (mp_lt hl))]; exact hl, hp⟩
  nb := hm.nb
  hb := hm.hb
  sb := hm.sb
  ids := hm.ids
  inj := hm.inj
  big := hm.big
theorem Mem.still (hm : Mem e F w h sl mo last n f) (k : Keep (fun _ => False) w w') : Mem e F w' h sl mo last n f := hm.keep k fun _ _ _ => id
theorem Mem.drew (hm : Mem e F w h sl mo last n f) : Mem e F w.drew h sl mo last n f := hm.still (Keep.refl _ _).drew

/-- The world behind an exchange. -/
def swW (w : World) (g i j : Nat) (x y : It) : World := sto (sto ((sto (sto w.drew g i (ptr y)) g j (ptr x)).drew) y.b 3 (.int .i64 (i : Int))) x.b 3 (.int .i64 (j : Int))

theorem map_set_swp {i j : Nat} (hi : i < n) (hj : j < n) : (((List.range n).map fun k => ptr (f k)).set i (ptr (f j))).set j (ptr (f i)) = (List.range n).map fun k => ptr (swp f i j k) := by
  refine List.ext_getElem? fun k => ?_
  by_cases hk : k < n
  · simp only [List.getElem?_set, List.length_set, List.length_map, List.length_range, List.getElem?_map, List.getElem?_range hk, Option.map_some]
    by_cases e2 : j = k
    · subst e2; simp [hk, swp_j]
    · by_cases e1 : i = k
      · subst e1; simp [hk, e2, swp_i]
      · simp [e1, e2, swp_ne (Ne.symm e1) (Ne.symm e2)]
  · rw [List.getElem?_eq_none (by simp; omega), List.getElem?_eq_none (by simp; omega)]

theorem Mem.swap {g cap i j : Nat} (hm : Mem e F w h (.slice (some ⟨g, 0, none⟩) n cap) mo last n f) (hi : i < n) (hj : j < n) : Mem e F (swW w g i j (f i) (f j)) h (.slice (some ⟨g, 0, none⟩) n cap) mo last n (swp f i j) := by
  have hg := hm.sb g rfl
  have hgh := hg.1
  have hgi := hg.2
  have ho1 := (hm.drew.own.set (x := ptr (f j)) hi).set (x := ptr (f i)) hj
  rw [map_set_swp hi hj] at ho1
  have cE : ∀ b o, b ≠ g → ¬ (b = (f j).b ∧ o = 3) → ¬ (b = (f i).b ∧ o = 3) → cel (swW w g i j (f i) (f j)) b o = cel w b o := fun b o h1 h2 h3 => by
    rw [swW, cel_sto_ne h3, cel_sto_ne h2, cel_drew, cel_sto_ne (fun e => h1 e.1), cel_sto_ne (fun e => h1 e.1), cel_drew]
  have fE : ∀ b, Sh.fre (swW w g i j (f i) (f j)) b = Sh.fre w b := fun b => by rw [swW, fre_sto, fre_sto, fre_drew, fre_sto, fre_sto, fre_drew]
  have bE : ∀ b, b ≠ g → b ≠ (f i).b → b ≠ (f j).b → blk (swW w g i j (f i) (f j)) b = blk w b := fun b h1 h2 h3 => by
    rw [swW, blk_sto_ne h2, blk_sto_ne h3]
    show blk (sto (sto w.drew g i (ptr (f j))) g j (ptr (f i))) b = _
    rw [blk_sto_ne h1, blk_sto_ne h1]; rfl
  have own3 : ∀ k, k < n → Item (swW w g i j (f i) (f j)) (swp f i j k) k := fun k hk => by
    have hk' : sg i j k < n := sg_lt hi hj hk
    have it := hm.it _ hk'
    have hbg := hgi _ hk'
    have hbg' : (f (sg i j k)).b ≠ g := hbg
    refine ⟨?_, ?_, ?_, ?_, by rw [fE]; exact it.fre, it.ov⟩
    · rw [show (swp f i j k) = f (sg i j k) from rfl, cE _ _ hbg' (by omega) (by omega)]; exact it.t
    · rw [show (swp f i j k) = f (sg i j k) from rfl, cE _ _ hbg' (by omega) (by omega)]; exact it.id
    · rw [show (swp f i j k) = f (sg i j k) from rfl, cE _ _ hbg' (by omega) (by omega)]; exact it.v
    · have c3j : (cel (sto (sto w.drew g i (ptr (f j))) g j (ptr (f i))).drew (f j).b 3).isSome = true := by
        rw [cel_drew, cel_sto_ne (fun e => hgi j hj e.1), cel_sto_ne (fun e => hgi j hj e.1), cel_drew, (hm.it j hj).k]; rfl
      have c3i : (cel (sto ((sto (sto w.drew g i (ptr (f j))) g j (ptr (f i))).drew) (f j).b 3 (.int .i64 (i : Int))) (f i).b 3).isSome = true := by
        rw [cel_sto c3j]; split
        · rfl
        · rw [cel_drew, cel_sto_ne (fun e => hgi i hi e.1), cel_sto_ne (fun e => hgi i hi e.1), cel_drew, (hm.it i hi).k]; rfl
      by_cases e2 : k = j
      · subst e2
        rw [swp_j, swW, cel_sto_same c3i]
      · by_cases e1 : k = i
        · subst e1
          rw [swp_i, swW, cel_sto_ne (fun e => e2 (hm.nb _ _ hj hi e.1).symm), cel_sto_same c3j]
        · rw [swp_ne e1 e2, cE _ _ (hgi k hk) (fun e => e2 (hm.nb _ _ hk hj e.1)) (fun e => e1 (hm.nb _ _ hk hi e.1))]
          exact (hm.it k hk).k
  refine ⟨hm.Fh, hm.Fm, fun k hk => hm.Fi _ (sg_lt hi hj hk), hm.Fs, ?_, ?_, ?_, by rw [fE]; exact hm.fh, ?_, own3, ?_, ?_, fun k hk => hm.hb _ (sg_lt hi hj hk), fun g' hg' => ⟨(hm.sb g' hg').1, fun k hk => (hm.sb g' hg').2 _ (sg_lt hi hj hk)⟩, fun k hk => hm.ids _ (sg_lt hi hj hk), ?_, hm.big⟩
  · rw [cE _ _ (Ne.symm hgh) (by omega) (by omega)]; exact hm.l
  · rw [cE _ _ (Ne.symm hgh) (by omega) (by omega)]; exact hm.m
  · rw [cE _ _ (Ne.symm hgh) (by omega) (by omega)]; exact hm.z
  · refine Own.keep (F := fun b => b = (f j).b ∨ b = (f i).b) ho1 ?_ fun g' hg' hf => ?_
    · rw [swW]
      exact (((Keep.refl (fun b => b = (f j).b ∨ b = (f i).b) _).drew).sto (.inl (.inl rfl)) _ _).sto (.inl (.inr rfl)) _ _
    · rcases hf with e | e
      · exact (hm.sb g' hg').2 j hj e.symm
      · exact (hm.sb g' hg').2 i hi e.symm
  · rcases hm.kv with hk | ⟨m, l, e, hl, hp⟩
    · exact .inl hk
    · have hmf := mp_fre hl
      have ne : ∀ b, Sh.fre w b = true → m ≠ b := fun b hb e => by subst e; rw [hmf] at hb; cases hb
      refine .inr ⟨m, l, e, ?_, hp.trans ((items_swp hi hj).symm.map entry)⟩
      rw [mp, bE m (ne g (hm.own.fre rfl)) (ne _ (hm.it i hi).fre) (ne _ (hm.it j hj).fre)]; exact hl
  · intro a b ha hb' e
    have := hm.nb _ _ (sg_lt hi hj ha) (sg_lt hi hj hb') e
    rw [← sg_sg i j a, this, sg_sg]
  · intro a b ha hb' e
    have := hm.inj _ _ (sg_lt hi hj ha) (sg_lt hi hj hb') e
    rw [← sg_sg i j a, this, sg_sg]
theorem Mem.swap_keep {g cap i j : Nat} (hm : Mem e F w h (.slice (some ⟨g, 0, none⟩) n cap) mo last n f) (hi : i < n) (hj : j < n) : Keep F w (swW w g i j (f i) (f j)) := by
  have hg := hm.Fs g rfl
  rw [swW]
  exact ((((((Keep.refl F w).drew).sto (.inl hg) _ _).sto (.inl hg) _ _).drew).sto (.inl (hm.Fi j hj)) _ _).sto (.inl (hm.Fi i hi)) _ _

theorem Mem.okKv {l : List (Value × Value)} (hp : l.Perm ((items n f).map entry)) : okKeys isI64 l := fun p hpm => by
  obtain ⟨x, _, rfl⟩ := List.mem_map.1 (hp.subset hpm)
  exact ⟨_, rfl⟩
theorem Mem.kvNodup (hm : Mem e F w h sl mo last n f) {l : List (Value × Value)} (hp : l.Perm ((items n f).map entry)) : (l.map (·.1)).Nodup := by
  refine ((hp.map (·.1)).nodup_iff).2 ?_
  rw [List.map_map, items, List.map_map]
  refine List.pairwise_map.2 (List.Pairwise.imp_of_mem ?_ List.nodup_range)
  intro a b ha hb hne e
  simp only [Function.comp_apply, entry, Value.int.injEq, true_and] at e
  exact hne (hm.inj a b (by simpa using ha) (by simpa using hb) (by omega))
theorem Mem.kvHit (hm : Mem e F w h sl mo last n f) {l : List (Value × Value)} (hp : l.Perm ((items n f).map entry)) {k : Nat} (hk : k < n) : aget (.int .i64 ((f k).id : Int)) l = some (ptr (f k)) :=
  aget_of_mem (hm.kvNodup hp) (hp.symm.subset (List.mem_map.2 ⟨f k, mem_items.2 ⟨k, hk, rfl⟩, rfl⟩))
theorem Mem.kvMiss {l : List (Value × Value)} (hp : l.Perm ((items n f).map entry)) {i : Int} (hi : ∀ k, k < n → ((f k).id : Int) ≠ i) : aget (.int .i64 i) l = none := by
  rw [aget_none]
  intro hm
  obtain ⟨p, hpm, he⟩ := List.mem_map.1 hm
  obtain ⟨x, hx, rfl⟩ := List.mem_map.1 (hp.subset hpm)
  obtain ⟨k, hk, rfl⟩ := mem_items.1 hx
  simp only [entry, Value.int.injEq, true_and] at he
  exact hi k hk he

/-- The last one is cut off, its key taken out. -/
theorem Mem.cut {g cap m : Nat} {l : List (Value × Value)} {w2 : World} (hm : Mem e F w h (.slice (some ⟨g, 0, none⟩) (n + 1) cap) (some m) last (n + 1) f) (hp : l.Perm ((items (n + 1) f).map entry))
    (hw : MapTo (sto (sto w g n (.pointer none)) h 0 (.slice (some ⟨g, 0, none⟩) n cap)) w2 m (adel (.int .i64 ((f n).id : Int)) l)) (hl : mp w m = some l) : Mem e F w2 h (.slice (some ⟨g, 0, none⟩) n cap) (some m) last n f ∧ Keep F w w2 := by
  have hg := hm.sb g rfl
  have hmf := mp_fre hl
  have ne : ∀ b, Sh.fre w b = true → b ≠ m := fun b hb e => by subst e; rw [hmf] at hb; cases hb
  have bE : ∀ b, b ≠ m → b ≠ g → b ≠ h → blk w2 b = blk w b := fun b h1 h2 h3 => by rw [hw.block b h1, blk_sto_ne h3, blk_sto_ne h2]
  have cE : ∀ b o, b ≠ m → b ≠ g → ¬ (b = h ∧ o = 0) → cel w2 b o = cel w b o := fun b o h1 h2 h3 => by
    rw [cel, hw.block b h1]; show cel _ b o = _
    rw [cel_sto_ne h3, cel_sto_ne (fun e => h2 e.1)]
  have hh := ne h hm.fh
  have c0 : (cel (sto w g n (.pointer none)) h 0).isSome = true := by rw [cel_sto_ne (fun e => hg.1 e.1.symm), hm.l]; rfl
  have k2 : Keep F w w2 := (((Keep.refl F w).sto (.inl (hm.Fs g rfl)) _ _).sto (.inl hm.Fh) _ _).trans (hw.keep.mono fun b _ e => by rw [e]; exact hm.Fm m rfl)
  refine ⟨⟨hm.Fh, hm.Fm, fun k hk => hm.Fi k (by omega), fun g' hg' => hm.Fs g' hg', ?_, ?_, ?_, ?_, ?_, fun k hk => ?_, ?_, fun i j hi hj => hm.nb i j (by omega) (by omega), fun k hk => hm.hb k (by omega),
    fun g' hg' => ⟨(hm.sb g' hg').1, fun k hk => (hm.sb g' hg').2 k (by omega)⟩, fun k hk => hm.ids k (by omega), fun i j hi hj => hm.inj i j (by omega) (by omega), by have := hm.big; omega⟩, k2⟩
  · rw [cel, hw.block h hh]; exact cel_sto_same c0
  · rw [cE _ _ hh (Ne.symm hg.1) (by omega)]; exact hm.m
  · rw [cE _ _ hh (Ne.symm hg.1) (by omega)]; exact hm.z
  · rw [Sh.fre, hw.block h hh]; show Sh.fre _ h = true
    rw [fre_sto, fre_sto]; exact hm.fh
  · have o1 := (hm.own.set (x := .pointer none) (Nat.lt_succ_self n)).cut (Nat.le_succ n)
    have o2 : (((List.range (n + 1)).map fun k => ptr (f k)).set n (.pointer none)).take n = (List.range n).map fun k => ptr (f k) := by
      rw [List.take_set_of_le (Nat.le_refl n), ← List.map_take, List.take_range, Nat.min_eq_left (Nat.le_succ n)]
    rw [o2] at o1
    refine o1.keep (F := fun b => b = h ∨ b = m) ?_ fun g' hg' hf => ?_
    · exact ((Keep.refl (fun b => b = h ∨ b = m) _).sto (.inl (.inl rfl)) _ _).trans (hw.keep.mono fun b _ e => .inr e)
    · injection hg' with hg'
      subst hg'
      rcases hf with e | e
      · exact hg.1 e
      · exact ne _ (hm.own.fre rfl) e
  · have it := hm.it k (by omega)
    exact it.keep (bE _ (ne _ it.fre) (hg.2 k (by omega)) (hm.hb k (by omega)))
  · refine .inr ⟨m, _, rfl, hw.map, ?_⟩
    have h1 := adel_perm (hm.kvHit hp (Nat.lt_succ_self n))
    have h2 : ((.int .i64 ((f n).id : Int), ptr (f n)) :: adel (.int .i64 ((f n).id : Int)) l).Perm (entry (f n) :: (items n f).map entry) := by
      refine (h1.trans hp).trans ?_
      rw [items_succ, List.map_append]
      exact List.perm_append_comm
    exact List.Perm.cons_inv h2
/-- The count is one more. -/
theorem Mem.bump (hm : Mem e F w h sl mo last n f) (hb : last + 1 ≤ 1000000) : Mem e F (sto w h 2 (.int .i64 ((last + 1 : Nat) : Int))) h sl mo (last + 1) n f := by
  have cE : ∀ b o, ¬ (b = h ∧ o = 2) → cel (sto w h 2 (.int .i64 ((last + 1 : Nat) : Int))) b o = cel w b o := fun b o h => cel_sto_ne h
  refine ⟨hm.Fh, hm.Fm, hm.Fi, hm.Fs, by rw [cE _ _ (by omega)]; exact hm.l, by rw [cE _ _ (by omega)]; exact hm.m, cel_sto_same (by rw [hm.z]; rfl), by rw [fre_sto]; exact hm.fh, ?_, fun k hk => (hm.it k hk).keep (blk_sto_ne (hm.hb k hk)), ?_,
    hm.nb, hm.hb, hm.sb, fun k hk => ⟨(hm.ids k hk).1, by have := (hm.ids k hk).2; omega⟩, hm.inj, by have := hm.big; omega⟩
  · exact hm.own.keep (F := fun b => b = h) ((Keep.refl (fun b => b = h) _).sto (b := h) (.inl rfl) _ _) fun g hg e => (hm.sb g hg).1 e
  · rcases hm.kv with hk | ⟨m, l, e, hl, hp⟩
    · exact .inl hk
    · have hmf := mp_fre hl
      refine .inr ⟨m, l, e, ?_, hp⟩
      rw [mp, blk_sto_ne (fun e => by subst e; rw [hm.fh] at hmf; cases hmf)]; exact hl

def ext (f : Nat → It) (n : Nat) (x : It) : Nat → It := fun k => if k = n then x else f k
theorem ext_n {x : It} : ext f n x n = x := by simp [ext]
theorem ext_lt {x : It} {k : Nat} (hk : k < n) : ext f n x k = f k := by simp [ext, Nat.ne_of_lt hk]
theorem items_ext {x : It} : items (n + 1) (ext f n x) = items n f ++ [x] := by
  rw [items_succ, ext_n, items_congr fun k hk => ext_lt hk]

/-- A new one stands at the end. -/
theorem Mem.push {sl' : Value} {m : Nat} {x : It} {l : List (Value × Value)} {w1 w7 w9 : World} (hm : Mem e F w1 h sl (some m) last n f) (hx : Item w1 x n) (hFx : F x.b) (hid : x.id = last) (hids : ∀ k, k < n → (f k).id < last) (hpos : 1 ≤ last) (hbig : n + 1 ≤ last)
    (hxb : ∀ k, k < n → (f k).b ≠ x.b) (hxh : x.b ≠ h) (hxs : ∀ g, sl.ownBlock = some g → g ≠ x.b)
    (ho : Own w7 0 e 1 sl' (n + 1) (((List.range n).map fun k => ptr (f k)) ++ [ptr x])) (k7 : Keep (fun b => sl.ownBlock = some b) w1 w7) (hs' : ∀ g, sl'.ownBlock = some g → sl.ownBlock = some g ∨ siz w1 ≤ g) (hF : ∀ b, siz w1 ≤ b → F b)
    (hl : mp w1 m = some l) (hp : l.Perm ((items n f).map entry)) (hw : MapTo (sto w7 h 0 sl') w9 m (aput (.int .i64 (x.id : Int)) (ptr x) l)) : Mem e F w9 h sl' (some m) last (n + 1) (ext f n x) ∧ Keep F w1 w9 := by
  have hmf := mp_fre hl
  have ne : ∀ b, Sh.fre w1 b = true → b ≠ m := fun b hb e => by subst e; rw [hmf] at hb; cases hb
  have hh := ne h hm.fh
  have hoh : ¬ sl.ownBlock = some h := fun e => (hm.sb h e).1 rfl
  have om : ¬ sl.ownBlock = some m := fun e => ne m (hm.own.fre e) rfl
  have bE : ∀ b, b < siz w1 → b ≠ m → ¬ sl.ownBlock = some b → b ≠ h → blk w9 b = blk w1 b := fun b hlt h1 h2 h3 => by rw [hw.block b h1, blk_sto_ne h3, k7.block b hlt h2]
  have it9 : ∀ k, k < n + 1 → Item w9 (ext f n x k) k := fun k hk => by
    by_cases ek : k = n
    · subst ek
      rw [ext_n]
      exact hx.keep (bE _ (fre_lt hx.fre) (ne _ hx.fre) (fun e => hxs _ e rfl) hxh)
    · have hk' : k < n := by omega
      rw [ext_lt hk']
      have it := hm.it k hk'
      exact it.keep (bE _ (fre_lt it.fre) (ne _ it.fre) (fun e => (hm.sb _ e).2 k hk' rfl) (hm.hb k hk'))
  have h7 : ∀ {o v}, cel w1 h o = some v → cel w7 h o = some v := fun hc => k7.cel hc hoh
  have kk : Keep F w1 w9 := ((k7.mono (F' := F) fun b _ e => hm.Fs b e).sto (.inl hm.Fh) 0 sl').trans (hw.keep.mono fun b _ e => by rw [e]; exact hm.Fm m rfl)
  refine ⟨⟨hm.Fh, hm.Fm, fun k hk => ?_, fun g hg => ?_, ?_, ?_, ?_, ?_, ?_, it9, ?_, ?_, ?_, ?_, ?_, ?_, by have := hm.big; omega⟩, kk⟩
  · by_cases ek : k = n
    · subst ek; rw [ext_n]; exact hFx
    · rw [ext_lt (by omega)]; exact hm.Fi k (by omega)
  · rcases hs' g hg with h | h
    · exact hm.Fs g h
    · exact hF g h
  · rw [cel, hw.block h hh]; exact cel_sto_same (by rw [h7 hm.l]; rfl)
  · rw [cel, hw.block h hh]; show cel _ h 1 = _; rw [cel_sto_ne (by omega)]; exact h7 hm.m
  · rw [cel, hw.block h hh]; show cel _ h 2 = _; rw [cel_sto_ne (by omega)]; exact h7 hm.z
  · rw [Sh.fre, hw.block h hh]; show Sh.fre _ h = true; rw [fre_sto]; exact k7.fre hm.fh hoh
  · have e1 : ((List.range n).map fun k => ptr (f k)) ++ [ptr x] = (List.range (n + 1)).map fun k => ptr (ext f n x k) := by
      rw [List.range_succ, List.map_append, List.map_singleton, ext_n]
      congr 1
      exact List.map_congr_left fun k hk => by rw [ext_lt (by simpa using hk)]
    rw [← e1]
    refine ho.keep (F := fun b => b = h ∨ b = m) (((Keep.refl (fun b => b = h ∨ b = m) _).sto (.inl (.inl rfl)) _ _).trans (hw.keep.mono fun b _ e => .inr e)) fun g hg hf => ?_
    have hlt1 := fre_lt hm.fh
    have hlt2 := mp_lt hl
    rcases hs' g hg with h1 | h1
    · rcases hf with rfl | rfl
      · exact hoh h1
      · exact om h1
    · rcases hf with rfl | rfl <;> omega
  · refine .inr ⟨m, _, rfl, hw.map, ?_⟩
    rw [items_ext, List.map_append]
    refine (aput_perm_new (Mem.kvMiss hp fun k hk he => ?_)).trans ((hp.cons _).trans ?_)
    · have := hids k hk; omega
    · exact (List.perm_append_comm (l₁ := (items n f).map entry) (l₂ := [entry x])).symm
  · intro i j hi hj e
    by_cases ei : i = n <;> by_cases ej : j = n
    · omega
    · subst ei; rw [ext_n, ext_lt (by omega)] at e; exact absurd e.symm (hxb j (by omega))
    · subst ej; rw [ext_n, ext_lt (by omega)] at e; exact absurd e (hxb i (by omega))
    · rw [ext_lt (by omega), ext_lt (by omega)] at e; exact hm.nb i j (by omega) (by omega) e
  · intro k hk
    by_cases ek : k = n
    · subst ek; rw [ext_n]; exact hxh
    · rw [ext_lt (by omega)]; exact hm.hb k (by omega)
  · intro g hg
    have hlt1 := fre_lt hm.fh
    refine ⟨?_, fun k hk => ?_⟩
    · rcases hs' g hg with h1 | h1
      · exact (hm.sb g h1).1
      · omega
    · by_cases ek : k = n
      · subst ek; rw [ext_n]
        rcases hs' g hg with h1 | h1
        · exact (hxs g h1).symm
        · have := fre_lt hx.fre; omega
      · rw [ext_lt (by omega)]
        rcases hs' g hg with h1 | h1
        · exact (hm.sb g h1).2 k (by omega)
        · have := fre_lt (hm.it k (by omega)).fre; omega
  · intro k hk
    by_cases ek : k = n
    · subst ek; rw [ext_n]; omega
    · rw [ext_lt (by omega)]; exact hm.ids k (by omega)
  · intro i j hi hj e
    by_cases ei : i = n <;> by_cases ej : j = n
    · omega
    · subst ei; rw [ext_n, ext_lt (by omega)] at e; have := hids j (by omega); omega
    · subst ej; rw [ext_n, ext_lt (by omega)] at e; have := hids i (by omega); omega
    · rw [ext_lt (by omega), ext_lt (by omega)] at e; exact hm.inj i j (by omega) (by omega) e
theorem push_pre {x : It} (h : Heap n f) : UpPre (n + 1) (ext f n x) n := by
  refine ⟨fun k hk hkn hne => ?_, fun c hc hcn e h0 => by omega⟩
  rw [ext_lt (by omega), ext_lt (by omega)]
  exact h k hk (by omega)
end
end Go.Sh.Hp
