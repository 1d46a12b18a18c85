/- The document's own cache: how it lies in memory; finding, using. Conditions: as each says. -/
import Derived.Test.YtdnbegjamoeahaaGreatLLruIi
import Derived.Test.YtdnbegjamoeahaaGreatLBook
set_option linter.unusedSimpArgs false
set_option linter.unusedVariables false
namespace Go.Proofs.YtdnbegjamoeahaaGreatL
open Go.Sh
set_option maxRecDepth 100000
/-- A key, its value, its pins. -/
abbrev Sl := Int × Int × Nat
abbrev encR (s : Sl) : List Value := [.int .i64 s.1, .int .i64 s.2.1, .int .i64 (s.2.2 : Int)]
theorem encR_len (s : Sl) : (encR s).length = 3 := rfl
theorem encR_one {s : Sl} {u : Value} (h : u ∈ encR s) : Go.Sh.one u = true := by
  simp only [encR, List.mem_cons, List.not_mem_nil, or_false] at h
  rcases h with rfl | rfl | rfl <;> rfl
theorem encR_ones {S : List Sl} : ∀ u ∈ flat encR S, Go.Sh.one u = true := fun u hu => by
  obtain ⟨s, _, hs⟩ := List.mem_flatMap.1 hu
  exact encR_one hs
abbrev tSl : TypeId := 62
abbrev tLr : TypeId := 30
/-- The document's cache in memory. -/
structure RL (w : World) (B r : Nat) (sl : Value) (S : List Sl) (room : Nat) : Prop where
  c : blk w r = some (.cells #[sl, .int .i64 (room : Int)] tLr)
  o : Own w B tSl 3 sl S.length (flat encR S)
section
variable {w w' : World} {Q : Value → World → Prop} {B r room : Nat} {sl : Value} {S A C : List Sl} {s : Sl} {x : Int}
theorem own_new {u : World} {base z n : Nat} {e : TypeId} {xs : List Value} (hb : base ≤ siz u) (hl : xs.length = n * z) (hn : n ≤ maxLen) : Own (u.alloc (.cells xs.toArray e)) base e z (.slice (some ⟨siz u, 0, none⟩) n n) n xs :=
  ⟨hl, .inr ⟨siz u, n, xs.toArray, rfl, hb, blk_alloc_new, Nat.le_refl _, hn, by simp [hl], by simp [← hl]⟩⟩
theorem RL.lt (h : RL w B r sl S room) : r < siz w := blk_lt h.c
theorem RL.sl_ne (h : RL w B r sl S room) : ∀ g, sl.ownBlock = some g → g ≠ r := fun g hg e => by
  obtain ⟨_, cs, hc⟩ := (h.o.trd (Nat.le_refl _)).2 g hg
  rw [e, h.c] at hc; injection hc with hc; injection hc with _ hc; cases hc
theorem RL.keep {F : Nat → Prop} (h : RL w B r sl S room) (k : Keep F w w') (h1 : ¬ F r) (h2 : ∀ g, sl.ownBlock = some g → ¬ F g) : RL w' B r sl S room := ⟨k.blk h.c h1, h.o.keep k h2⟩
theorem RL.keep0 (h : RL w B r sl S room) (k : K0 w w') : RL w' B r sl S room := h.keep k id fun _ _ => id
theorem slots_at {b o : Nat} (hc : ∀ j, j < S.length * 3 → Sh.cel w b (o + j) = (flat encR S)[j]?) {i : Nat} {p : Sl} (h : S[i]? = some p) :
    Sh.cel w b (o + i * 3) = some (.int .i64 p.1) ∧ Sh.cel w b (o + i * 3 + 1) = some (.int .i64 p.2.1) ∧ Sh.cel w b (o + i * 3 + 2) = some (.int .i64 (p.2.2 : Int)) := by
  have hi := (List.getElem?_eq_some_iff.1 h).1
  refine ⟨?_, ?_, ?_⟩
  · rw [hc _ (by omega)]; exact flat_get (enc := encR) encR_len h (j := 0) (by omega)
  · rw [Nat.add_assoc, hc _ (by omega)]; exact flat_get (enc := encR) encR_len h (j := 1) (by omega)
  · rw [Nat.add_assoc, hc _ (by omega)]; exact flat_get (enc := encR) encR_len h (j := 2) (by omega)
theorem find_aux (h : RL w B r sl S room) (hS : S.length ≤ 100000) (hh : ∀ A s C, S = A ++ s :: C → s.1 = x → (∀ a ∈ A, a.1 ≠ x) → Q (.int .i64 (A.length : Int)) w) (hm : (∀ s ∈ S, s.1 ≠ x) → Q (.int .i64 (-1)) w) :
    callS Tryz.prog 15 #[.pointer (some ⟨r, 0, none⟩), .int .i64 x] Q w := by
  refine ref15 ?_
  unfold S15
  have c0 : Sh.cel w r 0 = some sl := cel_b h.c 0
  obtain ⟨pa, ca, rfl⟩ := h.o.form
  refine lpc1 S.length (by omega) (fun i w' => w' = w ∧ ∀ j (hj : j < S.length), j < i → S[j].1 ≠ x) ⟨rfl, fun j _ h => by omega⟩ (fun i w1 hi ⟨e, hI⟩ J hJ => ?_) (fun w1 ⟨e, hI⟩ J => ?_)
  · intro _j
    subst e
    have hi' : ((i : Int) < (S.length : Int)) := by omega
    obtain ⟨g, c, e, _, _, _, _, _, hc⟩ := h.o.at (by omega)
    injection e with e1 _ e2
    subst e1 e2
    obtain ⟨p0, p1, p2⟩ := slots_at (b := g) (o := 0) (fun j hj => by rw [Nat.zero_add]; exact hc j hj) (List.getElem?_eq_getElem hi)
    rw [Nat.zero_add] at p0
    simp only [stp, Nat.reduceAdd, Int.reduceLT, Int.reduceLE, Int.reduceEq, Int.reduceNe, ne_eq, bne_self_eq_false, beq_self_eq_true, stm, c0, hi', Option.isSome_some, Option.getD_some]
    rw [ix_28 hi]
    by_cases he : S[i].1 = x
    · simp only [stp, Nat.reduceAdd, Int.reduceLT, Int.reduceLE, Int.reduceEq, Int.reduceNe, ne_eq, bne_self_eq_false, beq_self_eq_true, stm, p0, he, Option.isSome_some, Option.getD_some]
      have hs : S = S.take i ++ S[i] :: S.drop (i + 1) := by rw [List.getElem_cons_drop, List.take_append_drop]
      have := hh (S.take i) S[i] (S.drop (i + 1)) hs he fun a ha => by
        obtain ⟨j, hj, rfl⟩ := List.getElem_of_mem ha
        rw [List.length_take] at hj
        rw [List.getElem_take]; exact hI j (by omega) (by omega)
      rw [List.length_take, Nat.min_eq_left (by omega)] at this
      exact this
    · simp only [stp, Nat.reduceAdd, Int.reduceLT, Int.reduceLE, Int.reduceEq, Int.reduceNe, ne_eq, bne_self_eq_false, beq_self_eq_true, stm, p0, he, Option.isSome_some, Option.getD_some]
      refine hJ _ ⟨rfl, fun j hj hji => ?_⟩
      by_cases e : j = i
      · subst e; exact he
      · exact hI j hj (by omega)
  · intro _j
    subst e
    have hi' : ¬ ((S.length : Int) < (S.length : Int)) := by omega
    simp only [stp, Nat.reduceAdd, Int.reduceLT, Int.reduceLE, Int.reduceEq, Int.reduceNe, ne_eq, bne_self_eq_false, beq_self_eq_true, stm, c0, hi', Option.isSome_some, Option.getD_some]
    exact hm fun s hs => by
      obtain ⟨j, hj, rfl⟩ := List.getElem_of_mem hs
      exact hI j hj hj
/-- What is put behind a row of one's own. -/
theorem app_sl {base n m : Nat} {v u : Value} {xs ys : List Value} {k : Value → World → Prop} (ho : Own w base tSl 3 v n xs) (hr : Rd 3 w u m ys) (h1 : ∀ y ∈ ys, Go.Sh.one y = true) (hb : n + m ≤ 1000000) (hbase : base ≤ siz w)
    (hk : ∀ v' w', Own w' base tSl 3 v' (n + m) (xs ++ ys) → Keep (fun g => v.ownBlock = some g) w w' → (∀ g, v'.ownBlock = some g → v.ownBlock = some g ∨ siz w ≤ g) → k v' w') :
    act Tryz.prog (Builtin.append_ #[28, 28] 28 #[v, u]) k w := by
  by_cases h0 : m = 0
  · subst h0
    obtain ⟨a, c, rfl⟩ := hr.form
    have e : ys = [] := List.length_eq_zero_iff.1 (by have := hr.len; omega)
    rw [ap0_28 ho]
    refine hk v w ?_ (Keep.refl _ _) (fun g h => .inl h)
    rw [e, List.append_nil]; exact ho
  · obtain ⟨g, o, c, rfl, _, hc⟩ := hr.at (by omega)
    exact ap_28 ho (b := g) (o := o) (m := m) (news := ys) hr.len hc h1 (by omega) hbase fun v' w' ho' hg hr' => hk v' w' ho' (grown_keep hg) hr'
/-- The parts of a list ahead of an element and behind it. -/
theorem cut_rd {g cap : Nat} (ho : Own w B tSl 3 (.slice (some ⟨g, 0, none⟩) (A ++ s :: C).length cap) (A ++ s :: C).length (flat encR (A ++ s :: C))) :
    Rd 3 w (.slice (some ⟨g, 0, none⟩) A.length cap) A.length (flat encR A) ∧ Rd 3 w (.slice (some (if cap = A.length + 1 then ⟨g, 0, none⟩ else ⟨g, 0 + (A.length + 1) * 3, none⟩)) ((A ++ s :: C).length - (A.length + 1)) (cap - (A.length + 1))) C.length (flat encR C) := by
  have hlen : (A ++ s :: C).length = A.length + 1 + C.length := by simp; omega
  obtain ⟨g', c', e, _, _, hcap, _, _, hc⟩ := ho.at (by omega)
  injection e with e1 _ e2
  injection e1 with e1
  injection e1 with e1
  subst e1 e2
  have hc' : ∀ j, j < (A ++ s :: C).length * 3 → Sh.cel w g (0 + j) = (flat encR (A ++ s :: C))[j]? := fun j hj => by rw [Nat.zero_add]; exact hc j hj
  refine ⟨⟨by rw [flat_len encR_len], .inr ⟨g, 0, cap, rfl, by omega, fun j hj => ?_⟩⟩, ?_⟩
  · rw [hc' j (by omega), flat_append, List.getElem?_append_left (by rw [flat_len encR_len]; exact hj)]
  · have := Rd.from (z := 3) (w := w) (b := g) (o := 0) (c := cap) (n := (A ++ s :: C).length) (i := A.length + 1) (xs := flat encR (A ++ s :: C)) (flat_len encR_len _) hc' (by omega) hcap
      (a := if cap = A.length + 1 then ⟨g, 0, none⟩ else ⟨g, 0 + (A.length + 1) * 3, none⟩) (fun h => by rw [if_neg (by omega)])
    rw [flat_drop encR_len, show (A ++ s :: C).drop (A.length + 1) = C by rw [List.drop_append]; simp] at this
    rw [hlen, show A.length + 1 + C.length - (A.length + 1) = C.length by omega] at this ⊢
    exact this
/-- What stands while a list is laid anew. -/
def UW (u0 : World) (x y z : Option Value) (A C : List Sl) (s : Sl) (u : World) : Prop :=
  K0 u0 u ∧ (∀ v, x = some v → Own u (siz u0) tSl 3 v 1 (encR s)) ∧ (∀ v, y = some v → Own u (siz u0) tSl 3 v A.length (flat encR A)) ∧ (∀ v, z = some v → Own u (siz u0) tSl 3 v (A.length + C.length) (flat encR (A ++ C))) ∧
    (∀ v v' g, x = some v → (y = some v' ∨ z = some v') → v.ownBlock = some g → v'.ownBlock ≠ some g)
variable {u0 u : World} {k : Value → World → Prop} {X Y Z : Option Value}
theorem UW.init : UW u0 none none none A C s u0 := ⟨K0.refl _, fun _ h => (by cases h), fun _ h => (by cases h), fun _ h => (by cases h), fun _ _ _ h => (by cases h)⟩
theorem UW.bld (h : UW u0 none Y Z A C s u) (hk : ∀ v u', UW u0 (some v) Y Z A C s u' → k v u') : act Tryz.prog (Instr.buildSlice 28 1 #[(0, .agg (encR s).toArray)]) k u := by
  obtain ⟨k0, _, hy, hz, _⟩ := h
  have s0 := k0.size
  show act Tryz.prog (Instr.buildSlice 28 1 #[(0, .agg #[.int .i64 s.1, .int .i64 s.2.1, .int .i64 (s.2.2 : Int)])]) k u
  rw [bs_28]
  have ka : K0 u (u.alloc (.cells (encR s).toArray tSl)) := (K0.refl u).alloc _
  refine hk _ _ ⟨k0.trans ka, fun v e => ?_, fun v e => (hy v e).keep ka fun _ _ => id, fun v e => (hz v e).keep ka fun _ _ => id, fun v v' g e e' hg hg' => ?_⟩
  · injection e with e
    subst e
    exact own_new (by omega) rfl (by unfold maxLen; omega)
  · injection e with e
    subst e
    have hg : siz u = g := Option.some.inj hg
    have : g < siz u := by
      rcases e' with e' | e'
      · exact ((hy v' e').lt hg').2
      · exact ((hz v' e').lt hg').2
    omega
theorem UW.ap1 {v0 : Value} (h : UW u0 X none none A C s u) (hr : Rd 3 u0 v0 A.length (flat encR A)) (hl : A.length ≤ 100000) (hk : ∀ v u', UW u0 X (some v) none A C s u' → k v u') :
    act Tryz.prog (Builtin.append_ #[28, 28] 28 #[.slice none 0 0, v0]) k u := by
  obtain ⟨k0, hx, _, _, _⟩ := h
  have s0 := k0.size
  refine app_sl (Own.nil u (siz u0) tSl 3) (hr.keep0 k0) encR_ones (by omega) s0 fun v u' o ku hb => ?_
  have ku : K0 u u' := ku.mono fun g _ e => by cases e
  rw [Nat.zero_add, List.nil_append] at o
  refine hk v u' ⟨k0.trans ku, fun v e => (hx v e).keep ku fun _ _ => id, fun v2 e => ?_, fun _ e => (by cases e), fun v1 v2 g e e' hg hg' => ?_⟩
  · injection e with e
    subst e; exact o
  · rcases e' with e' | e'
    · injection e' with e'
      subst e'
      rcases hb g hg' with h1 | h1
      · cases h1
      · have := ((hx v1 e).lt hg).2; omega
    · cases e'
theorem UW.ap2 {v0 y : Value} (h : UW u0 X (some y) none A C s u) (hr : Rd 3 u0 v0 C.length (flat encR C)) (hl : A.length + C.length ≤ 100000) (hk : ∀ v u', UW u0 X none (some v) A C s u' → k v u') :
    act Tryz.prog (Builtin.append_ #[28, 28] 28 #[y, v0]) k u := by
  obtain ⟨k0, hx, hy, _, hd⟩ := h
  have s0 := k0.size
  have oy := hy y rfl
  refine app_sl oy (hr.keep0 k0) encR_ones (by omega) s0 fun v u' o ku hb => ?_
  rw [← flat_append] at o
  refine hk v u' ⟨k0.trans' ku fun q hq e => by have := (oy.lt e).1; omega, fun v1 e => (hx v1 e).keep ku fun q hq e' => hd v1 y q e (.inl rfl) hq e', fun _ e => (by cases e), fun v2 e => ?_, fun v1 v2 g e e' hg hg' => ?_⟩
  · injection e with e
    subst e; exact o
  · rcases e' with e' | e'
    · cases e'
    · injection e' with e'
      subst e'
      rcases hb g hg' with h1 | h1
      · exact hd v1 y g e (.inl rfl) hg h1
      · have := ((hx v1 e).lt hg).2; omega
theorem UW.ldL {sl : Value} {room : Nat} {k : Value → Prop} (h : UW u0 X Y Z A C s u) (hr : RL u0 B r sl S room) (hk : k sl) : rd Tryz.prog (Instr.loadAt 28 (.pointer (some ⟨r, 0, none⟩))) k u :=
  ⟨sl, rl_28 (cel_b (h.1.blk hr.c id) 0), hk⟩
theorem UW.ap3 {v14 v29 : Value} (h : UW u0 (some v14) none (some v29) A C s u) (hl : A.length + C.length ≤ 100000) (hk : ∀ v u', K0 u0 u' → Own u' (siz u0) tSl 3 v (s :: (A ++ C)).length (flat encR (s :: (A ++ C))) → k v u') :
    act Tryz.prog (Builtin.append_ #[28, 28] 28 #[v14, v29]) k u := by
  obtain ⟨k0, hx, _, hz, hd⟩ := h
  have s0 := k0.size
  have ox := hx v14 rfl
  have oz := hz v29 rfl
  refine app_sl ox oz.rd encR_ones (by omega) s0 fun v u' o ku hb => ?_
  refine hk v u' (k0.trans' ku fun q hq e => by have := (ox.lt e).1; omega) ?_
  have e : (s :: (A ++ C)).length = 1 + (A.length + C.length) := by simp; omega
  rw [e, flat_cons]; exact o
/-- A place's key was used last. -/
theorem ruse_c (h : RL w B r sl (A ++ s :: C) room) (hB : B ≤ siz w) (hl : A.length + C.length ≤ 100000)
    (hq : ∀ w' sl', RL w' B r sl' (s :: (A ++ C)) room → (∀ g, sl'.ownBlock = some g → siz w ≤ g) → Keep (fun g => g = r) w w' → Q (.tuple #[]) w') :
    callS Tryz.prog 19 #[.pointer (some ⟨r, 0, none⟩), .int .i64 (A.length : Int)] Q w := by
  refine ref19 ?_
  unfold S19
  have hlen : (A ++ s :: C).length = A.length + 1 + C.length := by simp; omega
  have c0 : Sh.cel w r 0 = some sl := cel_b h.c 0
  obtain ⟨g, c, rfl, hg1, hg2, hcap, _, _, hc⟩ := h.o.at (by omega)
  have hia : A.length < (A ++ s :: C).length := by omega
  obtain ⟨p0, p1, p2⟩ := slots_at (b := g) (o := 0) (S := A ++ s :: C) (fun j hj => by rw [Nat.zero_add]; exact hc j hj) (i := A.length) (p := s) (by simp)
  rw [Nat.zero_add] at p0 p1 p2
  simp only [pur_nil, fa_30_0]
  rw [ld_28 (by rw [c0]; rfl), c0, Option.getD_some, ix_28 hia, Nat.zero_add, ld_62 (by rw [p0]; rfl) (by rw [p1]; rfl) (by rw [p2]; rfl), p0, p1, p2, Option.getD_some, Option.getD_some, Option.getD_some, al_62]
  generalize hw1 : w.alloc _ = w1
  have b1 : blk w1 (siz w) = some (.cells #[.int .i64 0, .int .i64 0, .int .i64 0] tSl) := by rw [← hw1]; exact blk_alloc_new
  have k1 : K0 w w1 := by rw [← hw1]; exact (K0.refl w).alloc _
  have s1 : siz w1 = siz w + 1 := by rw [← hw1, siz_alloc]
  have e0 : ∀ o, Sh.cel w1 (siz w) o = (#[.int .i64 0, .int .i64 0, .int .i64 0] : Array Value)[o]? := fun o => cel_b b1 o
  rw [st_62 one_int one_int one_int (by rw [e0]; rfl) (by rw [e0]; rfl) (by rw [e0]; rfl) (fre_b b1)]
  have k2 : K0 w (stoL w1 (siz w) 0 (encR s)) := k1.stoL _ 0 (.inr (Nat.le_refl _))
  have b2 : blk (stoL w1 (siz w) 0 (encR s)) (siz w) = some (.cells (encR s).toArray tSl) := blk_stoL_all (zs := [.int .i64 0, .int .i64 0, .int .i64 0]) (xs := encR s) rfl b1
  have s2 : siz (stoL w1 (siz w) 0 (encR s)) = siz w + 1 := by rw [siz_stoL, s1]
  generalize stoL w1 (siz w) 0 _ = w2 at k2 b2 s2
  have k2 : K0 w w2.drew := k2.drew
  have b2 : blk w2.drew (siz w) = some (.cells (encR s).toArray tSl) := b2
  have s2 : siz w2.drew = siz w + 1 := s2
  have h2 := h.keep0 k2
  obtain ⟨rA, rC⟩ := cut_rd h2.o
  refine jn0 (fun w' => ∃ sl', RL w' B r sl' (s :: (A ++ C)) room ∧ (∀ g, sl'.ownBlock = some g → siz w ≤ g) ∧ Keep (fun g => g = r) w w') (fun J hJ => ?_) (fun w' ⟨sl', a1, a2, a3⟩ _j => hq w' sl' a1 a2 a3)
  have hwi : IntKind.i64.wrap ((A.length : Int) + 1) = ((A.length + 1 : Nat) : Int) := wrap_succ (by omega)
  simp only [pur_nil, fa_30_0, pur_add, hwi]
  generalize w2.drew = u0 at *
  have l4 : ∀ {u : World} {k : Value → Prop} {X Y Z : Option Value}, UW u0 X Y Z A C s u → k (.agg (encR s).toArray) → rd Tryz.prog (Instr.loadAt 62 (.pointer (some ⟨siz w, 0, none⟩))) k u := fun {u k X Y Z} hu hk => by
    have bu := hu.1.blk b2 id
    have d0 : Sh.cel u (siz w) 0 = some (.int .i64 s.1) := cel_b bu 0
    have d1 : Sh.cel u (siz w) 1 = some (.int .i64 s.2.1) := cel_b bu 1
    have d2 : Sh.cel u (siz w) 2 = some (.int .i64 (s.2.2 : Int)) := cel_b bu 2
    rw [ld_62 (by rw [d0]; rfl) (by rw [d1]; rfl) (by rw [d2]; rfl), d0, d1, d2]
    exact hk
  have fin : ∀ {u : World} {v : Value}, K0 u0 u → Own u (siz u0) tSl 3 v (s :: (A ++ C)).length (flat encR (s :: (A ++ C))) → act Tryz.prog (thenU (Instr.storeAt 28 (.pointer (some ⟨r, 0, none⟩)) v)) (fun _ w_7 => J w_7) u := fun {u v} ku o => by
    have hu := h2.keep0 ku
    obtain ⟨pv, cv, rfl⟩ := o.form
    rw [st_28 one_slice (by rw [cel_b hu.c]; rfl) (fre_b hu.c)]
    have ks : Keep (fun g => g = r) u (sto u r 0 (.slice pv (s :: (A ++ C)).length cv)) := (Keep.refl (fun g => g = r) u).sto (.inl rfl) _ _
    have hrlt := h.lt
    refine hJ _ ⟨_, ⟨by rw [blk_sto hu.c]; rfl, (o.keep ks fun q hq e => by have := (o.lt hq).1; omega).le (by omega)⟩, fun q hq => by have := (o.lt hq).1; omega, ((k2.trans ku).none).trans ks⟩
  have i0 := UW.init (u0 := u0) (A := A) (C := C) (s := s)
  clear hq hJ
  repeat' first
    | with_reducible refine And.intro ?_ ?_
    | with_reducible refine l4 (by assumption) ?_
    | with_reducible refine UW.ldL (by assumption) h2 ?_
    | with_reducible refine UW.bld (by assumption) fun v u' hu' => ?_
    | with_reducible refine UW.ap1 (by assumption) rA (by omega) fun v u' hu' => ?_
    | with_reducible refine UW.ap2 (by assumption) rC hl fun v u' hu' => ?_
    | with_reducible refine UW.ap3 (by assumption) hl fun v u' ku' ho' => ?_
    | with_reducible exact fin (by assumption) (by assumption)
    | with_reducible rw [slt_28 (by omega)]
    | with_reducible rw [slf_28 (by omega) hcap]
end
end Go.Proofs.YtdnbegjamoeahaaGreatL
