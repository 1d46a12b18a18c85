/- What HeapPlays computes: true. Conditions: none. -/
import Derived.Test.YtndjohbbaplekaaGreatHHeapZ
set_option linter.unusedSimpArgs false
set_option linter.unusedVariables false
namespace Go.Proofs.YtndjohbbaplekaaGreatH
open Go.Sh Go.Sh.Hp
set_option maxRecDepth 100000
section
variable {w : World} {Q : Value → World → Prop}
theorem op_at {b o : Nat} {L : List I3} (hc : ∀ j, j < L.length * 3 → Sh.cel w b (o + j) = (flat enc3 L)[j]?) {i : Nat} {p : I3} (h : L[i]? = some p) :
    Sh.cel w b (o + i * 3) = some (.int .i64 p.1) ∧ Sh.cel w b (o + i * 3 + 1) = some (.int .i64 p.2.1) ∧ Sh.cel w b (o + i * 3 + 2) = some (.int .i64 p.2.2) := by
  have hi := (List.getElem?_eq_some_iff.1 h).1
  refine ⟨?_, ?_, ?_⟩
  · rw [hc _ (by omega)]; exact flat_get (enc := enc3) enc3_len h (j := 0) (by omega)
  · rw [Nat.add_assoc, hc _ (by omega)]; exact flat_get (enc := enc3) enc3_len h (j := 1) (by omega)
  · rw [Nat.add_assoc, hc _ (by omega)]; exact flat_get (enc := enc3) enc3_len h (j := 2) (by omega)
theorem Mem.mlt {e : TypeId} {F : Nat → Prop} {c last n : Nat} {sl : Value} {mo : Option Nat} {f : Nat → It} (hm : Mem e F w c sl mo last n f) {m : Nat} (e : mo = some m) : m < siz w := by
  rcases hm.kv with ⟨h0, _⟩ | ⟨m', l, h0, hl, _⟩
  · rw [h0] at e; cases e
  · rw [h0] at e; injection e with e; subst e
    exact mp_lt hl
/-- What stands between two calls. -/
structure St (w0 : World) (B : Nat) (u : World) (c r b : Nat) (E : Nat → Prop) (i : Nat) (sh : Value) (mo : Option Nat) (last n : Nat) (f : Nat → It) (X : List It) (sl : Value) (L : List Wt) (bf : Nat → Value) (ps qs : List (Value × List Int)) : Prop where
  p : PS w0 B u c r b E sh mo last n f sl L last bf ps qs
  h : HS n f X L
  l : last ≤ i
variable {w0 u u' : World} {B c r b i last n bo : Nat} {E : Nat → Prop} {sh sl : Value} {mo : Option Nat} {f : Nat → It} {X : List It} {L : List Wt} {bf : Nat → Value} {ps qs : List (Value × List Int)} {x : Int} {eo : Array Value}
theorem St.k0 (h : St w0 B u c r b E i sh mo last n f X sl L bf ps qs) (k : K0 u u') : St w0 B u' c r b E i sh mo last n f X sl L bf ps qs := { h with p := h.p.k0 k }
theorem St.nl (h : St w0 B u c r b E i sh mo last n f X sl L bf ps qs) : n = L.length ∧ X.length = L.length ∧ L.length ≤ i := ⟨h.h.len.symm, h.h.xl, by have := h.p.hm.big.1; have := h.h.len; have := h.l; omega⟩
/-- The one that the document's list holds, in the heap. -/
theorem St.hit {A C : List Wt} {s : Wt} (h : St w0 B u c r b E i sh mo last n f X sl (A ++ s :: C) bf ps qs) : ∃ (k : Nat) (hx : A.length < X.length), k < n ∧ f k = X[A.length] ∧ (f k).t = s.1 ∧ (f k).id = s.2.1 ∧ (f k).v = .int .i64 s.2.2 := by
  have hl : A.length < (A ++ s :: C).length := by simp
  have hx : A.length < X.length := by rw [h.h.xl]; exact hl
  obtain ⟨k, hk, e⟩ := h.h.mem hx
  have ha := h.h.at hl hx
  rw [List.getElem_append_right (Nat.le_refl _)] at ha
  simp only [Nat.sub_self, List.getElem_cons_zero] at ha
  rw [← e] at ha
  exact ⟨k, hx, hk, e, ha⟩
theorem St.miss (h : St w0 B u c r b E i sh mo last n f X sl L bf ps qs) (hn : ∀ s ∈ L, (s.2.1 : Int) ≠ x) : ∀ k, k < n → ((f k).id : Int) ≠ x := fun k hk e => by
  have hm : f k ∈ X := h.h.p.mem_iff.2 (mem_items.2 ⟨k, hk, rfl⟩)
  obtain ⟨j, hj, ej⟩ := List.getElem_of_mem hm
  have hjl : j < L.length := by rw [← h.h.xl]; exact hj
  have ha := (h.h.at hjl hj).2.1
  rw [ej] at ha
  exact hn L[j] (List.getElem_mem hjl) (by rw [← ha]; exact e)
theorem St.fst (h : St w0 B u c r b E i sh mo last n f X sl L bf ps qs) (h0 : 0 < L.length) : ∃ hx : 0 < X.length, f 0 = X[0] ∧ (f 0).t = L[0].1 ∧ (f 0).v = .int .i64 L[0].2.2 := by
  have hx : 0 < X.length := by rw [h.h.xl]; exact h0
  have e := h.h.first (by rw [← h.h.len]; exact h0) hx
  have ha := h.h.at h0 hx
  rw [← e] at ha
  exact ⟨hx, e, ha.1, ha.2.2⟩
theorem decL : ∀ (L : List Wt) (x : Int), (∃ A s C, L = A ++ s :: C ∧ (s.2.1 : Int) = x ∧ ∀ a ∈ A, (a.2.1 : Int) ≠ x) ∨ ∀ s ∈ L, (s.2.1 : Int) ≠ x
  | [], x => .inr fun s h => by simp at h
  | t :: S, x => by
    by_cases ht : (t.2.1 : Int) = x
    · exact .inl ⟨[], t, S, rfl, ht, fun a ha => by simp at ha⟩
    · rcases decL S x with ⟨A, s, C, rfl, h1, h2⟩ | h
      · exact .inl ⟨t :: A, s, C, rfl, h1, fun a ha => by
          rcases List.mem_cons.1 ha with rfl | ha
          · exact ht
          · exact h2 a ha⟩
      · exact .inr fun s hs => by
          rcases List.mem_cons.1 hs with rfl | hs
          · exact ht
          · exact h s hs
theorem dec_unique : ∀ {A A' C C' : List Wt} {s s' : Wt}, A ++ s :: C = A' ++ s' :: C' → (s.2.1 : Int) = x → (s'.2.1 : Int) = x → (∀ a ∈ A, (a.2.1 : Int) ≠ x) → (∀ a ∈ A', (a.2.1 : Int) ≠ x) → A = A' ∧ s = s' ∧ C = C'
  | [], [], C, C', s, s', h, _, _, _, _ => by simp at h; exact ⟨rfl, h.1, h.2⟩
  | [], a :: A', C, C', s, s', h, h1, _, _, h4 => by
    simp at h
    exact absurd h1 (by rw [h.1]; exact h4 a (by simp))
  | a :: A, [], C, C', s, s', h, _, h2, h3, _ => by
    simp at h
    exact absurd h2 (by rw [← h.1]; exact h3 a (by simp))
  | a :: A, a' :: A', C, C', s, s', h, h1, h2, h3, h4 => by
    simp at h
    obtain ⟨e1, e2, e3⟩ := dec_unique (A := A) (A' := A') h.2 h1 h2 (fun b hb => h3 b (by simp [hb])) (fun b hb => h4 b (by simp [hb]))
    exact ⟨by rw [h.1, e1], e2, e3⟩
theorem hfind_hit {lr : Nat} {A C : List Wt} {s : Wt} (h : RH w B r sl L lr) (hL : L = A ++ s :: C) (hS : L.length ≤ 90000) (hs : (s.2.1 : Int) = x) (hA : ∀ a ∈ A, (a.2.1 : Int) ≠ x) (hq : Q (.int .i64 (A.length : Int)) w) :
    callS Tryz.prog 14 #[.pointer (some ⟨r, 0, none⟩), .int .i64 x] Q w :=
  hfind_aux h (by omega) (fun A' s' C' e h1 h2 => by rw [hL] at e; obtain ⟨rfl, _, _⟩ := dec_unique e hs h1 hA h2; exact hq) fun hn => absurd hs (hn s (by rw [hL]; simp))
theorem hfind_miss {lr : Nat} (h : RH w B r sl L lr) (hS : L.length ≤ 90000) (hn : ∀ s ∈ L, (s.2.1 : Int) ≠ x) (hq : Q (.int .i64 (-1)) w) :
    callS Tryz.prog 14 #[.pointer (some ⟨r, 0, none⟩), .int .i64 x] Q w :=
  hfind_aux h (by omega) (fun A' s' C' e h1 _ => absurd h1 (hn s' (by rw [e]; simp))) fun _ => hq
set_option maxHeartbeats 4000000 in
theorem plays_c {zero : Bool} {v : Value} {l : List I3} (hL : Rd 3 w v l.length (flat enc3 l)) (_ : l.length ≤ maxLen) (_ : ∀ s ∈ l, good3 s)
    (hq : ∀ w', Keep (fun b => siz w ≤ b) w w' → Q (.bool true) w') : callS Tryz.prog 3 #[.bool zero, v] Q w := by
  refine ref3 ?_
  unfold S3
  obtain ⟨pa, ca, rfl⟩ := hL.form
  by_cases hbig : (150 : Int) < (l.length : Int)
  · simp only [stp, Nat.reduceAdd, Int.reduceLT, Int.reduceLE, Int.reduceEq, Int.reduceNe, ne_eq, bne_self_eq_false, beq_self_eq_true, hbig]
    exact alive_c fun w' k => hq _ k.none
  simp only [stp, Nat.reduceAdd, Int.reduceLT, Int.reduceLE, Int.reduceEq, Int.reduceNe, ne_eq, bne_self_eq_false, beq_self_eq_true, hbig]
  refine Hi.new_c (F := fun g => siz w ≤ g) (Nat.le_refl _) fun w1 f0 hm1 k1 => ?_
  have s1 := k1.size
  try simp only [stp, Nat.reduceAdd, Int.reduceLT, Int.reduceLE, Int.reduceEq, Int.reduceNe, ne_eq, bne_self_eq_false, beq_self_eq_true, stm]
  have kr1 := (K0.refl w1).alloc (.cells #[.slice none 0 0, .int .i64 0] tHp)
  have br1 : Sh.blk (w1.alloc (.cells #[.slice none 0 0, .int .i64 0] tHp)) (siz w1) = some (.cells #[.slice none 0 0, .int .i64 0] tHp) := blk_alloc_new
  have sr1 : siz (w1.alloc (.cells #[.slice none 0 0, .int .i64 0] tHp)) = siz w1 + 1 := siz_alloc
  generalize w1.alloc (.cells #[.slice none 0 0, .int .i64 0] tHp) = w2 at kr1 br1 sr1
  have hm2 := hm1.still kr1
  have rh2 : RH w2 (siz w) (siz w1) (.slice none 0 0) [] 0 := ⟨br1, Sh.Own.nil _ _ _ _⟩
  refine jn1 (fun x w' => ∃ c f, x = .pointer (some ⟨c, 0, none⟩) ∧ Mem tI4 (fun g => siz w ≤ g) w' c (.slice none 0 0) none 0 0 f ∧ RH w' (siz w) (siz w1) (.slice none 0 0) [] 0 ∧ c ≠ siz w1 ∧ K0 w w') (fun J hJ => ?_) ?_
  · cases zero
    · simp only [stp, Nat.reduceAdd, Int.reduceLT, Int.reduceLE, Int.reduceEq, Int.reduceNe, ne_eq, bne_self_eq_false, beq_self_eq_true, stm]
      exact hJ _ _ ⟨siz w, f0, rfl, hm2, rh2, by have := cel_lt hm1.l; omega, k1.trans kr1⟩
    · simp only [stp, Nat.reduceAdd, Int.reduceLT, Int.reduceLE, Int.reduceEq, Int.reduceNe, ne_eq, bne_self_eq_false, beq_self_eq_true, stm]
      refine hJ _ _ ⟨siz w2, fun _ => ⟨0, 0, 0, undef⟩, rfl, ?_, rh2.keep0 ((K0.refl w2).alloc _), by omega, (k1.trans kr1).alloc _⟩
      refine ⟨by omega, by simp, by omega, fun g hg => (by cases hg), ?_, ?_, ?_, fre_alloc_new, Sh.Own.nil _ _ _ _, by omega, .inl ⟨rfl, rfl⟩, by omega, by omega, fun g hg => (by cases hg), by omega, by omega, by omega⟩
      all_goals rw [cel_alloc_new]; rfl
  · rintro x w3 ⟨c, f1, rfl, hm3, rh3, hcr, k3⟩ _j
    simp only [stp, Nat.reduceAdd, Int.reduceLT, Int.reduceLE, Int.reduceEq, Int.reduceNe, ne_eq, bne_self_eq_false, beq_self_eq_true, stm]
    have kb := (K0.refl w3).alloc (.cells ((List.range 30).map fun _ => Value.slice none 0 0).toArray tB4)
    have bb : BkC tB4 (w3.alloc (.cells ((List.range 30).map fun _ => Value.slice none 0 0).toArray tB4)) (siz w3) (fun _ => .slice none 0 0) := blk_alloc_new
    have sb : siz (w3.alloc (.cells ((List.range 30).map fun _ => Value.slice none 0 0).toArray tB4)) = siz w3 + 1 := siz_alloc
    rw [show w3.alloc (.cells #[Value.slice none 0 0, Value.slice none 0 0, Value.slice none 0 0, Value.slice none 0 0, Value.slice none 0 0, Value.slice none 0 0, Value.slice none 0 0, Value.slice none 0 0, Value.slice none 0 0, Value.slice none 0 0, Value.slice none 0 0, Value.slice none 0 0, Value.slice none 0 0, Value.slice none 0 0, Value.slice none 0 0, Value.slice none 0 0, Value.slice none 0 0, Value.slice none 0 0, Value.slice none 0 0, Value.slice none 0 0, Value.slice none 0 0, Value.slice none 0 0, Value.slice none 0 0, Value.slice none 0 0, Value.slice none 0 0, Value.slice none 0 0, Value.slice none 0 0, Value.slice none 0 0, Value.slice none 0 0, Value.slice none 0 0] tB4) = w3.alloc (.cells ((List.range 30).map fun _ => Value.slice none 0 0).toArray tB4) from rfl]
    generalize w3.alloc (.cells ((List.range 30).map fun _ => Value.slice none 0 0).toArray tB4) = w4 at kb bb sb
    have s3 := k3.size
    have hm4 := hm3.still kb
    have ks0 : BkInts.KsX w4 (siz w) (fun _ => .slice none 0 0) [] [] := KS.nil _ _ _ _ _ _ _
    have st0 : St w (siz w) w4 c (siz w1) (siz w3) (fun _ => False) 0 (.slice none 0 0) none 0 0 f1 [] (.slice none 0 0) [] (fun _ => .slice none 0 0) [] [] :=
      { p := { hm := { hm4 with Fh := ⟨hm4.Fh, hcr, by simp [Value.ownBlock], (by have := cel_lt hm3.l; omega), (fun e => by rcases e with (e | ⟨p, hp, _⟩) | (e | ⟨p, hp, _⟩) <;> first | cases e | simp at hp), id⟩, Fm := fun m e => (by cases e), Fi := fun k hk => (by omega), Fs := fun g hg => (by cases hg) }
               rh := rh3.keep0 kb, bk := bb, ks := ks0, nf := fun _ _ _ => rfl, kp := (k3.trans kb).none, Bw := by omega, Br := s1, Bb := s3, eE := fun g hg => hg.elim }
        h := ⟨by simp [items], rfl, List.Pairwise.nil, fun k h1 h2 => by omega⟩
        l := Nat.le_refl _ }
    generalize hbk : siz w3 = b at st0
    generalize hrk : siz w1 = r at st0
    have hLw : ∀ {u : World}, Keep (fun g => siz w ≤ g) w u → Rd 3 u (.slice pa l.length ca) l.length (flat enc3 l) := fun {u} k => hL.keepB k fun g _ hg => hg
    clear hm4 rh3 bb kb hm3 hm2 rh2 hm1
    refine lpc1 l.length (by omega) (fun i u => ∃ E sh mo last n f X sl L bf ps qs, St w (siz w) u c r b E i sh mo last n f X sl L bf ps qs) ⟨_, _, _, _, _, _, _, _, _, _, _, _, st0⟩ (fun i u hi ⟨E, sh, mo, last, n, f, X, sl, L, bf, ps, qs, h⟩ J hJ => ?_) (fun u ⟨E, sh, mo, last, n, f, X, sl, L, bf, ps, qs, h⟩ J => ?_)
    · intro _j
      have hi' : ((i : Int) < (l.length : Int)) := by omega
      obtain ⟨g, o, c', e, _, hc⟩ := (hLw h.p.kp).at (by omega)
      injection e with e1 _ e2
      subst e1 e2
      obtain ⟨p0, p1, p2⟩ := op_at hc (List.getElem?_eq_getElem hi)
      simp only [stp, Nat.reduceAdd, Int.reduceLT, Int.reduceLE, Int.reduceEq, Int.reduceNe, ne_eq, bne_self_eq_false, beq_self_eq_true, hi']
      rw [ix_22 hi]
      simp only [stp, Nat.reduceAdd, Int.reduceLT, Int.reduceLE, Int.reduceEq, Int.reduceNe, ne_eq, bne_self_eq_false, beq_self_eq_true, stm, p0, p1, p2, Option.isSome_some, Option.getD_some]
      generalize l[i] = op at p0 p1 p2
      obtain ⟨kd, N, V⟩ := op
      have ob : Sh.blk (u.alloc (.cells #[.int .i64 kd, .int .i64 N, .int .i64 V] tO4)) (siz u) = some (.cells #[.int .i64 kd, .int .i64 N, .int .i64 V] tO4) := blk_alloc_new
      have h : St w (siz w) (u.alloc (.cells #[.int .i64 kd, .int .i64 N, .int .i64 V] tO4)) c r b (fun g => g = siz u) i sh mo last n f X sl L bf ps qs := { h with p := h.p.op _ }
      generalize u.alloc (.cells #[.int .i64 kd, .int .i64 N, .int .i64 V] tO4) = u at h ob
      generalize siz _ = bo at ob h
      dsimp only
      obtain ⟨hnl, hxl, hli⟩ := h.nl
      have d0 : Sh.cel u bo 0 = some (.int .i64 kd) := cel_b ob 0
      have d1 : Sh.cel u bo 1 = some (.int .i64 N) := cel_b ob 1
      have d2 : Sh.cel u bo 2 = some (.int .i64 V) := cel_b ob 2
      have hlast := h.l
      refine jn1 (fun y u' => y = .bool true ∧ ∃ sh mo last n f X sl L, St w (siz w) u' c r b (fun g => g = bo) (i + 1) sh mo last n f X sl L bf ps qs ∧ Sh.blk u' bo = some (.cells #[.int .i64 kd, .int .i64 N, .int .i64 V] tO4)) (fun J2 hJ2 => ?_) ?_
      · by_cases e1 : kd = 1
        · simp only [stp, Nat.reduceAdd, Int.reduceLT, Int.reduceLE, Int.reduceEq, Int.reduceNe, ne_eq, bne_self_eq_false, beq_self_eq_true, stm, d0, e1, Option.isSome_some, Option.getD_some]
          have hd := h.k0 ((K0.refl u).drew)
          refine ⟨fun u' => Sh.cel u' bo 1 = some (.int .i64 N) ∧ Sh.cel u' bo 2 = some (.int .i64 V), ⟨d1, d2⟩, ?_⟩
          try simp only [stp, Nat.reduceAdd, Int.reduceLT, Int.reduceLE, Int.reduceEq, Int.reduceNe, ne_eq, bne_self_eq_false, beq_self_eq_true, stm]
          refine hld_of _ (fun u' hu => rl_3 hu.1) ?_
          try simp only [stp, Nat.reduceAdd, Int.reduceLT, Int.reduceLE, Int.reduceEq, Int.reduceNe, ne_eq, bne_self_eq_false, beq_self_eq_true, stm]
          refine hld_of _ (fun u' hu => rl_3 hu.2) ?_
          refine Hi.put_c hd.p.hm hd.p.hF rfl (by omega) fun u1 sh1 m1 f1 b1 hm1 hh1 hp1 k1 => ?_
          have P1 := hd.p.heap hm1 k1
          have ob1 : Sh.blk u1 bo = some (.cells #[.int .i64 kd, .int .i64 N, .int .i64 V] tO4) := k1.blk ob fun e => e.2.2.2.2.2 rfl
          refine ⟨⟨cel_b ob1 1, cel_b ob1 2⟩, ?_⟩
          try simp only [stp, Nat.reduceAdd, Int.reduceLT, Int.reduceLE, Int.reduceEq, Int.reduceNe, ne_eq, bne_self_eq_false, beq_self_eq_true, stm]
          refine hld_of _ (fun u' hu => rl_3 hu.1) ?_
          try simp only [stp, Nat.reduceAdd, Int.reduceLT, Int.reduceLE, Int.reduceEq, Int.reduceNe, ne_eq, bne_self_eq_false, beq_self_eq_true, stm]
          refine hld_of _ (fun u' hu => rl_3 hu.2) ?_
          obtain ⟨k, hk, q1, q2⟩ := place L N
          refine hput_c P1.rh P1.Bw (by omega) (by omega) hk q1 q2 fun u2 sl2 r2 f2 k2 => ?_
          have P2 := P1.ref r2 f2 k2
          have ob2 := k2.blk ob1 (ty_ne ob1 P1.rh.c (by decide))
          refine ⟨⟨cel_b ob2 1, cel_b ob2 2⟩, ?_⟩
          simp only [stp, Nat.reduceAdd, Int.reduceLT, Int.reduceLE, Int.reduceEq, Int.reduceNe, ne_eq, bne_self_eq_false, beq_self_eq_true, stm]
          exact hJ2 _ _ ⟨rfl, _, _, _, _, _, _, _, _, ⟨P2, hd.h.put (fun i hi => (hd.p.hm.ids i hi).2) hk q1 q2 (hh1 hd.h.h) hp1, by omega⟩, ob2⟩
        by_cases e2 : kd = 2
        · simp only [stp, Nat.reduceAdd, Int.reduceLT, Int.reduceLE, Int.reduceEq, Int.reduceNe, ne_eq, bne_self_eq_false, beq_self_eq_true, stm, d0, d1, e1, e2, Option.isSome_some, Option.getD_some]
          have c0 : Sh.cel u r 0 = some sl := cel_b h.p.rh.c 0
          rcases Nat.eq_zero_or_pos L.length with h0 | h0
          · have hn0 : n = 0 := by omega
            refine Hi.take_none h.p.hm (.inl hn0) fun u1 k1 => ?_
            have h1 := h.k0 k1
            have ob1 := k1.blk ob id
            have c01 : Sh.cel u1 r 0 = some sl := cel_b h1.p.rh.c 0
            obtain ⟨psl, csl, hsl⟩ := h1.p.rh.o.form
            rw [hsl, h0] at c01
            have hz : ¬ ((0 : Int) < ((0 : Nat) : Int)) := by omega
            simp only [stp, Nat.reduceAdd, Int.reduceLT, Int.reduceLE, Int.reduceEq, Int.reduceNe, ne_eq, bne_self_eq_false, beq_self_eq_true, stm, cel_drew, c01, hz, Option.isSome_some, Option.getD_some]
            exact hJ2 _ _ ⟨rfl, _, _, _, _, _, _, _, _, { h1.k0 ((K0.refl u1).drew) with l := by omega }, ob1⟩
          · obtain ⟨hx, hf0, ht0, hv0⟩ := h.fst h0
            have hz : (0 : Int) < (L.length : Int) := by omega
            have ix0 : ∀ {b o c : Nat} {k : Value → Prop}, pur Tryz.prog (Instr.indexAt 27 (.slice (some ⟨b, o, none⟩) L.length c) (.int .i64 0)) k = k (.pointer (some ⟨b, o + 0, none⟩)) := fun {b o c k} => by
              have := ix_27 (i := 0) (b := b) (o := o) (c := c) (k := k) (kd := .i64) h0
              rw [Nat.zero_mul] at this
              exact this
            by_cases hdue : L[0].1 ≤ N
            · refine Hi.take_c h.p.hm (by omega) (by rw [ht0]; exact hdue) fun u1 sh1 f1 n1 hn1 hm1 hh1 hp1 k1 => ?_
              have P1 := h.p.heap hm1 k1
              have ob1 : Sh.blk u1 bo = some (.cells #[.int .i64 kd, .int .i64 N, .int .i64 V] tO4) := k1.blk ob fun e => e.2.2.2.2.2 rfl
              have d11 : Sh.cel u1 bo 1 = some (.int .i64 N) := cel_b ob1 1
              obtain ⟨g, cg, hsl, a0, a1, a2⟩ := P1.rh.at h0
              rw [Nat.zero_mul] at a0 a1 a2
              rw [Nat.zero_add] at a1 a2
              have c01 : Sh.cel u1 r 0 = some sl := cel_b P1.rh.c 0
              rw [hsl] at c01
              rw [hv0]
              simp only [stp, Nat.reduceAdd, Int.reduceLT, Int.reduceLE, Int.reduceEq, Int.reduceNe, ne_eq, bne_self_eq_false, beq_self_eq_true, stm, cel_drew, c01, hz, ix0, Nat.add_zero, a0, a2, d11, hdue, Option.isSome_some, Option.getD_some]
              have Pd := P1.k0 ((K0.refl u1).drew)
              refine hout_c (k := 0) Pd.rh Pd.Bw h0 (by omega) fun u2 sl2 r2 f2 k2 => ?_
              have P2 := Pd.ref r2 f2 k2
              have ob2 := k2.blk (show Sh.blk u1.drew bo = _ from ob1) (ty_ne ob1 P1.rh.c (by decide))
              try simp only [stp, Nat.reduceAdd, Int.reduceLT, Int.reduceLE, Int.reduceEq, Int.reduceNe, ne_eq, bne_self_eq_false, beq_self_eq_true, stm]
              refine hJ2 _ _ ⟨rfl, _, _, _, _, _, _, _, _, ⟨P2, h.h.out hx (hh1 h.h.h) (by rw [← hf0]; exact hp1), by omega⟩, ob2⟩
            · refine Hi.take_none h.p.hm (.inr (by rw [ht0]; omega)) fun u1 k1 => ?_
              have h1 := h.k0 k1
              have ob1 := k1.blk ob id
              have d11 : Sh.cel u1 bo 1 = some (.int .i64 N) := cel_b ob1 1
              obtain ⟨g, cg, hsl, a0, a1, a2⟩ := h1.p.rh.at h0
              rw [Nat.zero_mul] at a0 a1 a2
              have c01 : Sh.cel u1 r 0 = some sl := cel_b h1.p.rh.c 0
              rw [hsl] at c01
              simp only [stp, Nat.reduceAdd, Int.reduceLT, Int.reduceLE, Int.reduceEq, Int.reduceNe, ne_eq, bne_self_eq_false, beq_self_eq_true, stm, cel_drew, c01, hz, ix0, Nat.add_zero, a0, d11, hdue, Option.isSome_some, Option.getD_some]
              exact hJ2 _ _ ⟨rfl, _, _, _, _, _, _, _, _, { h1.k0 ((K0.refl u1).drew) with l := by omega }, ob1⟩
        · simp only [stp, Nat.reduceAdd, Int.reduceLT, Int.reduceLE, Int.reduceEq, Int.reduceNe, ne_eq, bne_self_eq_false, beq_self_eq_true, stm, d0, d1, e1, e2, Option.isSome_some, Option.getD_some]
          refine hfind_c h.p.rh (by omega) fun a ha => ?_
          simp only [stp, Nat.reduceAdd, Int.reduceLT, Int.reduceLE, Int.reduceEq, Int.reduceNe, ne_eq, bne_self_eq_false, beq_self_eq_true, stm, d1, Option.isSome_some, Option.getD_some]
          rcases ha with ⟨A, s, C, rfl, hs, hA, rfl⟩ | ⟨hn, rfl⟩
          · obtain ⟨k, hx, hk, hfk, _, hid, _⟩ := h.hit
            have hge : (0 : Int) ≤ (A.length : Int) := by omega
            have hNe : N = ((f k).id : Int) := by rw [hid, hs]
            rw [hNe]
            refine Hi.cancel_hit h.p.hm hk fun u1 sh1 f1 n1 hn1 hm1 hh1 hp1 k1 => ?_
            have P1 := h.p.heap hm1 k1
            have ob1 : Sh.blk u1 bo = some (.cells #[.int .i64 kd, .int .i64 N, .int .i64 V] tO4) := k1.blk ob fun e => e.2.2.2.2.2 rfl
            simp only [stp, Nat.reduceAdd, Int.reduceLT, Int.reduceLE, Int.reduceEq, Int.reduceNe, ne_eq, bne_self_eq_false, beq_self_eq_true, stm, hge]
            refine hout_c (k := A.length) P1.rh P1.Bw (by simp) (by omega) fun u2 sl2 r2 f2 k2 => ?_
            have P2 := P1.ref r2 f2 k2
            have ob2 := k2.blk ob1 (ty_ne ob1 P1.rh.c (by decide))
            try simp only [stp, Nat.reduceAdd, Int.reduceLT, Int.reduceLE, Int.reduceEq, Int.reduceNe, ne_eq, bne_self_eq_false, beq_self_eq_true, stm]
            refine hJ2 _ _ ⟨rfl, _, _, _, _, _, _, _, _, ⟨P2, h.h.out hx (hh1 h.h.h) (by rw [← hfk]; exact hp1), by omega⟩, ob2⟩
          · refine Hi.cancel_miss h.p.hm (h.miss hn) ?_
            simp only [stp, Nat.reduceAdd, Int.reduceLT, Int.reduceLE, Int.reduceEq, Int.reduceNe, ne_eq, bne_self_eq_false, beq_self_eq_true, stm]
            exact hJ2 _ _ ⟨rfl, _, _, _, _, _, _, _, _, { h with l := by omega }, ob⟩
      · clear h ob d0 d1 d2 hnl hxl hli hlast
        rintro y u1 ⟨rfl, sh, mo, last, n, f, X, sl, L, h, ob⟩ _j
        obtain ⟨hnl, hxl, hli⟩ := h.nl
        have d2 : Sh.cel u1 bo 2 = some (.int .i64 V) := cel_b ob 2
        simp only [stp, Nat.reduceAdd, Int.reduceLT, Int.reduceLE, Int.reduceEq, Int.reduceNe, ne_eq, bne_self_eq_false, beq_self_eq_true, stm, d2, Option.isSome_some, Option.getD_some]
        have c0u : Sh.cel u1 r 0 = some sl := cel_b h.p.rh.c 0
        rcases decL L V with ⟨A, s, C, hS, hs, hA⟩ | hn
        case' inl =>
          have h' := h
          rw [hS] at h'
          obtain ⟨k, hx, hk, hfk, ht, hid, _⟩ := h'.hit
          have hVe : V = ((f k).id : Int) := by rw [hid, hs]
          have hge : (0 : Int) ≤ (A.length : Int) := by omega
          have hAl : A.length < L.length := by rw [hS]; simp
          have hAs : L[A.length] = s := by simp [hS]
          rw [hVe]
          refine at_hit h.p.hm hk fun u2 k2 => ?_
          have h2 := h.k0 k2
          have ob2 : Sh.blk u2 bo = some (.cells #[.int .i64 kd, .int .i64 N, .int .i64 V] tO4) := k2.blk ob id
          have d22 : Sh.cel u2 bo 2 = some (.int .i64 V) := cel_b ob2 2
          obtain ⟨g, cg, hsl, q0, q1, q2⟩ := h2.p.rh.at hAl
          rw [hAs] at q0 q1 q2
          have c02 : Sh.cel u2 r 0 = some sl := cel_b h2.p.rh.c 0
          have ixA : ∀ {k' : Value → Prop}, pur Tryz.prog (Instr.indexAt 27 sl (.int .i64 (A.length : Int))) k' = k' (.pointer (some ⟨g, A.length * 3, none⟩)) := by intro k'; rw [hsl, ix_27 hAl, Nat.zero_add]
          simp only [stp, Nat.reduceAdd, Int.reduceLT, Int.reduceLE, Int.reduceEq, Int.reduceNe, ne_eq, bne_self_eq_false, beq_self_eq_true, stm, d22, Option.isSome_some, Option.getD_some]
          refine hfind_hit h2.p.rh hS (by omega) hs hA ?_
          simp only [stp, Nat.reduceAdd, Int.reduceLT, Int.reduceLE, Int.reduceEq, Int.reduceNe, ne_eq, bne_self_eq_false, beq_self_eq_true, stm, hge, c02, ixA, q0, ht, Option.isSome_some, Option.getD_some]
        case' inr =>
          refine at_miss h.p.hm (h.miss hn) ?_
          have k2 : K0 u1 u1 := K0.refl u1
          have h2 := h
          have ob2 := ob
          simp only [stp, Nat.reduceAdd, Int.reduceLT, Int.reduceLE, Int.reduceEq, Int.reduceNe, ne_eq, bne_self_eq_false, beq_self_eq_true, stm, d2, Option.isSome_some, Option.getD_some]
          refine hfind_miss h.p.rh (by omega) hn ?_
          simp only [stp, Nat.reduceAdd, Int.reduceLT, Int.reduceLE, Int.reduceEq, Int.reduceNe, ne_eq, bne_self_eq_false, beq_self_eq_true, stm]
          obtain ⟨u2, rfl⟩ : ∃ x, x = u1 := ⟨u1, rfl⟩
        all_goals
          rcases Nat.eq_zero_or_pos L.length with h0 | h0
          case' inl =>
            have hn0 : n = 0 := by omega
            subst hn0
            refine Hi.first_none h2.p.hm ?_
            have h3 := h2
            have ob3 := ob2
            have c03 : Sh.cel _ r 0 = some sl := cel_b h2.p.rh.c 0
            obtain ⟨psl, csl, hsl3⟩ := h2.p.rh.o.form
            have ln3 : ∀ {k' : Value → Prop}, pur Tryz.prog (Builtin.len_ #[27] 3 #[sl]) k' = k' (.int .i64 (L.length : Int)) := by intro k'; rw [hsl3]; exact ln_27
            have hz : ¬ ((0 : Int) < (L.length : Int)) := by omega
            simp only [stp, Nat.reduceAdd, Int.reduceLT, Int.reduceLE, Int.reduceEq, Int.reduceNe, ne_eq, bne_self_eq_false, beq_self_eq_true, stm, c03, ln3, hz, Option.isSome_some, Option.getD_some]
            obtain ⟨u3, rfl⟩ : ∃ x, x = u2 := ⟨u2, rfl⟩
          case' inr =>
            obtain ⟨hx0, hf0, ht0, hv0⟩ := h2.fst h0
            refine Hi.first_c h2.p.hm (by omega) ?_
            rw [ht0, hv0]
            have h3 := h2.k0 ((K0.refl _).drew)
            have ob3 : Sh.blk u2.drew bo = some (.cells #[.int .i64 kd, .int .i64 N, .int .i64 V] tO4) := ob2
            obtain ⟨g3, cg3, hsl3, a0, a1, a2⟩ := h2.p.rh.at h0
            rw [Nat.zero_mul] at a0 a1 a2
            rw [Nat.zero_add] at a1 a2
            have c03 : Sh.cel _ r 0 = some sl := cel_b h2.p.rh.c 0
            have ln3 : ∀ {k' : Value → Prop}, pur Tryz.prog (Builtin.len_ #[27] 3 #[sl]) k' = k' (.int .i64 (L.length : Int)) := by intro k'; rw [hsl3]; exact ln_27
            have ix3 : ∀ {k' : Value → Prop}, pur Tryz.prog (Instr.indexAt 27 sl (.int .i64 0)) k' = k' (.pointer (some ⟨g3, 0, none⟩)) := by
              intro k'; rw [hsl3]
              have := ix_27 (i := 0) (b := g3) (o := 0) (c := cg3) (k := k') (kd := .i64) h0
              rw [Nat.zero_mul] at this
              exact this
            have hz : (0 : Int) < (L.length : Int) := by omega
            simp only [stp, Nat.reduceAdd, Int.reduceLT, Int.reduceLE, Int.reduceEq, Int.reduceNe, ne_eq, bne_self_eq_false, beq_self_eq_true, stm, cel_drew, c03, ln3, ix3, a0, a2, hz, Option.isSome_some, Option.getD_some]
            generalize hu3 : u2.drew = u3 at h3 ob3 ⊢
          all_goals
            refine lpc2 L.length (by omega) (fun j x u => K0 u3 u ∧ Sh.Own u (siz u3) 3 1 x j (flat BkInts.enc ((L.map (·.2.2)).take j))) ⟨K0.refl _, Sh.Own.nil _ _ _ _⟩ (fun j x u4 hj ⟨k4, o4⟩ J5 hJ5 => ?_) (fun x u4 ⟨k4, o4⟩ J5 => ?_)
            · intro _j
              have hj' : ((j : Int) < (L.length : Int)) := by omega
              have rh := h3.p.rh.keep0 k4
              have c0 : Sh.cel u4 r 0 = some sl := cel_b rh.c 0
              obtain ⟨g4, cp4, hsl4, b0, b1, b2⟩ := rh.at hj
              have ixj : ∀ {k' : Value → Prop}, pur Tryz.prog (Instr.indexAt 27 sl (.int .i64 (j : Int))) k' = k' (.pointer (some ⟨g4, j * 3, none⟩)) := by intro k'; rw [hsl4, ix_27 hj, Nat.zero_add]
              simp only [stp, Nat.reduceAdd, Int.reduceLT, Int.reduceLE, Int.reduceEq, Int.reduceNe, ne_eq, bne_self_eq_false, beq_self_eq_true, stm, c0, ln3, hj', ixj, b2, Option.isSome_some, Option.getD_some]
              refine pu_64 o4 (fun y hy => by rw [List.mem_singleton.1 hy]; rfl) (by omega) k4.size fun v' u5 o5 k5 _ => ?_
              refine hJ5 _ _ ⟨k4.trans' k5 fun q hq e => by have := (Sh.Own.lt o4 e).1; omega, ?_⟩
              rw [List.take_add_one, List.getElem?_map, List.getElem?_eq_getElem hj, flat_append]
              exact o5
            · intro _j
              have hj' : ¬ ((L.length : Int) < (L.length : Int)) := by omega
              have rh := h3.p.rh.keep0 k4
              have c0 : Sh.cel u4 r 0 = some sl := cel_b rh.c 0
              simp only [stp, Nat.reduceAdd, Int.reduceLT, Int.reduceLE, Int.reduceEq, Int.reduceNe, ne_eq, bne_self_eq_false, beq_self_eq_true, stm, c0, ln3, hj', Option.isSome_some, Option.getD_some]
              have h4 := h3.k0 k4
              have ob4 : Sh.blk u4 bo = some (.cells #[.int .i64 kd, .int .i64 N, .int .i64 V] tO4) := k4.blk ob3 id
              have e : (L.map (·.2.2)).take L.length = L.map (·.2.2) := List.take_of_length_le (by simp)
              rw [e] at o4
              obtain ⟨px, cx, rfl⟩ := o4.form
              have hlm : (L.map (·.2.2)).length = L.length := by simp
              refine Hi.list_c h4.p.hm (by omega) fun u5 va l' k5 hp hs oa => ?_
              have hlX := h4.h.list h4.p.hm.inj hp hs
              rw [hlX, h4.h.vals, hnl] at oa
              have h5 := h4.k0 k5
              have s5 := k5.size
              obtain ⟨pv, cv, rfl⟩ := oa.form
              have oB : Sh.Own u5 (siz w) 3 1 (.slice pv L.length cv) (L.map (·.2.2)).length (flat BkInts.enc (L.map (·.2.2))) := by rw [hlm]; exact oa.le h4.p.Bw
              refine BkInts.add_c h5.p.bk h5.p.ks h5.p.Bw oB (by rw [hlm]; omega) one_slice (fun q hq e => by
                have := (oa.lt hq).1
                have := (h4.p.ks.lt e).2
                omega) fun u6 f' ps' qs' hb6 hne6 hk6 hs6 k6 => ?_
              have P6 := h5.p.add (l := .slice pv L.length cv) hb6 hne6 hk6 hs6 (fun g _ _ hg => by
                have hg1 := (oa.lt hg).1
                refine ⟨fun e => by have := cel_lt h4.p.hm.l; omega, fun e => by have := (h4.p.hm.own.lt e).2; omega, fun k hk e => by have := fre_lt (h4.p.hm.it k hk).fre; omega, fun e => by have := Mem.mlt h4.p.hm e; omega⟩) k6
              have tyI : ∀ {n : Nat} {v : Value} {xs : List Value} {B' : Nat}, Sh.Own u5 B' 3 1 v n xs → Sh.Own u6 B' 3 1 v n xs := fun {n v xs B'} o => o.keep k6 fun q hq e => by
                obtain ⟨_, cs, hc⟩ := o.ty hq
                rcases e with e | e | e
                · exact ty_ne hc h5.p.bk (by decide) e
                · obtain ⟨_, cs', hc'⟩ := h5.p.ks.p.row.ty e
                  exact ty_ne hc hc' (by decide) rfl
                · obtain ⟨_, cs', hc'⟩ := h5.p.ks.q.row.ty e
                  exact ty_ne hc hc' (by decide) rfl
              have oa6 := tyI oa
              have ox6 := tyI (o4.keep k5 fun _ _ => id)
              try simp only [stp, Nat.reduceAdd, Int.reduceLT, Int.reduceLE, Int.reduceEq, Int.reduceNe, ne_eq, bne_self_eq_false, beq_self_eq_true]
              refine BkInts.same_c (a := L.map (·.2.2)) (b := L.map (·.2.2)) (by rw [hlm]; exact oa6.rd) (by rw [hlm]; exact ox6.rd) (by rw [hlm]; omega) fun u7 k7 => ?_
              have P7 := P6.k0 k7
              simp only [stp, Nat.reduceAdd, Int.reduceLT, Int.reduceLE, Int.reduceEq, Int.reduceNe, ne_eq, bne_self_eq_false, beq_self_eq_true, stm]
              refine Hi.len_c P7.hm ?_
              simp only [stp, Nat.reduceAdd, Int.reduceLT, Int.reduceLE, Int.reduceEq, Int.reduceNe, ne_eq, bne_self_eq_false, beq_self_eq_true, stm, hnl]
              exact hJ _ ⟨_, _, _, _, _, _, _, _, _, _, _, _, ⟨P7, h4.h, by have := h4.l; omega⟩⟩
    · intro _j
      have hi' : ¬ ((l.length : Int) < (l.length : Int)) := by omega
      simp only [stp, Nat.reduceAdd, Int.reduceLT, Int.reduceLE, Int.reduceEq, Int.reduceNe, ne_eq, bne_self_eq_false, beq_self_eq_true, hi']
      refine alive_c fun u2 k2 => ?_
      try simp only [stp, Nat.reduceAdd, Int.reduceLT, Int.reduceLE, Int.reduceEq, Int.reduceNe, ne_eq, bne_self_eq_false, beq_self_eq_true, stm]
      have h2 := h.k0 k2
      refine Bk.apart_c h2.p.bk h2.p.Bw h2.p.nf h2.p.ks fun u3 k3 => ?_
      try simp only [stp, Nat.reduceAdd, Int.reduceLT, Int.reduceLE, Int.reduceEq, Int.reduceNe, ne_eq, bne_self_eq_false, beq_self_eq_true, stm]
      exact hq _ (h2.p.kp.trans k3)
end
end Go.Proofs.YtndjohbbaplekaaGreatH
