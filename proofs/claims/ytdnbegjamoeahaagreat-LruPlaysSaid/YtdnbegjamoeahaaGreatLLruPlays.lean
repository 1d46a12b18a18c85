/- What LruPlays computes: true. Conditions: none. -/
import Derived.Test.YtdnbegjamoeahaaGreatLLruZ
set_option linter.unusedSimpArgs false
set_option linter.unusedVariables false
namespace Go.Proofs.YtdnbegjamoeahaaGreatL
open Go.Sh Go.Sh.Lru Go.Proofs.YtdnbegjamoeahaaGreatL.Lii
set_option maxRecDepth 100000
section
variable {w : World} {Q : Value → World → Prop}
theorem op_at {b o : Nat} {L : List I3} (hc : ∀ j, j < L.length * 3 → Sh.cel w b (o + j) = (flat enc3 L)[j]?) {i : Nat} {p : I3} (h : L[i]? = some p) :
    Sh.cel w b (o + i * 3) = some (.int .i64 p.1) ∧ Sh.cel w b (o + i * 3 + 1) = some (.int .i64 p.2.1) ∧ Sh.cel w b (o + i * 3 + 2) = some (.int .i64 p.2.2) := by
  have hi := (List.getElem?_eq_some_iff.1 h).1
  refine ⟨?_, ?_, ?_⟩
  · rw [hc _ (by omega)]; exact flat_get (enc := enc3) enc3_len h (j := 0) (by omega)
  · rw [Nat.add_assoc, hc _ (by omega)]; exact flat_get (enc := enc3) enc3_len h (j := 1) (by omega)
  · rw [Nat.add_assoc, hc _ (by omega)]; exact flat_get (enc := enc3) enc3_len h (j := 2) (by omega)
theorem plays_c {room : Int} {zero : Bool} {v : Value} {l : List I3} (_ : (Lit.int .i64 room).wf = true) (hL : Rd 3 w v l.length (flat enc3 l)) (_ : l.length ≤ maxLen) (_ : ∀ s ∈ l, good3 s)
    (hq : ∀ w', Keep (fun b => siz w ≤ b) w w' → Q (.bool true) w') : callS Tryz.prog 3 #[.int .i64 room, .bool zero, v] Q w := by
  refine ref3 ?_
  unfold S3
  obtain ⟨pa, ca, rfl⟩ := hL.form
  by_cases hbig : (120 : Int) < (l.length : Int)
  · simp only [stp, Nat.reduceAdd, Int.reduceLT, Int.reduceLE, Int.reduceEq, Int.reduceNe, ne_eq, bne_self_eq_false, beq_self_eq_true, hbig]
    exact alive_c fun w' k => hq _ k.none
  simp only [stp, Nat.reduceAdd, Int.reduceLT, Int.reduceLE, Int.reduceEq, Int.reduceNe, ne_eq, bne_self_eq_false, beq_self_eq_true, hbig]
  refine Lii.new_c (B := siz w) (Nat.le_refl _) fun w1 h1 k1 => ?_
  have s1 := k1.size
  refine ref14 ?_
  unfold S14
  have erm : min (max room 0) 100000 = ((clampR room : Nat) : Int) := by unfold clampR; omega
  simp only [stp, Nat.reduceAdd, Int.reduceLT, Int.reduceLE, Int.reduceEq, Int.reduceNe, ne_eq, bne_self_eq_false, beq_self_eq_true, stm, erm]
  have kr1 := (K0.refl w1).alloc (.cells #[.slice none 0 0, .int .i64 ((clampR room : Nat) : Int)] tLr)
  have br1 : blk (w1.alloc (.cells #[.slice none 0 0, .int .i64 ((clampR room : Nat) : Int)] tLr)) (siz w1) = some (.cells #[.slice none 0 0, .int .i64 ((clampR room : Nat) : Int)] tLr) := blk_alloc_new
  have sr1 : siz (w1.alloc (.cells #[.slice none 0 0, .int .i64 ((clampR room : Nat) : Int)] tLr)) = siz w1 + 1 := siz_alloc
  generalize w1.alloc (.cells #[.slice none 0 0, .int .i64 ((clampR room : Nat) : Int)] tLr) = w2 at kr1 br1 sr1
  refine jn2 (fun x y w' => ∃ c r rm F, x = .pointer (some ⟨c, 0, none⟩) ∧ y = .pointer (some ⟨r, 0, none⟩) ∧ LC w' (siz w) c rm [] F ∧ RL w' (siz w) r (.slice none 0 0) [] rm ∧ siz w ≤ r ∧ (∀ g, F g → g ≠ r) ∧ K0 w w') (fun J hJ => ?_) ?_
  · cases zero
    · simp only [stp, Nat.reduceAdd, Int.reduceLT, Int.reduceLE, Int.reduceEq, Int.reduceNe, ne_eq, bne_self_eq_false, beq_self_eq_true, stm]
      refine hJ _ _ _ ⟨_, _, clampR room, foot (siz w + 1) (siz w) [], rfl, rfl, .inl ⟨siz w, [], h1.keep kr1 fun _ _ => id, rfl, rfl⟩, ⟨br1, Own.nil _ _ _ _⟩, s1, fun g hg e => ?_, k1.trans kr1⟩
      have := h1.lt hg
      omega
    · simp only [stp, Nat.reduceAdd, Int.reduceLT, Int.reduceLE, Int.reduceEq, Int.reduceNe, ne_eq, bne_self_eq_false, beq_self_eq_true, stm]
      have kz := (K0.refl w2).alloc (.cells #[.map none, .int .i64 0, .int .i64 0, .int .i64 0, .pointer none, .pointer none, .int .i64 0] 36)
      have bz : blk (w2.alloc (.cells #[.map none, .int .i64 0, .int .i64 0, .int .i64 0, .pointer none, .pointer none, .int .i64 0] 36)) (siz w2) = some (.cells #[.map none, .int .i64 0, .int .i64 0, .int .i64 0, .pointer none, .pointer none, .int .i64 0] 36) := blk_alloc_new
      have sz : siz (w2.alloc (.cells #[.map none, .int .i64 0, .int .i64 0, .int .i64 0, .pointer none, .pointer none, .int .i64 0] 36)) = siz w2 + 1 := siz_alloc
      generalize w2.alloc (.cells #[.map none, .int .i64 0, .int .i64 0, .int .i64 0, .pointer none, .pointer none, .int .i64 0] 36) = w3 at kz bz sz
      have ky := (K0.refl w3).alloc (.cells #[.slice none 0 0, .int .i64 0] tLr)
      refine hJ _ _ _ ⟨siz w2, siz w3, 0, fun g => g = siz w2, rfl, rfl, .inr ⟨ky.blk bz id, by omega, rfl, rfl, rfl⟩, ⟨blk_alloc_new, Own.nil _ _ _ _⟩, by omega, fun g hg e => ?_, ((k1.trans kr1).trans kz).trans ky⟩
      have hg : g = siz w2 := hg
      omega
  · rintro x y w3 ⟨c, r, rm, F, rfl, rfl, lc, rl, hBr, hFr, k3⟩ _j
    simp only [stp, Nat.reduceAdd, Int.reduceLT, Int.reduceLE, Int.reduceEq, Int.reduceNe, ne_eq, bne_self_eq_false, beq_self_eq_true, stm]
    have kb := (K0.refl w3).alloc (.cells ((List.range 30).map fun _ => Value.slice none 0 0).toArray tB5)
    have bb : BkC tB5 (w3.alloc (.cells ((List.range 30).map fun _ => Value.slice none 0 0).toArray tB5)) (siz w3) (fun _ => .slice none 0 0) := blk_alloc_new
    have sb : siz (w3.alloc (.cells ((List.range 30).map fun _ => Value.slice none 0 0).toArray tB5)) = siz w3 + 1 := siz_alloc
    rw [show w3.alloc (.cells #[Value.slice none 0 0, Value.slice none 0 0, Value.slice none 0 0, Value.slice none 0 0, Value.slice none 0 0, Value.slice none 0 0, Value.slice none 0 0, Value.slice none 0 0, Value.slice none 0 0, Value.slice none 0 0, Value.slice none 0 0, Value.slice none 0 0, Value.slice none 0 0, Value.slice none 0 0, Value.slice none 0 0, Value.slice none 0 0, Value.slice none 0 0, Value.slice none 0 0, Value.slice none 0 0, Value.slice none 0 0, Value.slice none 0 0, Value.slice none 0 0, Value.slice none 0 0, Value.slice none 0 0, Value.slice none 0 0, Value.slice none 0 0, Value.slice none 0 0, Value.slice none 0 0, Value.slice none 0 0, Value.slice none 0 0] tB5) = w3.alloc (.cells ((List.range 30).map fun _ => Value.slice none 0 0).toArray tB5) from rfl]
    generalize w3.alloc (.cells ((List.range 30).map fun _ => Value.slice none 0 0).toArray tB5) = w4 at kb bb sb
    have s3 := k3.size
    have lc4 := lc.keep0 kb
    have rl4 := rl.keep0 kb
    have ps0 : PS w (siz w) w4 c r (siz w3) rm [] [] F (.slice none 0 0) (fun _ => .slice none 0 0) [] [] :=
      { lc := lc4, rl := rl4, bk := bb, ks := KS.nil _ _ _ _ _ _ _, nf := fun _ _ _ => rfl
        dF := fun g hg => ⟨hFr g hg, fun e => (by cases e), fun e => (by have := (lc.lt hg).2; omega), fun e => by
          rcases e with (e | ⟨p, hp, _⟩) | (e | ⟨p, hp, _⟩)
          · cases e
          · simp at hp
          · cases e
          · simp at hp⟩
        kp := (k3.trans kb).none, Bw := by omega, Br := hBr, Bb := by omega }
    generalize hbk : siz w3 = b at ps0
    have hLw : ∀ {u : World}, Keep (fun g => siz w ≤ g) w u → Rd 3 u (.slice pa l.length ca) l.length (flat enc3 l) := fun {u} k => hL.keepB k fun g _ hg => hg
    clear lc rl lc4 rl4 bb hFr kb
    refine lpc1 l.length (by omega) (fun i u => ∃ S F sl f ps qs, PS w (siz w) u c r b rm S S F sl f ps qs ∧ S.length ≤ i ∧ ∀ s ∈ S, s.2.2 ≤ i) ⟨[], F, _, _, _, _, ps0, Nat.zero_le _, fun s hs => by simp at hs⟩ (fun i u hi ⟨S, F, sl, f, ps, qs, h, hl, hp⟩ J hJ => ?_) (fun u ⟨S, F, sl, f, ps, qs, h, hl, hp⟩ J => ?_)
    · intro _j
      have hi' : ((i : Int) < (l.length : Int)) := by omega
      obtain ⟨g, o, c', e, _, hc⟩ := (hLw h.kp).at (by omega)
      injection e with e1 _ e2
      subst e1 e2
      obtain ⟨p0, p1, p2⟩ := op_at hc (List.getElem?_eq_getElem hi)
      simp only [stp, Nat.reduceAdd, Int.reduceLT, Int.reduceLE, Int.reduceEq, Int.reduceNe, ne_eq, bne_self_eq_false, beq_self_eq_true, hi']
      rw [ix_22 hi]
      simp only [stp, Nat.reduceAdd, Int.reduceLT, Int.reduceLE, Int.reduceEq, Int.reduceNe, ne_eq, bne_self_eq_false, beq_self_eq_true, stm, p0, p1, p2, Option.isSome_some, Option.getD_some]
      generalize l[i] = op at p0 p1 p2
      obtain ⟨kd, k, vv⟩ := op
      have ka := (K0.refl u).alloc (.cells #[.int .i64 kd, .int .i64 k, .int .i64 vv] tO5)
      have ob : OB (u.alloc (.cells #[.int .i64 kd, .int .i64 k, .int .i64 vv] tO5)) (siz u) #[.int .i64 kd, .int .i64 k, .int .i64 vv] F := ⟨blk_alloc_new, fun e => by have := (h.lc.lt e).2; omega⟩
      have h := h.k0 ka
      generalize u.alloc (.cells #[.int .i64 kd, .int .i64 k, .int .i64 vv] tO5) = u at h ob
      generalize siz _ = bo at ob
      dsimp only
      refine find_c h.rl (by omega) fun a ha => ?_
      have d0 : Sh.cel u bo 0 = some (.int .i64 kd) := ob.cel 0
      have d1 : Sh.cel u bo 1 = some (.int .i64 k) := ob.cel 1
      have d2 : Sh.cel u bo 2 = some (.int .i64 vv) := ob.cel 2
      refine jn1 (fun y u' => y = .bool true ∧ ∃ S' F' sl', PS w (siz w) u' c r b rm S' S' F' sl' f ps qs ∧ OB u' bo #[.int .i64 kd, .int .i64 k, .int .i64 vv] F' ∧ S'.length ≤ i + 1 ∧ ∀ s ∈ S', s.2.2 ≤ i + 1) (fun J2 hJ2 => ?_) ?_
      · by_cases e1 : kd = 1
        · simp only [stp, Nat.reduceAdd, Int.reduceLT, Int.reduceLE, Int.reduceEq, Int.reduceNe, ne_eq, bne_self_eq_false, beq_self_eq_true, stm, d0, d1, d2, e1, Option.isSome_some, Option.getD_some]
          rcases ha with ⟨A, s, C, rfl, hs, hA, rfl⟩ | ⟨hn, rfl⟩
          · have hln : (A ++ s :: C).length = A.length + 1 + C.length := by simp; omega
            refine lput_hit h.lc hs fun u1 F1 l1 st1 => ?_
            have h1 := h.cache l1 st1
            have ob1 := ob.cache st1
            have d1 : Sh.cel u1 bo 1 = some (.int .i64 k) := ob1.cel 1
            have d2 : Sh.cel u1 bo 2 = some (.int .i64 vv) := ob1.cel 2
            simp only [stp, Nat.reduceAdd, Int.reduceLT, Int.reduceLE, Int.reduceEq, Int.reduceNe, ne_eq, bne_self_eq_false, beq_self_eq_true, stm, d1, d2, Option.isSome_some, Option.getD_some]
            refine rput_hit h1.rl h1.Bw (by omega) hs hA fun u2 sl2 r2 f2 k2 => ?_
            have h2 := h1.ref r2 f2 k2
            have ob2 := ob1.ref h1.rl k2
            simp only [stp, Nat.reduceAdd, Int.reduceLT, Int.reduceLE, Int.reduceEq, Int.reduceNe, ne_eq, bne_self_eq_false, beq_self_eq_true, stm]
            refine hJ2 _ _ ⟨rfl, _, _, _, h2, ob2, by simp; omega, fun t ht => ?_⟩
            rcases List.mem_cons.1 ht with rfl | ht
            · have := hp s (by simp); dsimp only; omega
            · have := hp t (by rcases List.mem_append.1 ht with h | h <;> simp [h]); omega
          · refine lput_miss h.lc h.Bw hn (fun u1 F1 hor l1 st1 => ?_) (fun u1 F1 A s C hS hs0 hC hf hr0 l1 st1 => ?_) (fun u1 F1 hlt l1 st1 => ?_)
            all_goals
              have h1 := h.cache l1 st1
              have ob1 := ob.cache st1
              have d1 : Sh.cel u1 bo 1 = some (.int .i64 k) := ob1.cel 1
              have d2 : Sh.cel u1 bo 2 = some (.int .i64 vv) := ob1.cel 2
              simp only [stp, Nat.reduceAdd, Int.reduceLT, Int.reduceLE, Int.reduceEq, Int.reduceNe, ne_eq, bne_self_eq_false, beq_self_eq_true, stm, d1, d2, Option.isSome_some, Option.getD_some]
            · have hlen := h.lc.len.1
              refine rput_miss h1.rl h1.Bw (by omega) hn (fun u2 hf hall r2 k2 => ?_) (fun u2 sl2 hlt r2 f2 k2 => ?_) (fun u2 sl2 A s C hf hS hs0 hC r2 f2 k2 => ?_)
              · simp only [stp, Nat.reduceAdd, Int.reduceLT, Int.reduceLE, Int.reduceEq, Int.reduceNe, ne_eq, bne_self_eq_false, beq_self_eq_true, stm]
                exact hJ2 _ _ ⟨rfl, _, _, _, h1.k0 k2, ob1.k0 k2, by omega, fun t ht => by have := hp t ht; omega⟩
              · rcases hor with h0 | ⟨h0, _⟩ <;> omega
              · rcases hor with h0 | ⟨_, h0⟩
                · rw [hS] at hlen; simp at hlen; omega
                · exact absurd hs0 (h0 s (by rw [hS]; simp))
            · refine rput_miss h1.rl h1.Bw (by omega) hn (fun u2 hf hall r2 k2 => absurd hs0 (hall s (by rw [hS]; simp))) (fun u2 sl2 hlt r2 f2 k2 => by omega) (fun u2 sl2 A' s' C' hf hS' hs0' hC' r2 f2 k2 => ?_)
              obtain ⟨rfl, rfl, rfl⟩ := last_unique (hS.symm.trans hS') hs0 hs0' hC hC'
              simp only [stp, Nat.reduceAdd, Int.reduceLT, Int.reduceLE, Int.reduceEq, Int.reduceNe, ne_eq, bne_self_eq_false, beq_self_eq_true, stm]
              refine hJ2 _ _ ⟨rfl, _, _, _, h1.ref r2 f2 k2, ob1.ref h1.rl k2, by rw [hS] at hl; simp at hl ⊢; omega, fun t ht => ?_⟩
              rcases List.mem_cons.1 ht with rfl | ht
              · exact Nat.zero_le _
              · have := hp t (by rw [hS]; rcases List.mem_append.1 ht with h | h <;> simp [h]); omega
            · refine rput_miss h1.rl h1.Bw (by omega) hn (fun u2 hf hall r2 k2 => by omega) (fun u2 sl2 hlt r2 f2 k2 => ?_) (fun u2 sl2 A s C hf hS hs0 hC r2 f2 k2 => by omega)
              simp only [stp, Nat.reduceAdd, Int.reduceLT, Int.reduceLE, Int.reduceEq, Int.reduceNe, ne_eq, bne_self_eq_false, beq_self_eq_true, stm]
              refine hJ2 _ _ ⟨rfl, _, _, _, h1.ref r2 f2 k2, ob1.ref h1.rl k2, by simp; omega, fun t ht => ?_⟩
              rcases List.mem_cons.1 ht with rfl | ht
              · exact Nat.zero_le _
              · have := hp t ht; omega
        by_cases e2 : kd = 2
        · simp only [stp, Nat.reduceAdd, Int.reduceLT, Int.reduceLE, Int.reduceEq, Int.reduceNe, ne_eq, bne_self_eq_false, beq_self_eq_true, stm, d0, d1, d2, e1, e2, Option.isSome_some, Option.getD_some]
          rcases ha with ⟨A, s, C, rfl, hs, hA, rfl⟩ | ⟨hn, rfl⟩
          · have hln : (A ++ s :: C).length = A.length + 1 + C.length := by simp; omega
            have hge : (0 : Int) ≤ (A.length : Int) := by omega
            refine lget_hit h.lc hs fun u1 F1 l1 st1 => ?_
            have h1 := h.cache l1 st1
            have ob1 := ob.cache st1
            have c0 : Sh.cel u1 r 0 = some sl := cel_b h1.rl.c 0
            obtain ⟨g, cp, hsl, _, _, _, _, _, hc⟩ := h1.rl.o.at (by omega)
            obtain ⟨q0, q1, q2⟩ := slots_at (b := g) (o := 0) (S := A ++ s :: C) (fun j hj => by rw [Nat.zero_add]; exact hc j hj) (i := A.length) (p := s) (by simp)
            rw [Nat.zero_add] at q0 q1 q2
            rw [hsl] at c0
            simp only [stp, Nat.reduceAdd, Int.reduceLT, Int.reduceLE, Int.reduceEq, Int.reduceNe, ne_eq, bne_self_eq_false, beq_self_eq_true, stm, c0, hge, Option.isSome_some, Option.getD_some]
            rw [ix_28 (by omega)]
            simp only [stp, Nat.reduceAdd, Int.reduceLT, Int.reduceLE, Int.reduceEq, Int.reduceNe, ne_eq, bne_self_eq_false, beq_self_eq_true, stm, q1, Option.isSome_some, Option.getD_some]
            refine ruse_c h1.rl h1.Bw (by omega) fun u2 sl2 r2 f2 k2 => ?_
            try simp only [stp, Nat.reduceAdd, Int.reduceLT, Int.reduceLE, Int.reduceEq, Int.reduceNe, ne_eq, bne_self_eq_false, beq_self_eq_true, stm]
            refine hJ2 _ _ ⟨rfl, _, _, _, h1.ref r2 f2 k2, ob1.ref h1.rl k2, by simp; omega, fun t ht => ?_⟩
            have := hp t (by rcases List.mem_cons.1 ht with rfl | ht
                             · simp
                             · rcases List.mem_append.1 ht with h | h <;> simp [h])
            omega
          · refine lget_miss h.lc hn ?_
            simp only [stp, Nat.reduceAdd, Int.reduceLT, Int.reduceLE, Int.reduceEq, Int.reduceNe, ne_eq, bne_self_eq_false, beq_self_eq_true, stm]
            exact hJ2 _ _ ⟨rfl, _, _, _, h, ob, by omega, fun t ht => by have := hp t ht; omega⟩
        by_cases e4 : kd = 4
        · simp only [stp, Nat.reduceAdd, Int.reduceLT, Int.reduceLE, Int.reduceEq, Int.reduceNe, ne_eq, bne_self_eq_false, beq_self_eq_true, stm, d0, d1, d2, e1, e2, e4, Option.isSome_some, Option.getD_some]
          rcases ha with ⟨A, s, C, rfl, hs, hA, rfl⟩ | ⟨hn, rfl⟩
          · have hln : (A ++ s :: C).length = A.length + 1 + C.length := by simp; omega
            have hge : (0 : Int) ≤ (A.length : Int) := by omega
            have hps := hp s (by simp)
            refine lpin_hit h.lc hs (by omega) fun u1 F1 l1 st1 => ?_
            have h1 := h.cache l1 st1
            have ob1 := ob.cache st1
            have c0 : Sh.cel u1 r 0 = some sl := cel_b h1.rl.c 0
            simp only [stp, Nat.reduceAdd, Int.reduceLT, Int.reduceLE, Int.reduceEq, Int.reduceNe, ne_eq, bne_self_eq_false, beq_self_eq_true, stm, c0, hge, Option.isSome_some, Option.getD_some]
            refine rcopy h1.rl (by omega) fun u2 v2 k2 o2 => ?_
            refine rsto (h1.rl.keep0 k2) o2 h1.Bw fun u3 r3 k3 s3 => ?_
            obtain ⟨g, cp, rfl, _, _, _, _, _, hc⟩ := r3.o.at (by omega)
            have c03 : Sh.cel u3 r 0 = some (.slice (some ⟨g, 0, none⟩) (A ++ s :: C).length cp) := cel_b r3.c 0
            obtain ⟨q0, q1, q2⟩ := slots_at (b := g) (o := 0) (S := A ++ s :: C) (fun j hj => by rw [Nat.zero_add]; exact hc j hj) (i := A.length) (p := s) (by simp)
            rw [Nat.zero_add] at q0 q1 q2
            have hwp : IntKind.i64.wrap ((s.2.2 : Int) + 1) = ((s.2.2 + 1 : Nat) : Int) := wrap_succ (by omega)
            simp only [stp, Nat.reduceAdd, Int.reduceLT, Int.reduceLE, Int.reduceEq, Int.reduceNe, ne_eq, bne_self_eq_false, beq_self_eq_true, stm, c03, Option.isSome_some, Option.getD_some]
            rw [ix_28 (by omega)]
            simp only [stp, Nat.reduceAdd, Int.reduceLT, Int.reduceLE, Int.reduceEq, Int.reduceNe, ne_eq, bne_self_eq_false, beq_self_eq_true, stm, q2, hwp, Option.isSome_some, Option.getD_some]
            rw [ix_28 (by omega)]
            simp only [stp, Nat.reduceAdd, Int.reduceLT, Int.reduceLE, Int.reduceEq, Int.reduceNe, ne_eq, bne_self_eq_false, beq_self_eq_true, stm, q2, r3.o.fre rfl, Option.isSome_some, Option.getD_some]
            obtain ⟨r4, k4⟩ := RL.setf (s' := (s.1, s.2.1, s.2.2 + 1)) (j := 2) (v := .int .i64 ((s.2.2 + 1 : Nat) : Int)) r3 (by omega) rfl
            have hfr : ∀ q, (Value.slice (some ⟨g, 0, none⟩) (A ++ s :: C).length cp).ownBlock = some q → siz u1 ≤ q := fun q hq => (o2.lt hq).1
            have kk := (k2.none.trans k3).trans' k4 fun q hq e => by
              have e : q = g := e
              have := hfr g rfl
              omega
            refine hJ2 _ _ ⟨rfl, _, _, _, h1.ref r4 hfr kk, ob1.ref h1.rl kk, by simp at hl ⊢; omega, fun t ht => ?_⟩
            rcases List.mem_append.1 ht with ht | ht
            · have := hp t (by simp [ht]); omega
            · rcases List.mem_cons.1 ht with rfl | ht
              · dsimp only; omega
              · have := hp t (by simp [ht]); omega
          · refine lpin_miss h.lc hn ?_
            simp only [stp, Nat.reduceAdd, Int.reduceLT, Int.reduceLE, Int.reduceEq, Int.reduceNe, ne_eq, bne_self_eq_false, beq_self_eq_true, stm]
            exact hJ2 _ _ ⟨rfl, _, _, _, h, ob, by omega, fun t ht => by have := hp t ht; omega⟩
        by_cases e5 : kd = 5
        · rcases ha with ⟨A, s, C, rfl, hs, hA, rfl⟩ | ⟨hn, rfl⟩
          · have hln : (A ++ s :: C).length = A.length + 1 + C.length := by simp; omega
            have hge : (0 : Int) ≤ (A.length : Int) := by omega
            have hps := hp s (by simp)
            have c0 : Sh.cel u r 0 = some sl := cel_b h.rl.c 0
            obtain ⟨g0, cp0, hsl, _, _, _, _, _, hc⟩ := h.rl.o.at (by omega)
            obtain ⟨q0, q1, q2⟩ := slots_at (b := g0) (o := 0) (S := A ++ s :: C) (fun j hj => by rw [Nat.zero_add]; exact hc j hj) (i := A.length) (p := s) (by simp)
            rw [Nat.zero_add] at q0 q1 q2
            have c0' := c0
            rw [hsl] at c0'
            simp only [stp, Nat.reduceAdd, Int.reduceLT, Int.reduceLE, Int.reduceEq, Int.reduceNe, ne_eq, bne_self_eq_false, beq_self_eq_true, stm, d0, d1, d2, e1, e2, e4, e5, c0', hge, Option.isSome_some, Option.getD_some]
            rw [ix_28 (by omega)]
            simp only [stp, Nat.reduceAdd, Int.reduceLT, Int.reduceLE, Int.reduceEq, Int.reduceNe, ne_eq, bne_self_eq_false, beq_self_eq_true, stm, d1, q2, Option.isSome_some, Option.getD_some]
            by_cases hz : s.2.2 = 0
            · have hz' : ¬ (0 : Int) < (s.2.2 : Int) := by omega
              simp only [stp, Nat.reduceAdd, Int.reduceLT, Int.reduceLE, Int.reduceEq, Int.reduceNe, ne_eq, bne_self_eq_false, beq_self_eq_true, stm, d1, hz', Option.isSome_some, Option.getD_some]
              refine lunpin_none h.lc hs hz ?_
              simp only [stp, Nat.reduceAdd, Int.reduceLT, Int.reduceLE, Int.reduceEq, Int.reduceNe, ne_eq, bne_self_eq_false, beq_self_eq_true, stm, hz', decide_false]
              exact hJ2 _ _ ⟨rfl, _, _, _, h, ob, by omega, fun t ht => by have := hp t ht; omega⟩
            · have hz' : (0 : Int) < (s.2.2 : Int) := by omega
              simp only [stp, Nat.reduceAdd, Int.reduceLT, Int.reduceLE, Int.reduceEq, Int.reduceNe, ne_eq, bne_self_eq_false, beq_self_eq_true, stm, d1, hz', Option.isSome_some, Option.getD_some]
              refine lunpin_hit h.lc hs (by omega) (by omega) fun u1 F1 l1 st1 => ?_
              have h1 := h.cache l1 st1
              have ob1 := ob.cache st1
              have c0 : Sh.cel u1 r 0 = some sl := cel_b h1.rl.c 0
              simp only [stp, Nat.reduceAdd, Int.reduceLT, Int.reduceLE, Int.reduceEq, Int.reduceNe, ne_eq, bne_self_eq_false, beq_self_eq_true, stm, c0, hz', decide_true, Option.isSome_some, Option.getD_some]
              refine rcopy h1.rl (by omega) fun u2 v2 k2 o2 => ?_
              refine rsto (h1.rl.keep0 k2) o2 h1.Bw fun u3 r3 k3 s3 => ?_
              obtain ⟨g, cp, rfl, _, _, _, _, _, hc⟩ := r3.o.at (by omega)
              have c03 : Sh.cel u3 r 0 = some (.slice (some ⟨g, 0, none⟩) (A ++ s :: C).length cp) := cel_b r3.c 0
              obtain ⟨q0, q1, q2⟩ := slots_at (b := g) (o := 0) (S := A ++ s :: C) (fun j hj => by rw [Nat.zero_add]; exact hc j hj) (i := A.length) (p := s) (by simp)
              rw [Nat.zero_add] at q0 q1 q2
              have hwp : IntKind.i64.wrap ((s.2.2 : Int) - 1) = ((s.2.2 - 1 : Nat) : Int) := wrap_pred (by omega) (by omega)
              simp only [stp, Nat.reduceAdd, Int.reduceLT, Int.reduceLE, Int.reduceEq, Int.reduceNe, ne_eq, bne_self_eq_false, beq_self_eq_true, stm, c03, Option.isSome_some, Option.getD_some]
              rw [ix_28 (by omega)]
              simp only [stp, Nat.reduceAdd, Int.reduceLT, Int.reduceLE, Int.reduceEq, Int.reduceNe, ne_eq, bne_self_eq_false, beq_self_eq_true, stm, q2, hwp, Option.isSome_some, Option.getD_some]
              rw [ix_28 (by omega)]
              simp only [stp, Nat.reduceAdd, Int.reduceLT, Int.reduceLE, Int.reduceEq, Int.reduceNe, ne_eq, bne_self_eq_false, beq_self_eq_true, stm, q2, r3.o.fre rfl, Option.isSome_some, Option.getD_some]
              obtain ⟨r4, k4⟩ := RL.setf (s' := (s.1, s.2.1, s.2.2 - 1)) (j := 2) (v := .int .i64 ((s.2.2 - 1 : Nat) : Int)) r3 (by omega) rfl
              have hfr : ∀ q, (Value.slice (some ⟨g, 0, none⟩) (A ++ s :: C).length cp).ownBlock = some q → siz u1 ≤ q := fun q hq => (o2.lt hq).1
              have kk := (k2.none.trans k3).trans' k4 fun q hq e => by
                have e : q = g := e
                have := hfr g rfl
                omega
              refine hJ2 _ _ ⟨rfl, _, _, _, h1.ref r4 hfr kk, ob1.ref h1.rl kk, by simp at hl ⊢; omega, fun t ht => ?_⟩
              rcases List.mem_append.1 ht with ht | ht
              · have := hp t (by simp [ht]); omega
              · rcases List.mem_cons.1 ht with rfl | ht
                · dsimp only; omega
                · have := hp t (by simp [ht]); omega
          · simp only [stp, Nat.reduceAdd, Int.reduceLT, Int.reduceLE, Int.reduceEq, Int.reduceNe, ne_eq, bne_self_eq_false, beq_self_eq_true, stm, d0, d1, d2, e1, e2, e4, e5, Option.isSome_some, Option.getD_some]
            refine lunpin_miss h.lc hn ?_
            simp only [stp, Nat.reduceAdd, Int.reduceLT, Int.reduceLE, Int.reduceEq, Int.reduceNe, ne_eq, bne_self_eq_false, beq_self_eq_true, stm]
            exact hJ2 _ _ ⟨rfl, _, _, _, h, ob, by omega, fun t ht => by have := hp t ht; omega⟩
        by_cases e6 : kd = 6
        · simp only [stp, Nat.reduceAdd, Int.reduceLT, Int.reduceLE, Int.reduceEq, Int.reduceNe, ne_eq, bne_self_eq_false, beq_self_eq_true, stm, d0, d1, d2, e1, e2, e4, e5, e6, Option.isSome_some, Option.getD_some]
          rcases ha with ⟨A, s, C, rfl, hs, hA, rfl⟩ | ⟨hn, rfl⟩
          · have hln : (A ++ s :: C).length = A.length + 1 + C.length := by simp; omega
            have hge : (0 : Int) ≤ (A.length : Int) := by omega
            refine ldel_hit h.lc hs fun u1 F1 l1 st1 => ?_
            have h1 := h.cache l1 st1
            have ob1 := ob.cache st1
            have hd := h1.rl.keep0 ((K0.refl u1).drew)
            obtain ⟨g, cp, rfl, _, _, hcap, _, _, hc⟩ := h1.rl.o.at (by omega)
            obtain ⟨rA, rC⟩ := cut_rd hd.o
            have c0 : Sh.cel u1 r 0 = some (.slice (some ⟨g, 0, none⟩) (A ++ s :: C).length cp) := cel_b h1.rl.c 0
            have hwi : IntKind.i64.wrap ((A.length : Int) + 1) = ((A.length + 1 : Nat) : Int) := wrap_succ (by omega)
            simp only [stp, Nat.reduceAdd, Int.reduceLT, Int.reduceLE, Int.reduceEq, Int.reduceNe, ne_eq, bne_self_eq_false, beq_self_eq_true, stm, hge, hwi]
            have hBd : siz w ≤ siz u1.drew := h1.Bw
            refine jn0 (fun u2 => ∃ sl2, PS w (siz w) u2 c r b rm (A ++ C) (A ++ C) F1 sl2 f ps qs ∧ OB u2 bo #[.int .i64 kd, .int .i64 k, .int .i64 vv] F1) (fun J3 hJ3 => ?_) ?_
            · have iu := UW.init (u0 := u1.drew) (A := A) (C := C) (s := s)
              have fin : ∀ {u : World} {v' : Value}, UW u1.drew none none (some v') A C s u → act Tryz.prog (thenU (Instr.storeAt 28 (.pointer (some ⟨r, 0, none⟩)) v')) (fun _ w_7 => J3 w_7) u := fun {u v'} hu =>
                rcut_fin hd hBd hu fun w' sl' a1 a2 a3 => by
                  have a3' : Keep (fun g => g = r) u1 w' := ((Keep.refl (fun g => g = r) u1).drew).trans a3
                  exact hJ3 _ ⟨_, h1.ref a1 a2 a3', ob1.ref h1.rl a3'⟩
              have hn1 : (A ++ s :: C).length - (A.length + 1) = C.length := by omega
              clear hJ3
              repeat' first
                | with_reducible refine And.intro ?_ ?_
                | with_reducible refine UW.ldL (by assumption) hd ?_
                | with_reducible refine UW.ap1 (by assumption) rA (by omega) fun v u' hu' => ?_
                | with_reducible refine UW.ap2 (by assumption) rC (by omega) fun v u' hu' => ?_
                | with_reducible exact fin (by assumption)
                | with_reducible rw [slt_28 (by omega)]
                | with_reducible rw [slf_28 (by omega) hcap]
            · rintro u2 ⟨sl2, h2, ob2⟩ _j
              refine hJ2 _ _ ⟨rfl, _, _, _, h2, ob2, by simp; omega, fun t ht => ?_⟩
              have := hp t (by rcases List.mem_append.1 ht with h | h <;> simp [h])
              omega
          · refine ldel_miss h.lc hn ?_
            simp only [stp, Nat.reduceAdd, Int.reduceLT, Int.reduceLE, Int.reduceEq, Int.reduceNe, ne_eq, bne_self_eq_false, beq_self_eq_true, stm]
            exact hJ2 _ _ ⟨rfl, _, _, _, h, ob, by omega, fun t ht => by have := hp t ht; omega⟩
        simp only [stp, Nat.reduceAdd, Int.reduceLT, Int.reduceLE, Int.reduceEq, Int.reduceNe, ne_eq, bne_self_eq_false, beq_self_eq_true, stm, d0, e1, e2, e4, e5, e6, Option.isSome_some, Option.getD_some]
        exact hJ2 _ _ ⟨rfl, _, _, _, h, ob, by omega, fun t ht => by have := hp t ht; omega⟩
      · rintro y u1 ⟨rfl, S', F', sl', h, ob, hl, hp⟩ _j
        have d1 : Sh.cel u1 bo 1 = some (.int .i64 k) := ob.cel 1
        simp only [stp, Nat.reduceAdd, Int.reduceLT, Int.reduceLE, Int.reduceEq, Int.reduceNe, ne_eq, bne_self_eq_false, beq_self_eq_true, stm, d1, Option.isSome_some, Option.getD_some]
        refine find_c h.rl (by omega) fun a ha => ?_
        simp only [stp, Nat.reduceAdd, Int.reduceLT, Int.reduceLE, Int.reduceEq, Int.reduceNe, ne_eq, bne_self_eq_false, beq_self_eq_true, stm, d1, Option.isSome_some, Option.getD_some]
        have hd := h.k0 ((K0.refl u1).drew)
        have hdl := hd.lc
        have d1d : Sh.cel u1.drew bo 1 = some (.int .i64 k) := d1
        rcases ha with ⟨A, s, C, hS, hs, hA, rfl⟩ | ⟨hn, rfl⟩
        case' inl =>
          have hln : (A ++ s :: C).length = A.length + 1 + C.length := by simp; omega
          have hge : (0 : Int) ≤ (A.length : Int) := by omega
          have lc := h.lc
          rw [hS] at lc hdl
          have rl := hd.rl
          have c0 : Sh.cel u1.drew r 0 = some sl' := cel_b rl.c 0
          rw [hS] at rl
          obtain ⟨g, cp, hsl, _, _, _, _, _, hc⟩ := rl.o.at (by omega)
          obtain ⟨q0, q1, q2⟩ := slots_at (b := g) (o := 0) (S := A ++ s :: C) (fun j hj => by rw [Nat.zero_add]; exact hc j hj) (i := A.length) (p := s) (by simp)
          rw [Nat.zero_add] at q0 q1 q2
          rw [hsl] at c0
          refine lpeek_hit lc hs ?_
          simp only [stp, Nat.reduceAdd, Int.reduceLT, Int.reduceLE, Int.reduceEq, Int.reduceNe, ne_eq, bne_self_eq_false, beq_self_eq_true, stm, hge]
          refine ⟨fun u => u = u1.drew, rfl, ?_⟩
          refine hld_of _ (fun u hu => by rw [hu]; exact rl_28 c0) ?_
          rw [ix_28 (by omega)]
          simp only [stp, Nat.reduceAdd, Int.reduceLT, Int.reduceLE, Int.reduceEq, Int.reduceNe, ne_eq, bne_self_eq_false, beq_self_eq_true, stm]
          refine hld_of _ (fun u hu => by rw [hu]; exact rl_3 q1) ?_
          simp only [stp, Nat.reduceAdd, Int.reduceLT, Int.reduceLE, Int.reduceEq, Int.reduceNe, ne_eq, bne_self_eq_false, beq_self_eq_true, stm]
          refine hld_of _ (fun u hu => by rw [hu]; exact rl_3 d1d) ?_
          refine lpinned_hit hdl hs ⟨rfl, ?_⟩
          refine hld_of _ (fun u hu => by rw [hu]; exact rl_28 c0) ?_
          rw [ix_28 (by omega)]
          simp only [stp, Nat.reduceAdd, Int.reduceLT, Int.reduceLE, Int.reduceEq, Int.reduceNe, ne_eq, bne_self_eq_false, beq_self_eq_true, stm]
          refine hld_of _ (fun u hu => by rw [hu]; exact rl_3 q2) ?_
          simp only [stp, Nat.reduceAdd, Int.reduceLT, Int.reduceLE, Int.reduceEq, Int.reduceNe, ne_eq, bne_self_eq_false, beq_self_eq_true, stm]
        case' inr =>
          refine lpeek_miss h.lc hn ?_
          simp only [stp, Nat.reduceAdd, Int.reduceLT, Int.reduceLE, Int.reduceEq, Int.reduceNe, ne_eq, bne_self_eq_false, beq_self_eq_true, stm]
          refine ⟨fun u => u = u1.drew, rfl, ?_⟩
          try simp only [stp, Nat.reduceAdd, Int.reduceLT, Int.reduceLE, Int.reduceEq, Int.reduceNe, ne_eq, bne_self_eq_false, beq_self_eq_true, stm]
          refine hld_of _ (fun u hu => by rw [hu]; exact rl_3 d1d) ?_
          refine lpinned_miss hdl hn ⟨rfl, ?_⟩
          simp only [stp, Nat.reduceAdd, Int.reduceLT, Int.reduceLE, Int.reduceEq, Int.reduceNe, ne_eq, bne_self_eq_false, beq_self_eq_true, stm]
        all_goals
          have hl121 : S'.length ≤ 121 := by omega
          refine lpc2 S'.length (by omega) (fun j x u => K0 u1.drew u ∧ Own u (siz u1.drew) 3 1 x j (flat BkInts.enc ((S'.map (·.1)).take j))) ⟨K0.refl _, Own.nil _ _ _ _⟩ (fun j x u2 hj ⟨k2, o2⟩ J5 hJ5 => ?_) (fun x u2 ⟨k2, o2⟩ J5 => ?_)
          · intro _j
            have hj' : ((j : Int) < (S'.length : Int)) := by omega
            have rl := hd.rl.keep0 k2
            have c0 : Sh.cel u2 r 0 = some sl' := cel_b rl.c 0
            obtain ⟨g, cp, hsl, _, _, _, _, _, hc⟩ := rl.o.at (by omega)
            obtain ⟨q0, q1, q2⟩ := slots_at (b := g) (o := 0) (S := S') (fun j hj => by rw [Nat.zero_add]; exact hc j hj) (List.getElem?_eq_getElem hj)
            rw [Nat.zero_add] at q0
            rw [hsl] at c0
            simp only [stp, Nat.reduceAdd, Int.reduceLT, Int.reduceLE, Int.reduceEq, Int.reduceNe, ne_eq, bne_self_eq_false, beq_self_eq_true, stm, c0, hj', Option.isSome_some, Option.getD_some]
            rw [ix_28 hj]
            simp only [stp, Nat.reduceAdd, Int.reduceLT, Int.reduceLE, Int.reduceEq, Int.reduceNe, ne_eq, bne_self_eq_false, beq_self_eq_true, stm, q0, Option.isSome_some, Option.getD_some]
            refine pu_65 o2 (fun y hy => by rw [List.mem_singleton.1 hy]; rfl) (by omega) k2.size fun v' u3 o3 k3 _ => ?_
            refine hJ5 _ _ ⟨k2.trans' k3 fun q hq e => by have := (Sh.Own.lt o2 e).1; omega, ?_⟩
            rw [List.take_add_one, List.getElem?_map, List.getElem?_eq_getElem hj, flat_append]
            exact o3
          · intro _j
            have hj' : ¬ ((S'.length : Int) < (S'.length : Int)) := by omega
            have rl := hd.rl.keep0 k2
            have c0 : Sh.cel u2 r 0 = some sl' := cel_b rl.c 0
            obtain ⟨psl, csl, hsl⟩ := rl.o.form
            rw [hsl] at c0
            simp only [stp, Nat.reduceAdd, Int.reduceLT, Int.reduceLE, Int.reduceEq, Int.reduceNe, ne_eq, bne_self_eq_false, beq_self_eq_true, stm, c0, hj', Option.isSome_some, Option.getD_some]
            have h2 := hd.k0 k2
            have ob2 := (ob.k0 ((K0.refl u1).drew)).k0 k2
            have e : (S'.map (·.1)).take S'.length = S'.map (·.1) := List.take_of_length_le (by simp)
            rw [e] at o2
            obtain ⟨px, cx, rfl⟩ := o2.form
            have hlm : (S'.map (·.1)).length = S'.length := by simp
            refine lkeys_c h2.lc fun u3 va oa k3 => ?_
            have h3 := h2.k0 k3
            have s2 := k2.size
            have s3 := k3.size
            obtain ⟨pv, cv, rfl⟩ := oa.form
            have oB : Own u3 (siz w) 3 1 (.slice pv (S'.map (·.1)).length cv) (S'.map (·.1)).length (flat BkInts.enc (S'.map (·.1))) := oa.le h2.Bw
            refine BkInts.add_c h3.bk h3.ks h3.Bw oB (by rw [hlm]; omega) one_slice (fun q hq e => by
              have := (oa.lt hq).1
              have := (h2.ks.lt e).2
              omega) fun u4 f' ps' qs' hb4 hne4 hk4 hs4 k4 => ?_
            have h4 := h3.add (l := .slice pv (S'.map (·.1)).length cv) hb4 hne4 hk4 hs4 (fun q hq e => by
              have := (oa.lt hq).1
              have := (h2.lc.lt e).2
              omega) k4
            have tyI : ∀ {n : Nat} {v : Value} {xs : List Value} {B' : Nat}, Own u3 B' 3 1 v n xs → Own u4 B' 3 1 v n xs := fun {n v xs B'} o => o.keep k4 fun q hq e => by
              obtain ⟨_, cs, hc⟩ := o.ty hq
              rcases e with e | e | e
              · exact ty_ne hc h3.bk (by decide) e
              · obtain ⟨_, cs', hc'⟩ := h3.ks.p.row.ty e
                exact ty_ne hc hc' (by decide) rfl
              · obtain ⟨_, cs', hc'⟩ := h3.ks.q.row.ty e
                exact ty_ne hc hc' (by decide) rfl
            have oa4 := tyI oa
            have ox4 := tyI (o2.keep k3 fun _ _ => id)
            have kd4 : K0 u4 u4.drew := (K0.refl u4).drew
            try simp only [stp, Nat.reduceAdd, Int.reduceLT, Int.reduceLE, Int.reduceEq, Int.reduceNe, ne_eq, bne_self_eq_false, beq_self_eq_true]
            refine ⟨fun u => K0 u4.drew u, K0.refl _, ?_⟩
            refine BkInts.same_c (a := S'.map (·.1)) (b := S'.map (·.1)) (oa4.keep kd4 fun _ _ => id).rd (by rw [hlm]; exact (ox4.keep kd4 fun _ _ => id).rd) (by rw [hlm]; omega) fun u5 k5 => ⟨k5, ?_⟩
            have h5 := (h4.k0 kd4).k0 k5
            simp only [stp, Nat.reduceAdd, Int.reduceLT, Int.reduceLE, Int.reduceEq, Int.reduceNe, ne_eq, bne_self_eq_false, beq_self_eq_true, stm]
            refine llen_c h5.lc ⟨k5, ?_⟩
            simp only [stp, Nat.reduceAdd, Int.reduceLT, Int.reduceLE, Int.reduceEq, Int.reduceNe, ne_eq, bne_self_eq_false, beq_self_eq_true, stm]
            refine lroom_c h5.lc ⟨k5, ?_⟩
            try simp only [stp, Nat.reduceAdd, Int.reduceLT, Int.reduceLE, Int.reduceEq, Int.reduceNe, ne_eq, bne_self_eq_false, beq_self_eq_true, stm]
            have r1 : ∀ u, K0 u4.drew u → Sh.cel u r 1 = some (.int .i64 (rm : Int)) := fun u k => cel_b ((h4.k0 kd4).rl.keep0 k).c 1
            refine hld_of (.int .i64 (rm : Int)) (fun u hu => rl_3 (r1 u hu)) ?_
            simp only [stp, Nat.reduceAdd, Int.reduceLT, Int.reduceLE, Int.reduceEq, Int.reduceNe, ne_eq, bne_self_eq_false, beq_self_eq_true, stm]
            exact hJ _ ⟨S', F', sl', f', ps', qs', h5, hl, hp⟩
    · intro _j
      have hi' : ¬ ((l.length : Int) < (l.length : Int)) := by omega
      simp only [stp, Nat.reduceAdd, Int.reduceLT, Int.reduceLE, Int.reduceEq, Int.reduceNe, ne_eq, bne_self_eq_false, beq_self_eq_true, hi']
      refine alive_c fun u2 k2 => ?_
      try simp only [stp, Nat.reduceAdd, Int.reduceLT, Int.reduceLE, Int.reduceEq, Int.reduceNe, ne_eq, bne_self_eq_false, beq_self_eq_true, stm]
      have h2 := h.k0 k2
      refine Bk.apart_c h2.bk h2.Bw h2.nf h2.ks fun u3 k3 => ?_
      try simp only [stp, Nat.reduceAdd, Int.reduceLT, Int.reduceLE, Int.reduceEq, Int.reduceNe, ne_eq, bne_self_eq_false, beq_self_eq_true, stm]
      exact hq _ (h2.kp.trans k3)
end
end Go.Proofs.YtdnbegjamoeahaaGreatL
