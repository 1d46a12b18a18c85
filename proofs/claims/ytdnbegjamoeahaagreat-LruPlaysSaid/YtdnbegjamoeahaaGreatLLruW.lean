/- The document's own cache: putting. Conditions: as each says. -/
import Derived.Test.YtdnbegjamoeahaaGreatLLruV
set_option linter.unusedSimpArgs false
set_option linter.unusedVariables false
namespace Go.Proofs.YtdnbegjamoeahaaGreatL
open Go.Sh
set_option maxRecDepth 100000
section
variable {w w' u u0 : World} {Q : Value → World → Prop} {B r room : Nat} {sl : Value} {S A C : List Sl} {s : Sl} {x y : Int} {X Y Z : Option Value}
theorem dec_unique : ∀ {A A' C C' : List Sl} {s s' : Sl}, A ++ s :: C = A' ++ s' :: C' → s.1 = x → s'.1 = x → (∀ a ∈ A, a.1 ≠ x) → (∀ a ∈ A', a.1 ≠ x) → A = A' ∧ s = s' ∧ C = C'
  | [], [], C, C', s, s', h, _, _, _, _ => by simp at h; exact ⟨rfl, h.1, h.2⟩
  | [], a :: A', C, C', s, s', h, h1, _, _, h4 => by
    simp at h
    exact absurd h1 (by rw [h.1]; exact h4 a (by simp))
  | a :: A, [], C, C', s, s', h, _, h2, h3, _ => by
    simp at h
    exact absurd h2 (by rw [← h.1]; exact h3 a (by simp))
  | a :: A, a' :: A', C, C', s, s', h, h1, h2, h3, h4 => by
    simp at h
    obtain ⟨e1, e2, e3⟩ := dec_unique (A := A) (A' := A') h.2 h1 h2 (fun b hb => h3 b (by simp [hb])) (fun b hb => h4 b (by simp [hb]))
    exact ⟨by rw [h.1, e1], e2, e3⟩
theorem rfind_hit (h : RL w B r sl (A ++ s :: C) room) (hS : (A ++ s :: C).length ≤ 100000) (hs : s.1 = x) (hA : ∀ a ∈ A, a.1 ≠ x) (hq : Q (.int .i64 (A.length : Int)) w) :
    callS Tryz.prog 15 #[.pointer (some ⟨r, 0, none⟩), .int .i64 x] Q w :=
  find_aux h hS (fun A' s' C' e h1 h2 => by obtain ⟨rfl, _, _⟩ := dec_unique e hs h1 hA h2; exact hq) fun hn => absurd hs (hn s (by simp))
theorem rfind_miss (h : RL w B r sl S room) (hS : S.length ≤ 100000) (hn : ∀ s ∈ S, s.1 ≠ x) (hq : Q (.int .i64 (-1)) w) :
    callS Tryz.prog 15 #[.pointer (some ⟨r, 0, none⟩), .int .i64 x] Q w :=
  find_aux h hS (fun A' s' C' e h1 _ => absurd h1 (hn s' (by rw [e]; simp))) fun _ => hq
theorem rcopy {k : Value → World → Prop} (h : RL w B r sl S room) (hS : S.length ≤ 100000) (hk : ∀ u v, K0 w u → Own u (siz w) tSl 3 v S.length (flat encR S) → k v u) :
    act Tryz.prog (Builtin.append_ #[28, 28] 28 #[.slice none 0 0, sl]) k w :=
  app_sl (Own.nil w (siz w) tSl 3) h.o.rd encR_ones (by omega) (Nat.le_refl _) fun v u o ku _ => by
    rw [Nat.zero_add, List.nil_append] at o
    exact hk u v (ku.mono fun g _ e => by cases e) o
/-- The document's list is another one. -/
theorem rsto {k : Value → World → Prop} {base : Nat} {v : Value} {S' : List Sl} (h : RL w B r sl S room) (ho : Own w base tSl 3 v S'.length (flat encR S')) (hb : B ≤ base)
    (hk : ∀ w', RL w' B r v S' room → Keep (fun g => g = r) w w' → siz w' = siz w → k undef w') : act Tryz.prog (thenU (Instr.storeAt 28 (.pointer (some ⟨r, 0, none⟩)) v)) k w := by
  obtain ⟨pv, cv, rfl⟩ := ho.form
  rw [st_28 one_slice (by rw [cel_b h.c]; rfl) (fre_b h.c)]
  have ks : Keep (fun g => g = r) w (sto w r 0 (.slice pv S'.length cv)) := (Keep.refl (fun g => g = r) w).sto (.inl rfl) _ _
  refine hk _ ⟨by rw [blk_sto h.c]; rfl, (ho.keep ks fun q hq e => ?_).le hb⟩ ks siz_sto
  have e : q = r := e
  obtain ⟨_, cs, hc⟩ := ho.ty hq
  rw [e, h.c] at hc; injection hc with hc; injection hc with _ hc; cases hc
theorem set_mid {s' : Sl} : (A ++ s :: C).set A.length s' = A ++ s' :: C := by simp
/-- A field of an element turns. -/
theorem RL.setf {g c : Nat} {s' : Sl} {j : Nat} {v : Value} (h : RL w B r (.slice (some ⟨g, 0, none⟩) (A ++ s :: C).length c) (A ++ s :: C) room) (hj : j < 3) (he : encR s' = (encR s).set j v) :
    RL (sto w g (A.length * 3 + j) v) B r (.slice (some ⟨g, 0, none⟩) (A ++ s :: C).length c) (A ++ s' :: C) room ∧ Keep (fun q => q = g) w (sto w g (A.length * 3 + j) v) := by
  have hlen : (A ++ s :: C).length = A.length + 1 + C.length := by simp; omega
  have hlen' : (A ++ s' :: C).length = (A ++ s :: C).length := by simp
  have k : Keep (fun q => q = g) w (sto w g (A.length * 3 + j) v) := (Keep.refl (fun q => q = g) w).sto (.inl rfl) _ _
  refine ⟨⟨k.blk h.c fun e => h.sl_ne g rfl e.symm, ?_⟩, k⟩
  have := h.o.setZ (j := A.length * 3 + j) (x := v) (by omega)
  rw [flat_set encR_len (l := A ++ s :: C) (i := A.length) (s := s) (s' := s') (by simp) hj he, set_mid] at this
  rw [hlen']; exact this
theorem rcut_fin {k : Value → World → Prop} {v : Value} (h : RL u0 B r sl S room) (hB : B ≤ siz u0) (hu : UW u0 X Y (some v) A C s u) (hk : ∀ w' sl', RL w' B r sl' (A ++ C) room → (∀ g, sl'.ownBlock = some g → siz u0 ≤ g) → Keep (fun g => g = r) u0 w' → k undef w') :
    act Tryz.prog (thenU (Instr.storeAt 28 (.pointer (some ⟨r, 0, none⟩)) v)) k u := by
  have oz := hu.2.2.2.1 v rfl
  refine rsto (h.keep0 hu.1) (S' := A ++ C) (by rw [List.length_append]; exact oz) hB fun w' h' k' _ => hk w' v h' (fun g hg => (oz.lt hg).1) (hu.1.none.trans k')
/-- Where the one that goes stands. -/
theorem rput_miss {v : Int} (h : RL w B r sl S room) (hB : B ≤ siz w) (hS : S.length ≤ 90000) (hn : ∀ s ∈ S, s.1 ≠ x)
    (hq0 : ∀ w', room ≤ S.length → (∀ s ∈ S, s.2.2 ≠ 0) → RL w' B r sl S room → K0 w w' → Q (.tuple #[.int .i64 0, .int .i64 0, .bool false, .bool false]) w')
    (hqN : ∀ w' sl', S.length < room → RL w' B r sl' ((x, v, 0) :: S) room → (∀ g, sl'.ownBlock = some g → siz w ≤ g) → Keep (fun g => g = r) w w' → Q (.tuple #[.int .i64 0, .int .i64 0, .bool false, .bool true]) w')
    (hqE : ∀ w' sl' A s C, room ≤ S.length → S = A ++ s :: C → s.2.2 = 0 → (∀ c ∈ C, c.2.2 ≠ 0) → RL w' B r sl' ((x, v, 0) :: (A ++ C)) room → (∀ g, sl'.ownBlock = some g → siz w ≤ g) → Keep (fun g => g = r) w w' → Q (.tuple #[.int .i64 s.1, .int .i64 s.2.1, .bool true, .bool true]) w') :
    callS Tryz.prog 17 #[.pointer (some ⟨r, 0, none⟩), .int .i64 x, .int .i64 v] Q w := by
  refine ref17 ?_
  unfold S17
  refine rfind_miss h (by omega) hn ?_
  have c0 : Sh.cel w r 0 = some sl := cel_b h.c 0
  have c1 : Sh.cel w r 1 = some (.int .i64 (room : Int)) := cel_b h.c 1
  obtain ⟨pa, ca, rfl⟩ := h.o.form
  simp only [pur_geq, show decide ((0 : Int) ≤ -1) = false from rfl, condS_false, al_62]
  generalize hw1 : w.alloc _ = w1
  have b1 : blk w1 (siz w) = some (.cells #[.int .i64 0, .int .i64 0, .int .i64 0] tSl) := by rw [← hw1]; exact blk_alloc_new
  have k1 : K0 w w1 := by rw [← hw1]; exact (K0.refl w).alloc _
  have s1 : siz w1 = siz w + 1 := by rw [← hw1, siz_alloc]
  have hrlt := h.lt
  have h1 := h.keep0 k1
  have c0' : Sh.cel w1 r 0 = some (.slice pa S.length ca) := cel_b h1.c 0
  have c1' : Sh.cel w1 r 1 = some (.int .i64 (room : Int)) := cel_b h1.c 1
  refine jn1 (fun y w' => ∃ (goes : Bool) (zk zv zp : Value) (sl' : Value) (L' : List Sl), y = .bool goes ∧ RL w' B r sl' L' room ∧ L'.length ≤ S.length ∧ blk w' (siz w) = some (.cells #[zk, zv, zp] tSl) ∧ Keep (fun g => g = r) w w' ∧
      (∀ w'' sl'', RL w'' B r sl'' ((x, v, 0) :: L') room → (∀ g, sl''.ownBlock = some g → siz w ≤ g) → Keep (fun g => g = r) w w'' → Q (.tuple #[zk, zv, .bool goes, .bool true]) w'')) (fun J hJ => ?_) ?_
  · simp only [stp, Nat.reduceAdd, Int.reduceLT, Int.reduceLE, Int.reduceEq, Int.reduceNe, ne_eq, bne_self_eq_false, beq_self_eq_true, stm, cel_drew, c0', c1', Option.isSome_some, Option.getD_some]
    by_cases hfull : room ≤ S.length
    rotate_left
    · have hf' : ¬ ((room : Int) ≤ (S.length : Int)) := by omega
      simp only [stp, Nat.reduceAdd, Int.reduceLT, Int.reduceLE, Int.reduceEq, Int.reduceNe, ne_eq, bne_self_eq_false, beq_self_eq_true, stm, hf']
      exact hJ _ _ ⟨false, .int .i64 0, .int .i64 0, .int .i64 0, _, S, rfl, h1.keep0 ((K0.refl w1).drew), Nat.le_refl _, b1, k1.none.drew, fun w'' sl'' a1 a2 a3 => hqN w'' sl'' (by omega) a1 a2 a3⟩
    · have hf' : (room : Int) ≤ (S.length : Int) := by omega
      have ew : IntKind.i64.wrap ((S.length : Int) - 1) = ((S.length : Nat) : Int) - 1 := wrap_id (by omega) (by omega)
      simp only [stp, Nat.reduceAdd, Int.reduceLT, Int.reduceLE, Int.reduceEq, Int.reduceNe, ne_eq, bne_self_eq_false, beq_self_eq_true, stm, cel_drew, c0', hf', ew, Option.isSome_some, Option.getD_some]
      refine lp1 (fun m y w' => w' = w1.drew ∧ ∃ j : Nat, y = .int .i64 ((j : Int) - 1) ∧ j ≤ S.length ∧ m = j ∧ ∀ i (hi : i < S.length), j ≤ i → S[i].2.2 ≠ 0) S.length ⟨rfl, S.length, rfl, Nat.le_refl _, rfl, fun i hi hj => by omega⟩ ?_
      rintro m y w2 ⟨rfl, j, rfl, hj, hm, hI⟩ J' hJ' _j
      subst m
      by_cases hj0 : j = 0
      · subst hj0
        simp only [stp, Nat.reduceAdd, Int.reduceLT, Int.reduceLE, Int.reduceEq, Int.reduceNe, ne_eq, bne_self_eq_false, beq_self_eq_true, stm, Int.ofNat_zero, Int.zero_sub]
        have hlt : ((-1 : Int) < 0) := by omega
        try simp only [stp, Nat.reduceAdd, Int.reduceLT, Int.reduceLE, Int.reduceEq, Int.reduceNe, ne_eq, bne_self_eq_false, beq_self_eq_true, stm, hlt]
        exact hq0 _ hfull (fun s hs => by obtain ⟨i, hi, rfl⟩ := List.getElem_of_mem hs; exact hI i hi (Nat.zero_le _)) (h1.keep0 ((K0.refl w1).drew)) k1.drew
      obtain ⟨q, rfl⟩ : ∃ q, j = q + 1 := ⟨j - 1, by omega⟩
      have hq' : ((q + 1 : Nat) : Int) - 1 = (q : Int) := by omega
      have h0q : (0 : Int) ≤ (q : Int) := by omega
      have hql : q < S.length := by omega
      obtain ⟨g, c, e, _, _, hcap, _, hfg, hc⟩ := h1.o.at (by omega)
      injection e with e1 _ e2
      subst e1 e2
      obtain ⟨p0, p1, p2⟩ := slots_at (b := g) (o := 0) (fun j hj => by rw [Nat.zero_add]; exact hc j hj) (List.getElem?_eq_getElem hql)
      rw [Nat.zero_add] at p0 p1 p2
      simp only [stp, Nat.reduceAdd, Int.reduceLT, Int.reduceLE, Int.reduceEq, Int.reduceNe, ne_eq, bne_self_eq_false, beq_self_eq_true, stm, cel_drew, hq', h0q, c0', Option.isSome_some, Option.getD_some]
      rw [ix_28 hql]
      by_cases hp : S[q].2.2 = 0
      rotate_left
      · have hp' : (0 : Int) < (S[q].2.2 : Int) := by omega
        have ew2 : IntKind.i64.wrap ((q : Int) - 1) = (q : Int) - 1 := wrap_id (by omega) (by omega)
        simp only [stp, Nat.reduceAdd, Int.reduceLT, Int.reduceLE, Int.reduceEq, Int.reduceNe, ne_eq, bne_self_eq_false, beq_self_eq_true, stm, cel_drew, p2, hp', ew2, Option.isSome_some, Option.getD_some]
        exact hJ' q _ _ (by omega) ⟨rfl, q, rfl, by omega, rfl, fun i hi hqi => by
          by_cases e : i = q
          · subst e; exact hp
          · exact hI i hi (by omega)⟩
      · have hp' : ¬ (0 : Int) < (S[q].2.2 : Int) := by omega
        have hnq : ¬ (q : Int) < 0 := by omega
        have hsA : S = S.take q ++ S[q] :: S.drop (q + 1) := by rw [List.getElem_cons_drop, List.take_append_drop]
        have hC : ∀ c ∈ S.drop (q + 1), c.2.2 ≠ 0 := fun c hc => by
          obtain ⟨i, hi, rfl⟩ := List.getElem_of_mem hc
          rw [List.getElem_drop]
          exact hI _ _ (by omega)
        have ew3 : IntKind.i64.wrap ((q : Int) + 1) = ((q + 1 : Nat) : Int) := wrap_succ (by omega)
        simp only [stp, Nat.reduceAdd, Int.reduceLT, Int.reduceLE, Int.reduceEq, Int.reduceNe, ne_eq, bne_self_eq_false, beq_self_eq_true, stm, cel_drew, c0', p2, hp', hnq, Option.isSome_some, Option.getD_some]
        rw [ix_28 hql]
        have i0 : (Sh.cel w1 (siz w) 0).isSome = true := by rw [cel_b b1]; rfl
        have i1 : (Sh.cel w1 (siz w) 1).isSome = true := by rw [cel_b b1]; rfl
        have i2 : (Sh.cel w1 (siz w) 2).isSome = true := by rw [cel_b b1]; rfl
        simp only [pur_nil, fa_30_0, pur_add, ew3, Nat.zero_add]
        rw [ld_62 (by rw [cel_drew, p0]; rfl) (by rw [cel_drew, p1]; rfl) (by rw [cel_drew, p2]; rfl), cel_drew, cel_drew, cel_drew, p0, p1, p2, Option.getD_some, Option.getD_some, Option.getD_some]
        rw [st_62 one_int one_int one_int (by rw [cel_drew]; exact i0) (by rw [cel_drew]; exact i1) (by rw [cel_drew]; exact i2) (by rw [fre_drew]; exact fre_b b1)]
        have k3 : K0 w (stoL w1.drew (siz w) 0 (encR S[q])) := k1.drew.stoL _ 0 (.inr (Nat.le_refl _))
        have b3 : blk (stoL w1.drew (siz w) 0 (encR S[q])) (siz w) = some (.cells (encR S[q]).toArray tSl) := blk_stoL_all (zs := [.int .i64 0, .int .i64 0, .int .i64 0]) (xs := encR S[q]) rfl b1
        have s3 : siz (stoL w1.drew (siz w) 0 (encR S[q])) = siz w + 1 := by rw [siz_stoL]; exact s1
        generalize stoL w1.drew (siz w) 0 _ = w3 at k3 b3 s3
        have h3 := h.keep0 k3.drew
        have c0'' : Sh.cel w3 r 0 = some (.slice (some ⟨g, 0, none⟩) S.length ca) := cel_b (h.keep0 k3).c 0
        have hcut := fun (ho : Own w3.drew B tSl 3 (.slice (some ⟨g, 0, none⟩) (S.take q ++ S[q] :: S.drop (q + 1)).length ca) (S.take q ++ S[q] :: S.drop (q + 1)).length (flat encR (S.take q ++ S[q] :: S.drop (q + 1)))) => cut_rd ho
        rw [← hsA] at hcut
        obtain ⟨rA, rC⟩ := hcut h3.o
        have hql2 : (S.take q).length = q := by rw [List.length_take]; omega
        rw [hql2] at rA rC
        have fin : ∀ {u : World} {v' : Value}, UW w3.drew none none (some v') (S.take q) (S.drop (q + 1)) S[q] u → act Tryz.prog (thenU (Instr.storeAt 28 (.pointer (some ⟨r, 0, none⟩)) v')) (fun _ w_7 => J (.bool true) w_7) u := fun {u v'} hu =>
          rcut_fin h3 (by have := k3.size; show B ≤ siz w3; omega) hu fun w' sl' a1 a2 a3 => hJ _ _ ⟨true, _, _, _, sl', _, rfl, a1, by rw [List.length_append, List.length_take, List.length_drop]; omega, a3.blk b3 (by omega), (k3.none.drew).trans a3, fun w'' sl'' d1 d2 d3 => hqE w'' sl'' _ _ _ hfull hsA hp hC d1 d2 d3⟩
        refine jn0 (fun w' => J (.bool true) w') (fun J2 hJ2 => ?_) (fun w' h => fun _j => h)
        have iu := UW.init (u0 := w3.drew) (A := S.take q) (C := S.drop (q + 1)) (s := S[q])
        have rA' : Rd 3 w3.drew (.slice (some ⟨g, 0, none⟩) q ca) (S.take q).length (flat encR (S.take q)) := by rw [hql2]; exact rA
        have fin' : ∀ {u : World} {v' : Value}, UW w3.drew none none (some v') (S.take q) (S.drop (q + 1)) S[q] u → act Tryz.prog (thenU (Instr.storeAt 28 (.pointer (some ⟨r, 0, none⟩)) v')) (fun _ w_7 => J2 w_7) u := fun {u v'} hu =>
          rcut_fin h3 (by have := k3.size; show B ≤ siz w3; omega) hu fun w' sl' a1 a2 a3 => hJ2 _ (hJ _ _ ⟨true, _, _, _, sl', _, rfl, a1, by rw [List.length_append, List.length_take, List.length_drop]; omega, a3.blk b3 (by omega), (k3.none.drew).trans a3, fun w'' sl'' d1 d2 d3 => hqE w'' sl'' _ _ _ hfull hsA hp hC d1 d2 d3⟩)
        clear hJ hJ2 hJ' hq0 hqN hqE fin
        rw [ld_28 (by rw [cel_drew, c0'']; rfl), cel_drew, c0'', Option.getD_some]
        rw [slt_28 (by omega)]
        repeat' first
          | with_reducible refine And.intro ?_ ?_
          | with_reducible refine UW.ldL (by assumption) h3 ?_
          | with_reducible refine UW.ap1 (by assumption) rA' (by omega) fun v u' hu' => ?_
          | with_reducible refine UW.ap2 (by assumption) rC (by rw [hql2, List.length_drop]; omega) fun v u' hu' => ?_
          | with_reducible exact fin' (by assumption)
          | with_reducible rw [slf_28 (by omega) hcap]
  · rintro y w2 ⟨goes, zk, zv, zp, sl', L', rfl, h2, hl2, b2, k2, hqq⟩ _j
    have c02 : Sh.cel w2 r 0 = some sl' := cel_b h2.c 0
    simp only [stp, Nat.reduceAdd, Int.reduceLT, Int.reduceLE, Int.reduceEq, Int.reduceNe, ne_eq, bne_self_eq_false, beq_self_eq_true, stm]
    have ka : K0 w2 (w2.alloc (.cells (encR (x, v, 0)).toArray tSl)) := (K0.refl w2).alloc _
    have c02a : Sh.cel (w2.alloc (.cells #[.int .i64 x, .int .i64 v, .int .i64 0] tSl)) r 0 = some sl' := ka.cel c02 id
    simp only [c02a, Option.isSome_some, Option.getD_some, stp, Nat.reduceAdd, Int.reduceLT, Int.reduceLE, Int.reduceEq, Int.reduceNe, ne_eq, bne_self_eq_false, beq_self_eq_true]
    have h2a := h2.keep0 ka
    have s2 := k2.size
    refine app_sl (own_new (xs := encR (x, v, 0)) (n := 1) (z := 3) (e := tSl) (Nat.le_refl (siz w2)) rfl (by unfold maxLen; omega)) h2a.o.rd encR_ones (by omega) (by rw [siz_alloc]; omega) fun v' w3 o3 k3 hb3 => ?_
    have e3 : (((x, v, 0) : Sl) :: L').length = 1 + L'.length := by simp; omega
    have k3 : K0 w2 w3 := ka.trans' k3 fun g hg e => by have e : siz w2 = g := Option.some.inj e; omega
    have o3' : Own w3 (siz w2) tSl 3 v' (((x, v, 0) : Sl) :: L').length (flat encR (((x, v, 0) : Sl) :: L')) := by rw [e3, flat_cons]; exact o3
    refine rsto (h2.keep0 k3) o3' (by omega) fun w4 h4 k4 _ => ?_
    have b4 := k4.blk (k3.blk b2 id) (show ¬ siz w = r by omega)
    have d0 : Sh.cel w4 (siz w) 0 = some zk := cel_b b4 0
    have d1 : Sh.cel w4 (siz w) 1 = some zv := cel_b b4 1
    simp only [stp, Nat.reduceAdd, Int.reduceLT, Int.reduceLE, Int.reduceEq, Int.reduceNe, ne_eq, bne_self_eq_false, beq_self_eq_true, stm, cel_drew, d0, d1, Option.isSome_some, Option.getD_some]
    exact hqq _ v' (h4.keep0 ((K0.refl w4).drew)) (fun g hg => by have := (o3'.lt hg).1; omega) ((k2.trans k3.none).trans k4).drew
end
end Go.Proofs.YtdnbegjamoeahaaGreatL
