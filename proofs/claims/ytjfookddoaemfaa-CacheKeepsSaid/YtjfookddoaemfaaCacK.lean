/- The cache of last uses, keys int, values entries: a key gets a value. Conditions: the cache lies in memory as 'Rep' says. -/
import Derived.Test.YtjfookddoaemfaaCacJ
set_option linter.unusedSimpArgs false
set_option linter.unusedVariables false
namespace Go.Proofs.Ytjfookddoaemfaa.Lv
open Go.Sh Go.Sh.Lrv
set_option maxRecDepth 100000
section
variable {B : Nat} {w : World} {c mb room : Nat} {L : List Nd} {Q : Value → World → Prop}
theorem foot_set {A C : List Nd} {n : Nd} {v : En} {b : Nat} (h : foot c mb (A ++ { n with v } :: C) b) : foot c mb (A ++ n :: C) b := by
  rcases h with e | e | ⟨m, hm, e⟩
  · exact .inl e
  · exact .inr (.inl e)
  · rcases List.mem_append.1 hm with hm | hm
    · exact .inr (.inr ⟨m, by simp [hm], e⟩)
    · rcases List.mem_cons.1 hm with rfl | hm
      · exact .inr (.inr ⟨n, by simp, e⟩)
      · exact .inr (.inr ⟨m, by simp [hm], e⟩)
/-- The variables of Put: the value that came, the result, the node that goes. -/
structure PV (w0 w : World) (e zv : En) (zk : Int) : Prop where
  b5 : EnAt w (siz w0) 0 e
  b7 : ∀ j, j < 5 → (cel w (siz w0 + 1) (0 + j)).isSome = true
  f7 : fre w (siz w0 + 1) = true
  k10 : cel w (siz w0 + 2) 0 = some (.int .i64 zk)
  v10 : EnAt w (siz w0 + 2) 1 zv
  f10 : fre w (siz w0 + 2) = true
theorem PV.keep {w0 w w' : World} {e zv : En} {zk : Int} {F : Nat → Prop} (h : PV w0 w e zv zk) (k : Keep F w w') (h0 : ¬ F (siz w0)) (h1 : ¬ F (siz w0 + 1)) (h2 : ¬ F (siz w0 + 2)) : PV w0 w' e zv zk :=
  { b5 := h.b5.keep k h0
    b7 := fun j hj => by
      obtain ⟨u, hu⟩ := Option.isSome_iff_exists.1 (h.b7 j hj)
      rw [k.cel hu h1]; rfl
    f7 := k.fre h.f7 h1
    k10 := k.cel h.k10 h2
    v10 := h.v10.keep k h2
    f10 := k.fre h.f10 h2 }
theorem fin_put {w0 : World} {F : Nat → Prop} {e zv : En} {zk : Int} {k : Value → World → Prop} (h : PV w0 w e zv zk) (hk : Keep F w0 w) (hq : ∀ w', Keep F w0 w' → Keep (fun b => b = siz w0 + 1) w w' → EnAt w' (siz w0 + 1) 0 zv → k undef w') :
    act Try.prog (thenU (Instr.storeAt 49 (.pointer (some ⟨siz w0 + 1, 0, none⟩)) (vE zv))) k w :=
  fin_en h.b7 h.f7 (by omega) hk hq
/-- The way in: the three variables. -/
theorem put_in {e : En} {K : Value → Value → Value → World → Prop} (hq : ∀ w', PV w w' e e0 0 → K0 w w' → siz w + 2 < siz w' → K (.pointer (some ⟨siz w, 0, none⟩)) (.pointer (some ⟨siz w + 1, 0, none⟩)) (.pointer (some ⟨siz w + 2, 0, none⟩)) w') :
    act Try.prog (Instr.box 49 (vE e)) (fun t5 w1 => act Try.prog (Instr.alloc 49 true (.tuple #[])) (fun t7 w2 => act Try.prog (Instr.alloc 79 true (.tuple #[])) (fun t10 w3 => K t5 t7 t10 w3) w2) w1) w := by
  rw [act_box, al_49, al_79, agg_cells]
  generalize hw1 : w.alloc _ = w1
  have b1 : blk w1 (siz w) = some (.cells (encE e).toArray 49) := by rw [← hw1]; exact blk_alloc_new
  have k1 : K0 w w1 := by rw [← hw1]; exact (K0.refl w).alloc _
  have s1 : siz w1 = siz w + 1 := by rw [← hw1, siz_alloc]
  generalize hw2 : w1.alloc _ = w2
  have b2 : blk w2 (siz w1) = some (.cells (encE e0).toArray 49) := by rw [← hw2]; exact blk_alloc_new
  have k2 : K0 w1 w2 := by rw [← hw2]; exact (K0.refl w1).alloc _
  have s2 : siz w2 = siz w + 2 := by rw [← hw2, siz_alloc, s1]
  generalize hw3 : w2.alloc _ = w3
  have b3 : blk w3 (siz w2) = some (.cells #[.int .i64 0, .int .i64 0, .int .u64 0, .string ⟨#[]⟩, .bool false, .int .u64 0, .int .i64 0, .pointer none, .pointer none] 79) := by rw [← hw3]; exact blk_alloc_new
  have k3 : K0 w2 w3 := by rw [← hw3]; exact (K0.refl w2).alloc _
  have s3 : siz w3 = siz w + 3 := by rw [← hw3, siz_alloc, s2]
  rw [s1, s2]
  rw [s1] at b2
  rw [s2] at b3
  have b1 := k3.blk (k2.blk b1 (by exact fun h => h)) (by exact fun h => h)
  have b2 := k3.blk b2 (by exact fun h => h)
  refine hq _ { b5 := enAt_new b1, b7 := (enAt_new b2).is, f7 := fre_b b2, k10 := by rw [cel_b b3]; rfl, v10 := fun j hj => ?_, f10 := fre_b b3 } ((k1.trans k2).trans k3) (by omega)
  rw [cel_b b3, List.getElem?_toArray]
  rcases (show j = 0 ∨ j = 1 ∨ j = 2 ∨ j = 3 ∨ j = 4 by omega) with rfl | rfl | rfl | rfl | rfl <;> rfl
theorem put_old {A C : List Nd} {n : Nd} {e : En} (h : Rep isI64 B w c mb room (A ++ n :: C))
    (hq : ∀ w', Rep isI64 B w' c mb room ({ n with v := e } :: (A ++ C)) → Keep (foot c mb (A ++ n :: C)) w w' → Q (.tuple #[.int .i64 0, vE e0, .bool false, .bool true]) w') :
    callS Try.prog 23 #[.pointer (some ⟨c, 0, none⟩), n.k, vE e] Q w := by
  refine ref23 ?_
  unfold S23
  refine put_in fun w1 v1 k1 s1 => ?_
  have h1 := h.keep0 k1
  refine find_hit h1 (n := n) (by simp) ?_
  have hn := h1.node n (by simp)
  simp only [stp, Nat.reduceAdd, Int.reduceLT, Int.reduceLE, Int.reduceEq, Int.reduceNe, ne_eq, bne_self_eq_false, beq_self_eq_true]
  rw [ld_en v1.b5]
  have hall : ∀ j, j < 5 → (cel w1 n.b (1 + j)).isSome = true := EnAt.is hn.v
  rw [st_en hall hn.fre]
  have h2 := h1.setV (v := e)
  have k2 : Keep (foot c mb (A ++ n :: C)) w1 (stoL w1 n.b 1 (encE e)) := Keep.stoL _ 1 (Keep.refl _ _) (.inl (.inr (.inr ⟨n, by simp, rfl⟩)))
  generalize stoL w1 n.b 1 (encE e) = w2 at h2 k2
  refine use_c (n := { n with v := e }) h2 fun w3 h3 k3 _ => ?_
  have gn : ∀ i, ¬ foot c mb (A ++ n :: C) (siz w + i) := fun i e => by have := h.lt e; omega
  have k13 : Keep (foot c mb (A ++ n :: C)) w1 w3 := k2.trans (k3.mono fun b _ hb => foot_set hb)
  have v3 := v1.keep k13 (gn 0) (gn 1) (gn 2)
  have v3d : PV w w3.drew e e0 0 := v3.keep ((K0.refl w3).drew) (by exact fun h => h) (by exact fun h => h) (by exact fun h => h)
  have k3d : Keep (foot c mb (A ++ n :: C)) w w3.drew := (k1.none.trans k13).drew
  have z : cel w3 (siz w + 2) 0 = some (.int .i64 0) := v3.k10
  simp only [stp, Nat.reduceAdd, Int.reduceLT, Int.reduceLE, Int.reduceEq, Int.reduceNe, ne_eq, bne_self_eq_false, beq_self_eq_true, stm, z]
  rw [ld_en v3d.v10]
  refine fin_put v3d k3d fun w4 k4 k34 e4 => ?_
  rw [ld_en e4]
  refine hq _ (h3.drew.keep k34 fun b hb e => ?_) k4
  subst e
  exact gn 1 (foot_set (foot_use hb))
/-- A key that is not there. -/
theorem put_miss {k : Value} {e : En} (h : Rep isI64 B w c mb room L) (hB : B ≤ siz w) (hk : isI64 k) (hn : ∀ n ∈ L, n.k ≠ k)
    (hq0 : ∀ w', (room = 0 ∨ (room ≤ L.length ∧ ∀ m ∈ L, m.p ≠ 0)) → Rep isI64 B w' c mb room L → Keep (foot c mb L) w w' → Q (.tuple #[.int .i64 0, vE e0, .bool false, .bool false]) w')
    (hqE : ∀ A n C, L = A ++ n :: C → n.p = 0 → (∀ m ∈ C, m.p ≠ 0) → room ≤ L.length → ∀ w' b, siz w ≤ b → Rep isI64 B w' c mb room (⟨b, k, e, 0⟩ :: (A ++ C)) → Keep (foot c mb L) w w' → Q (.tuple #[n.k, vE n.v, .bool true, .bool true]) w')
    (hqN : L.length < room → ∀ w' b, siz w ≤ b → Rep isI64 B w' c mb room (⟨b, k, e, 0⟩ :: L) → Keep (foot c mb L) w w' → Q (.tuple #[.int .i64 0, vE e0, .bool false, .bool true]) w') :
    callS Try.prog 23 #[.pointer (some ⟨c, 0, none⟩), k, vE e] Q w := by
  refine ref23 ?_
  unfold S23
  refine put_in fun w1 v1 k1 s1 => ?_
  have h1 := h.keep0 k1
  have gn : ∀ i, ¬ foot c mb L (siz w + i) := fun i e => by have := h.lt e; omega
  refine find_miss h1 hk hn ?_
  simp only [stp, Nat.reduceAdd, Int.reduceLT, Int.reduceLE, Int.reduceEq, Int.reduceNe, ne_eq, bne_self_eq_false, beq_self_eq_true]
  refine room_c h1 ?_
  simp only [stp, Nat.reduceAdd, Int.reduceLT, Int.reduceLE, Int.reduceEq, Int.reduceNe, ne_eq, bne_self_eq_false, beq_self_eq_true]
  by_cases hr0 : room = 0
  · have hr0' : (room : Int) = 0 := by omega
    have v1d : PV w w1.drew e e0 0 := v1.keep ((K0.refl w1).drew) (by exact fun h => h) (by exact fun h => h) (by exact fun h => h)
    have z : cel w1 (siz w + 2) 0 = some (.int .i64 0) := v1.k10
    simp only [stp, Nat.reduceAdd, Int.reduceLT, Int.reduceLE, Int.reduceEq, Int.reduceNe, ne_eq, bne_self_eq_false, beq_self_eq_true, stm, hr0', z]
    rw [ld_en v1d.v10]
    refine fin_put (F := foot c mb L) v1d k1.drew.none fun w4 k4 k34 e4 => ?_
    rw [ld_en e4]
    exact hq0 _ (.inl hr0) (h1.drew.keep k34 fun b hb e => gn 1 (e ▸ hb)) k4
  have hr0' : ¬ ((room : Int) = 0) := by omega
  simp only [stp, Nat.reduceAdd, Int.reduceLT, Int.reduceLE, Int.reduceEq, Int.reduceNe, ne_eq, bne_self_eq_false, beq_self_eq_true, hr0']
  refine jn1 (fun x w' => ∃ (L' : List Nd) (zk : Int) (zv : En) (out : Bool), x = .bool out ∧ Rep isI64 B w' c mb room L' ∧ L'.length < room ∧ (∀ n ∈ L', n ∈ L) ∧ PV w w' e zv zk ∧
      Keep (foot c mb L) w w' ∧ siz w + 2 < siz w' ∧ ∀ w' b, siz w ≤ b → Rep isI64 B w' c mb room (⟨b, k, e, 0⟩ :: L') → Keep (foot c mb L) w w' → Q (.tuple #[.int .i64 zk, vE zv, .bool out, .bool true]) w') (fun J hJ => ?_) ?_
  · obtain ⟨l, hl, hp⟩ := h1.kv
    have v1d : PV w w1.drew e e0 0 := v1.keep ((K0.refl w1).drew) (by exact fun h => h) (by exact fun h => h) (by exact fun h => h)
    simp only [stp, Nat.reduceAdd, Int.reduceLT, Int.reduceLE, Int.reduceEq, Int.reduceNe, ne_eq, bne_self_eq_false, beq_self_eq_true, h1.m, h1.rm, Option.isSome_some, Option.getD_some, cel_drew]
    rw [rd_eq (lm_76 (w := w1.drew) hl)]
    simp only [stp, Nat.reduceAdd, Int.reduceLT, Int.reduceLE, Int.reduceEq, Int.reduceNe, ne_eq, bne_self_eq_false, beq_self_eq_true, h1.m, h1.rm, Option.isSome_some, Option.getD_some, cel_drew, hp.length_eq, List.length_map]
    by_cases hfull : room ≤ L.length
    · have hfull' : (room : Int) ≤ (L.length : Int) := by omega
      simp only [hfull', decide_true, stp, Nat.reduceAdd, Int.reduceLT, Int.reduceLE, Int.reduceEq, Int.reduceNe, ne_eq, bne_self_eq_false, beq_self_eq_true]
      refine idle_c h1.drew (fun A n C hL hn0 hC => ?_) (fun hall => ?_)
      · subst hL
        obtain ⟨p, q, i, r, hi, hqr, hs, hap, a1, a2, a3, a4, l1, l2⟩ := h1.drew.around
        obtain ⟨mp', mq⟩ := beside (n := n) hi hqr
        have hs' := seg_off hap hs a1 a2 a3 a4
        simp only [stp, Nat.reduceAdd, Int.reduceLT, Int.reduceLE, Int.reduceEq, Int.reduceNe, ne_eq, bne_self_eq_false, beq_self_eq_true]
        refine off_c (p := p) (q := q) l1.2 (by have := l2.1; simpa only [Nd.pl, Nat.zero_add] using this) (h1.drew.pl_fre mp') (h1.drew.pl_fre mq) (by rw [l1.1]; rfl) (by rw [l2.2]; rfl) ?_
        have hnn := h1.drew.node n (by simp)
        have hnb := h1.nb
        have hst := off_still (w := w1.drew) mp' mq
        have c0 : cel (offW w1.drew p q) n.b 0 = some n.k := by rw [hst _ _ ⟨fun e => hnb.1 e.1, by omega⟩]; exact hnn.k
        have c1 : EnAt (offW w1.drew p q) n.b 1 n.v := fun j hj => by rw [hst _ _ ⟨fun e => hnb.1 e.1, by omega⟩]; exact hnn.v j hj
        have em : cel (offW w1.drew p q) c 0 = some (.map (some mb)) := by rw [hst _ _ ⟨by omega, by omega⟩]; exact h1.drew.m
        simp only [stp, Nat.reduceAdd, Int.reduceLT, Int.reduceLE, Int.reduceEq, Int.reduceNe, ne_eq, bne_self_eq_false, beq_self_eq_true, cel_drew, c0, em, Option.isSome_some, Option.getD_some]
        have hmp : mp (offW w1.drew p q) mb = some l := by rw [mp_off (h1.mb_pl mp') (h1.mb_pl mq)]; exact hl
        obtain ⟨zk, hzk⟩ := h1.okk n (by simp)
        refine md_76 (w := (offW w1.drew p q).drew) hmp (h1.okKv hp) (h1.okk n (by simp)) fun w2 hm2 => ?_
        have hm2' : MapTo (offW w1.drew p q) w2 mb (adel n.k l) := ⟨hm2.os, hm2.tape, hm2.output, hm2.size, hm2.map, hm2.block⟩
        have h2 := h1.drew.del hi hqr hs' hp hm2'
        have hnm : n.b ≠ mb := fun e => (h1.mb_ne (h1.node n (by simp)).fre) e.symm
        have f0 : cel w2 n.b 0 = some n.k := by rw [cel, hm2.block _ hnm]; exact c0
        have f1 : EnAt w2 n.b 1 n.v := fun j hj => by rw [cel, hm2.block _ hnm]; exact c1 j hj
        have kk : Keep (foot c mb (A ++ n :: C)) w1 w2 := by
          have ka : Keep (foot c mb (A ++ n :: C)) w1 (offW w1.drew p q) := (Keep.refl _ w1).drew.trans (keep_off (.inl (pl_foot mp')) (.inl (pl_foot mq)))
          have kb := hm2'.keep.mono (F' := foot c mb (A ++ n :: C)) (fun b _ e => .inr (.inl e))
          exact ka.trans kb
        have v2 := v1.keep kk (gn 0) (gn 1) (gn 2)
        have v2d : PV w w2.drew e e0 0 := v2.keep ((K0.refl w2).drew) (by exact fun h => h) (by exact fun h => h) (by exact fun h => h)
        have hgn : n.b ≠ siz w + 2 := fun e => gn 2 (.inr (.inr ⟨n, by simp, e.symm⟩))
        have hsub : ∀ m ∈ A ++ C, m ∈ A ++ n :: C := fun m hm => by rcases List.mem_append.1 hm with h | h <;> simp [h]
        -- what is left behind the two stores, in whichever order
        have fin : ∀ w3, Keep (fun b => b = siz w + 2) w2 w3 → cel w3 (siz w + 2) 0 = some n.k → EnAt w3 (siz w + 2) 1 n.v → fre w3 (siz w + 2) = true → J (.bool true) w3 := fun w3 k23 z0 z1 zf => by
          refine hJ _ _ ⟨A ++ C, zk, n.v, true, rfl, h2.keep k23 (fun b hb e => gn 2 (by
            subst e
            rcases hb with e | e | ⟨m, hm, e⟩
            · exact .inl e
            · exact .inr (.inl e)
            · exact .inr (.inr ⟨m, hsub m hm, e⟩))), ?_, hsub, ?_, ?_, ?_, fun w' b hb hr hkp => ?_⟩
          · have := h.len; simp only [List.length_append, List.length_cons] at this ⊢; omega
          · have v3 := v2
            exact { b5 := v3.b5.keep k23 (by show ¬ siz w = siz w + 2; omega)
                    b7 := fun j hj => by
                      obtain ⟨u, hu⟩ := Option.isSome_iff_exists.1 (v3.b7 j hj)
                      rw [k23.cel hu (by show ¬ siz w + 1 = siz w + 2; omega)]; rfl
                    f7 := k23.fre v3.f7 (by show ¬ siz w + 1 = siz w + 2; omega)
                    k10 := by rw [z0, hzk]
                    v10 := z1
                    f10 := zf }
          · exact (k1.none.trans kk).trans' k23 (fun b hb e => by omega)
          · have := kk.size; have := k23.size; omega
          · have := hqE A n C rfl hn0 hC hfull w' b hb hr hkp
            rw [hzk] at this
            exact this
        refine jn1 (fun x w' => x = .bool true ∧ J (.bool true) w') (fun J1 hJ1 => ?_) (fun x w' ⟨hx, hj⟩ _ => by rw [hx]; exact hj)
        simp only [stp, Nat.reduceAdd, Int.reduceLT, Int.reduceLE, Int.reduceEq, Int.reduceNe, ne_eq, bne_self_eq_false, beq_self_eq_true, stm, f0]
        have f1d : EnAt w2.drew n.b 1 n.v := f1
        have on := one_ok (h1.okk n (by simp))
        have i0 : (cel w2.drew (siz w + 2) 0).isSome = true := by rw [v2d.k10]; rfl
        have ks : Keep (fun b => b = siz w + 2) w2.drew (sto w2.drew (siz w + 2) 0 n.k) := (Keep.refl (fun b => b = siz w + 2) w2.drew).sto (.inl rfl) _ _
        have f1s : EnAt (sto w2.drew (siz w + 2) 0 n.k) n.b 1 n.v := f1d.keep ks hgn
        have v1s : ∀ j, j < 5 → (cel (sto w2.drew (siz w + 2) 0 n.k) (siz w + 2) (1 + j)).isSome = true := fun j hj => by
          rw [cel_sto_ne (by omega)]
          exact v2d.v10.is j hj
        have fs : fre (sto w2.drew (siz w + 2) 0 n.k) (siz w + 2) = true := by rw [fre_sto]; exact v2d.f10
        have go : act Try.prog (thenU (Instr.storeAt 49 (.pointer (some ⟨siz w + 2, 1, none⟩)) (vE n.v))) (fun _ w15 => J1 (.bool true) w15) (sto w2.drew (siz w + 2) 0 n.k) := by
          rw [st_en v1s fs]
          refine hJ1 _ _ ⟨rfl, fin _ ?_ ?_ (enAt_sto v1s) ?_⟩
          · exact ((Keep.refl (fun b => b = siz w + 2) w2).drew).trans (Keep.stoL _ 1 ks (.inl rfl))
          · rw [cel_stoL (encE n.v) v1s, if_neg (by omega), cel_sto_same i0]
          · rw [fre_stoL]; exact fs
        refine ⟨?_, ?_⟩
        · rw [ld_en f1d, st_3 on i0 v2d.f10]
          exact go
        · rw [st_3 on i0 v2d.f10, ld_en f1s]
          exact go
      · have z : cel w1 (siz w + 2) 0 = some (.int .i64 0) := v1.k10
        have v1dd : PV w w1.drew.drew e e0 0 := v1d.keep ((K0.refl w1.drew).drew) (by exact fun h => h) (by exact fun h => h) (by exact fun h => h)
        simp only [stp, Nat.reduceAdd, Int.reduceLT, Int.reduceLE, Int.reduceEq, Int.reduceNe, ne_eq, bne_self_eq_false, beq_self_eq_true, stm, z]
        rw [ld_en v1dd.v10]
        refine fin_put (F := foot c mb L) v1dd k1.drew.drew.none fun w4 k4 k34 e4 => ?_
        rw [ld_en e4]
        exact hq0 _ (.inr ⟨hfull, hall⟩) (h1.drew.drew.keep k34 fun b hb e => gn 1 (e ▸ hb)) k4
    · have hfull' : ¬ ((room : Int) ≤ (L.length : Int)) := by omega
      simp only [hfull', decide_false, stp, Nat.reduceAdd, Int.reduceLT, Int.reduceLE, Int.reduceEq, Int.reduceNe, ne_eq, bne_self_eq_false, beq_self_eq_true]
      exact hJ _ _ ⟨L, 0, e0, false, rfl, h1.drew, by omega, fun _ h => h, v1d, k1.drew.none, by rw [siz_drew]; omega, fun w' b hb hr hkp => hqN (by omega) w' b hb hr hkp⟩
  · rintro x w2 ⟨L', zk, zv, out, rfl, h2, hlen, hsub, v2, k2, s2, hfin⟩ _
    have ok1 := one_ok hk
    rw [ld_en v2.b5]
    simp only [stp, Nat.reduceAdd, Int.reduceLT, Int.reduceLE, Int.reduceEq, Int.reduceNe, ne_eq, bne_self_eq_false, beq_self_eq_true, ok1]
    generalize hw3 : w2.alloc _ = w3
    have h3 : Rep isI64 B w3 c mb room L' := hw3 ▸ h2.alloc _
    have b3 : blk w3 (siz w2) = some (.cells #[k, .int .i64 e.1, .int .u64 e.2.1, .string e.2.2.1, .bool e.2.2.2.1, .int .u64 e.2.2.2.2, .int .i64 0, .pointer none, .pointer none] 79) := by rw [← hw3]; exact blk_alloc_new
    have kz : K0 w2 w3 := hw3 ▸ (K0.refl w2).alloc _
    have x0 : cel w3 (siz w2) 0 = some k := by rw [cel_b b3]; rfl
    have x1 : EnAt w3 (siz w2) 1 e := fun j hj => by
      rw [cel_b b3, List.getElem?_toArray]
      rcases (show j = 0 ∨ j = 1 ∨ j = 2 ∨ j = 3 ∨ j = 4 by omega) with rfl | rfl | rfl | rfl | rfl <;> rfl
    have x2 : cel w3 (siz w2) 6 = some (.int .i64 ((0 : Nat) : Int)) := by rw [cel_b b3]; rfl
    have x3 : cel w3 (siz w2) 7 = some (.pointer none) := by rw [cel_b b3]; rfl
    have x4 : cel w3 (siz w2) 8 = some (.pointer none) := by rw [cel_b b3]; rfl
    have xf : fre w3 (siz w2) = true := fre_b b3
    have v3 := v2.keep kz (by exact fun h => h) (by exact fun h => h) (by exact fun h => h)
    have k3 : Keep (foot c mb L) w w3 := k2.trans kz.none
    have s3 : siz w3 = siz w2 + 1 := by rw [← hw3, siz_alloc]
    have xn : ¬ foot c mb L' (siz w2) := fun e => by have := h2.lt e; omega
    obtain ⟨l, hl, hp⟩ := h3.kv
    simp only [stp, Nat.reduceAdd, Int.reduceLT, Int.reduceLE, Int.reduceEq, Int.reduceNe, ne_eq, bne_self_eq_false, beq_self_eq_true, h3.m, Option.isSome_some, Option.getD_some]
    refine mu_76 hl (h3.okKv hp) hk fun w4 hm4 => ?_
    obtain ⟨f, rf, hf⟩ := begins ((c, 1) : Pl) (L'.map Nd.pl)
    let nd : Nd := ⟨siz w2, k, e, 0⟩
    have hnode : Lrv.Node w3 nd := ⟨x0, x1, x2, xf, ok1⟩
    have h5 := h3.add (x := nd) hp hf xn (by have := k2.size; simp only [nd]; omega) hnode (by rw [show nd.b = siz w2 from rfl, x3]; rfl) (by rw [show nd.b = siz w2 from rfl, x4]; rfl) (fun n hn' => hn n (hsub n hn')) hk hlen hm4
    have fm : foot c mb L' f.1 ∧ f.1 ≠ mb := by
      have hf' : f ∈ ((c, 1) : Pl) :: L'.map Nd.pl := by
        have : f ∈ L'.map Nd.pl ++ [((c, 1) : Pl)] := by rw [hf]; simp
        simp only [List.mem_cons, List.mem_append, List.not_mem_nil, or_false] at this ⊢
        exact this.symm
      exact ⟨pl_foot hf', (h3.mb_pl hf').symm⟩
    have xm : siz w2 ≠ mb := fun e => xn (.inr (.inl e))
    have xc : siz w2 ≠ c := fun e => xn (.inl e)
    have cm : c ≠ mb := (h3.mb_pl (x := (c, 1)) (by simp)).symm
    have c4e : ∀ b o, b ≠ mb → cel w4 b o = cel w3 b o := fun b o hb => by rw [cel, hm4.block b hb]; rfl
    have f4e : ∀ b, b ≠ mb → fre w4 b = fre w3 b := fun b hb => by rw [fre, hm4.block b hb]; rfl
    have hlk := (Rep.link (A := []) (C := L') (by simpa using h3) (i := []) (x := (c, 1)) rfl hf)
    have hfx : f.1 ≠ siz w2 := fun e => xn (e ▸ fm.1)
    have hff : fre w3 f.1 = true := by
      have hf' : f ∈ ((c, 1) : Pl) :: L'.map Nd.pl := by
        have : f ∈ L'.map Nd.pl ++ [((c, 1) : Pl)] := by rw [hf]; simp
        simp only [List.mem_cons, List.mem_append, List.not_mem_nil, or_false] at this ⊢
        exact this.symm
      exact h3.pl_fre hf'
    refine first_c (f := f) (x := nd.pl) (by rw [c4e _ _ cm]; exact hlk.1) rfl xc (by rw [f4e _ cm]; exact h3.fc) (by rw [show nd.pl.1 = siz w2 from rfl, f4e _ xm]; exact xf) (by rw [f4e _ fm.2]; exact hff)
      (by rw [show nd.pl.1 = siz w2 from rfl, c4e _ _ xm, x3]; rfl) (by rw [show nd.pl.1 = siz w2 from rfl, c4e _ _ xm, x4]; rfl) (by rw [c4e _ _ fm.2, hlk.2]; rfl) hfx ?_
    have kf : Keep (fun b => foot c mb L' b ∨ b = siz w2) w3 (fstW w4 (c, 1) nd.pl f) := by
      refine (hm4.keep.mono (F' := fun b => foot c mb L' b ∨ b = siz w2) (fun b _ e => .inl (.inr (.inl e)))).trans ?_
      exact keep_fst (.inl (.inl (.inl rfl))) (.inl (.inr rfl)) (.inl (.inl fm.1))
    have gL' : ∀ i, i ≤ 2 → ¬ (foot c mb L' (siz w + i) ∨ siz w + i = siz w2) := by
      rintro i hi (e | e)
      · rcases e with e | e | ⟨m, hm, e⟩
        · exact gn i (.inl e)
        · exact gn i (.inr (.inl e))
        · exact gn i (.inr (.inr ⟨m, hsub m hm, e⟩))
      · omega
    have v5 := v3.keep kf (gL' 0 (by omega)) (gL' 1 (by omega)) (gL' 2 (by omega))
    generalize fstW w4 (c, 1) nd.pl f = w5 at *
    have k5 : Keep (foot c mb L) w w5 := k3.trans' kf (fun b hb e => by
      rcases e with e | e
      · rcases e with e | e | ⟨m, hm, e⟩
        · exact .inl e
        · exact .inr (.inl e)
        · exact .inr (.inr ⟨m, hsub m hm, e⟩)
      · omega)
    have v5d : PV w w5.drew e zv zk := v5.keep ((K0.refl w5).drew) (by exact fun h => h) (by exact fun h => h) (by exact fun h => h)
    have z : cel w5 (siz w + 2) 0 = some (.int .i64 zk) := v5.k10
    simp only [stp, Nat.reduceAdd, Int.reduceLT, Int.reduceLE, Int.reduceEq, Int.reduceNe, ne_eq, bne_self_eq_false, beq_self_eq_true, stm, z]
    rw [ld_en v5d.v10]
    refine fin_put (F := foot c mb L) v5d k5.drew fun w6 k6 k56 e6 => ?_
    rw [ld_en e6]
    refine hfin _ (siz w2) (by omega) (h5.drew.keep k56 fun b hb e => ?_) k6
    subst e
    rcases hb with e | e | ⟨m, hm, e⟩
    · exact gL' 1 (by omega) (.inl (.inl e))
    · exact gL' 1 (by omega) (.inl (.inr (.inl e)))
    · rcases List.mem_cons.1 hm with rfl | hm
      · have : siz w + 1 = siz w2 := e
        omega
      · exact gL' 1 (by omega) (.inl (.inr (.inr ⟨m, hm, e⟩)))
end
end Go.Proofs.Ytjfookddoaemfaa.Lv
