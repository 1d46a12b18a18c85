/- The cache: what is dirty, the oldest number, room, number of blocks, a block's image. Conditions: as each says. -/
import Derived.Test.YtjfookddoaemfaaCacR
set_option linter.unusedSimpArgs false
set_option linter.unusedVariables false
namespace Go.Proofs.Ytjfookddoaemfaa
open Go.Sh Go.Sh.Lrv Go.Proofs.Ytjfookddoaemfaa.Lv
set_option maxRecDepth 100000
section
variable {w w' : World} {Q : Value → World → Prop} {c lc room : Nat} {es : List En} {F : Nat → Prop}
theorem callF_cap {P : Program} {g : FuncId} {x t : Value} {k : Value → World → Prop} : callF P (.func (.func g) #[] #[t]) #[x] k w = callS P g #[x, t] k w := by
  show callS P g (#[] ++ #[x] ++ #[t]) k w = _
  rw [Array.empty_append]; rfl
/-- No spans: a search in them finds none. -/
theorem containsN_c {f : Value} (hq : Q (.bool false) w) : callS Try.prog 32 #[.slice none 0 0, f] Q w := by
  refine ref32 ?_
  unfold S32
  refine ref51 ?_
  unfold S51
  simp only [stp, Nat.reduceAdd, Int.reduceLT, Int.reduceLE, Int.reduceEq, Int.reduceNe, ne_eq, bne_self_eq_false, beq_self_eq_true]
  refine lp1 (fun m x w' => x = .int .i64 0 ∧ w' = w) 0 ⟨rfl, rfl⟩ ?_
  rintro m x w1 ⟨rfl, rfl⟩ J hJ _j
  simp only [stp, Nat.reduceAdd, Int.reduceLT, Int.reduceLE, Int.reduceEq, Int.reduceNe, ne_eq, bne_self_eq_false, beq_self_eq_true, stm]
  exact hq
theorem dirty1_c {e : En} {t : Nat} (ht : cel w t 0 = some (.slice none 0 0)) (hq : ∀ w', K0 w w' → Q (.bool (decide (¬ (e.2.2.2.1 = true)))) w') : callS Try.prog 31 #[vE e, .pointer (some ⟨t, 0, none⟩)] Q w := by
  refine ref31 ?_
  unfold S31
  simp only [act_box]
  generalize hw1 : w.alloc _ = w1
  have b1 : blk w1 (siz w) = some (.cells (encE e).toArray 49) := by rw [← hw1]; exact blk_alloc_new
  have k1 : K0 w w1 := by rw [← hw1]; exact (K0.refl w).alloc _
  have t1 := k1.cel ht (fun e => e)
  simp only [stp, Nat.reduceAdd, Int.reduceLT, Int.reduceLE, Int.reduceEq, Int.reduceNe, ne_eq, bne_self_eq_false, beq_self_eq_true, t1, Option.isSome_some, Option.getD_some]
  refine containsN_c ?_
  have c3 : cel w1 (siz w) 3 = some (.bool e.2.2.2.1) := cel_b b1 3
  cases hd : e.2.2.2.1
  · rw [hd] at c3
    simp only [stp, Nat.reduceAdd, Int.reduceLT, Int.reduceLE, Int.reduceEq, Int.reduceNe, ne_eq, bne_self_eq_false, beq_self_eq_true, c3, t1, Option.isSome_some, Option.getD_some]
    have := hq _ k1
    rw [hd] at this
    simpa using this
  · rw [hd] at c3
    simp only [stp, Nat.reduceAdd, Int.reduceLT, Int.reduceLE, Int.reduceEq, Int.reduceNe, ne_eq, bne_self_eq_false, beq_self_eq_true, stm, c3, t1, Option.isSome_some, Option.getD_some, gt_iff_lt]
    have e00 : decide ((0 : Int) < ((0 : Nat) : Int)) = false := rfl
    simp only [stp, Nat.reduceAdd, Int.reduceLT, Int.reduceLE, Int.reduceEq, Int.reduceNe, ne_eq, bne_self_eq_false, beq_self_eq_true, stm, e00]
    have := hq _ k1
    rw [hd] at this
    simpa using this
def dirtyL (es : List En) : List En := es.filter (fun e => e.2.2.2.1)
theorem dirty_c (h : CS w c room es F) (hq : ∀ w' v' l' A, siz w ≤ A → l'.Perm (dirtyL es) → (l'.length ≤ 20 → SrtD l' 0 l'.length) → Sh.Own w' A 49 5 v' l'.length (flat encE l') → K0 w w' → Q v' w') :
    callS Try.prog 15 #[.pointer (some ⟨c, 0, none⟩), .slice none 0 0] Q w := by
  refine ref15 ?_
  unfold S15
  have hlen := h.len
  rw [act_box]
  generalize hw1 : w.alloc _ = w1
  have b1 : blk w1 (siz w) = some (.cells #[.slice none 0 0] 65) := by rw [← hw1]; exact blk_alloc_new
  have k1 : K0 w w1 := by rw [← hw1]; exact (K0.refl w).alloc _
  have s1 : siz w1 = siz w + 1 := by rw [← hw1, siz_alloc]
  refine aLL_c (h.keep0 k1) fun w2 v l A hA hp o2 k2 => ?_
  have hll := hp.length_eq
  have t2 : cel w2 (siz w) 0 = some (.slice none 0 0) := k2.cel (cel_b b1 0) (fun e => e)
  simp only [stp, Nat.reduceAdd, Int.reduceLT, Int.reduceLE, Int.reduceEq, Int.reduceNe, ne_eq, bne_self_eq_false, beq_self_eq_true]
  refine ee_delete (P := fun e => ¬ (e.2.2.2.1 = true)) o2 (by omega) (fun w3 s Q k hs hq => ?_) fun w3 v3 l3 hl3 o3 k3 hv3 => ?_
  · rw [callF_cap]
    refine dirty1_c (k.cel t2 fun e => ?_) hq
    have := (Sh.Own.lt o2 e).1
    omega
  · have hpl : l3.Perm (dirtyL es) := by
      rw [hl3]
      have e : (fun s : En => decide (¬ ¬ (s.2.2.2.1 = true))) = fun e : En => e.2.2.2.1 := by funext s; cases s.2.2.2.1 <;> rfl
      rw [e]
      exact hp.filter _
    have hle : l3.length ≤ 1000000 := by
      have h1 := List.length_filter_le (fun e : En => e.2.2.2.1) es
      have h2 := hpl.length_eq
      unfold dirtyL at h2
      omega
    have kk3 : K0 w w3 := (k1.trans k2).trans' k3 fun b hb e => by have := (Sh.Own.lt o2 e).1; omega
    refine sstable_c hle o3 fun w4 d o4 hp4 hs4 k4 => ?_
    have hdl := hp4.length_eq
    refine hq w4 v3 d A (by omega) (hp4.trans hpl) (by rw [hdl]; exact hs4) (by rw [hdl]; exact o4) (kk3.trans' k4 fun b hb e => by have := (Sh.Own.lt o3 e).1; omega)
theorem dlen_c (h : CS w c room es F) (hq : ∀ w', K0 w w' → Q (.int .i64 ((room : Int) - (dirtyL es).length)) w') : callS Try.prog 9 #[.pointer (some ⟨c, 0, none⟩)] Q w := by
  refine ref9 ?_
  unfold S9
  have hlen := h.len
  have h0 := h
  obtain ⟨lc, hc, hFc, mb, L, hr, hF, hp, hen⟩ := h
  refine all_c hc ?_
  refine room_c hr ?_
  refine dirty_c h0 fun w1 v l A hA hpl hs o1 k1 => ?_
  obtain ⟨a, cp, rfl⟩ := o1.form
  have hll := hpl.length_eq
  have hle := List.length_filter_le (fun e : En => e.2.2.2.1) es
  have hw : IntKind.i64.wrap ((room : Int) - (l.length : Int)) = (room : Int) - (dirtyL es).length := by rw [wrap_id (by unfold dirtyL at hll; omega) (by omega), hll]
  simp only [stp, Nat.reduceAdd, Int.reduceLT, Int.reduceLE, Int.reduceEq, Int.reduceNe, ne_eq, bne_self_eq_false, beq_self_eq_true, hw]
  exact hq _ k1
theorem clen_c (h : CS w c room es F) (hq : Q (.int .i64 (es.length : Int)) w) : callS Try.prog 14 #[.pointer (some ⟨c, 0, none⟩)] Q w := by
  refine ref14 ?_
  unfold S14
  obtain ⟨lc, hc, hFc, mb, L, hr, hF, hp, hen⟩ := h
  refine all_c hc ?_
  refine len_c hr ?_
  have := hp.length_eq
  rw [List.length_map] at this
  rw [this]
  exact hq
theorem oldest_c (h : CS w c room es F) (hq : ∀ w' l, K0 w w' → l.Perm (dirtyL es) → (l.length ≤ 20 → SrtD l 0 l.length) → Q (.int .u64 ((l.head?.map (fun e => e.2.2.2.2)).getD 0)) w') : callS Try.prog 17 #[.pointer (some ⟨c, 0, none⟩)] Q w := by
  refine ref17 ?_
  unfold S17
  refine dirty_c h fun w1 v l A hA hpl hs o1 k1 => ?_
  cases l with
  | nil =>
    obtain ⟨a, cp, rfl⟩ := o1.form
    simp only [stp, Nat.reduceAdd, Int.reduceLT, Int.reduceLE, Int.reduceEq, Int.reduceNe, ne_eq, bne_self_eq_false, beq_self_eq_true, List.length_nil, Int.ofNat_zero]
    exact hq _ [] k1 hpl hs
  | cons e l =>
    obtain ⟨g, cp, rfl, _, _, _, _, _, hcel⟩ := Sh.Own.at o1 (by simp)
    have h4 : cel w1 g 4 = some (.int .u64 e.2.2.2.2) := hcel 4 (by simp; omega)
    have hn : ¬ (((e :: l).length : Nat) : Int) = 0 := by simp; omega
    simp only [stp, Nat.reduceAdd, Int.reduceLT, Int.reduceLE, Int.reduceEq, Int.reduceNe, ne_eq, bne_self_eq_false, beq_self_eq_true, hn]
    rw [show (Value.int .i64 (0 : Int)) = Value.int .i64 ((0 : Nat) : Int) from rfl, ixE (by simp)]
    simp only [Nat.zero_mul, Nat.zero_add, stp, Nat.reduceAdd, Int.reduceLT, Int.reduceLE, Int.reduceEq, Int.reduceNe, ne_eq, bne_self_eq_false, beq_self_eq_true, h4, Option.isSome_some, Option.getD_some]
    exact hq _ (e :: l) k1 hpl hs
/-! ### images -/
theorem LS.hit (h : LS w lc room es F) {e : En} (he : e ∈ es) : ∃ mb A n C, Rep isI64 0 w lc mb room (A ++ n :: C) ∧ (∀ b, foot lc mb (A ++ n :: C) b → F b) ∧ n.v = e ∧ ((A ++ n :: C).map Nd.v).Perm es ∧ ∀ n' ∈ A ++ n :: C, Ent n' := by
  obtain ⟨mb, L, h1, h2, h3, h4⟩ := h
  obtain ⟨n, hn, rfl⟩ := List.mem_map.1 (h3.mem_iff.2 he)
  obtain ⟨A, C, rfl⟩ := List.append_of_mem hn
  exact ⟨mb, A, n, C, h1, h2, rfl, h3, h4⟩
theorem ent_miss {L : List Nd} {k : Int} (h3 : (L.map Nd.v).Perm es) (h4 : ∀ n ∈ L, Ent n) (hm : ∀ e ∈ es, e.1 ≠ k) : ∀ n ∈ L, n.k ≠ .int .i64 k := fun n hn e => by
  rw [(h4 n hn).1] at e
  injection e with _ e
  exact hm n.v (h3.mem_iff.1 (List.mem_map_of_mem (f := Nd.v) hn)) e
theorem isI (k : Int) : isI64 (.int .i64 k) := ⟨k, rfl⟩
/-- What a step of the cache keeps. -/
structure St (F F' : Nat → Prop) (w w' : World) : Prop where
  keep : Keep F w w'
  sub : ∀ b, F' b → F b ∨ siz w ≤ b
theorem St.refl (F : Nat → Prop) (w : World) : St F F w w := ⟨Keep.refl _ _, fun _ h => .inl h⟩
theorem St.of0 (k : K0 w w') : St F F w w' := ⟨k.none, fun _ h => .inl h⟩
theorem St.trans {F F' F'' : Nat → Prop} {w w' w'' : World} (h : St F F' w w') (h' : St F' F'' w' w'') : St F F'' w w'' :=
  ⟨h.keep.trans' h'.keep fun b hb hf => (h.sub b hf).resolve_right (by omega), fun b hb => (h'.sub b hb).elim (fun h1 => h.sub b h1) (fun h1 => .inr (Nat.le_trans h.keep.size h1))⟩
theorem foot_perm {c mb : Nat} {L L' : List Nd} (h : ∀ n ∈ L', ∃ m ∈ L, n.b = m.b) {b : Nat} (hb : foot c mb L' b) : foot c mb L b := by
  rcases hb with h1 | h1 | ⟨n, hn, rfl⟩
  · exact .inl h1
  · exact .inr (.inl h1)
  · obtain ⟨m, hm, e⟩ := h n hn
    exact .inr (.inr ⟨m, hm, e⟩)
theorem lGet_hit (h : LS w lc room es F) {e : En} (he : e ∈ es) (hq : ∀ w', LS w' lc room es F → Keep F w w' → Q (.tuple #[vE e, .bool true]) w') :
    callS Try.prog 28 #[.pointer (some ⟨lc, 0, none⟩), .int .i64 e.1] Q w := by
  obtain ⟨mb, A, n, C, hr, hF, rfl, hp, hen⟩ := h.hit he
  have hk := (hen n (by simp)).1
  rw [← hk]
  refine get_hit hr fun w1 h1 k1 => hq w1 ⟨mb, n :: (A ++ C), h1, fun b hb => hF b (foot_perm (fun m hm => ⟨m, by simp at hm ⊢; rcases hm with h | h | h <;> simp [h], rfl⟩) hb), ?_, fun m hm => hen m (by simp at hm ⊢; rcases hm with h | h | h <;> simp [h])⟩ (k1.mono fun b _ hb => hF b hb)
  refine List.Perm.trans ?_ hp
  exact (List.perm_middle.symm.map Nd.v)
theorem img0 (hq : ∀ w', K0 w w' → blk w' (siz w) = some (.cells #[.int .i64 0, .int .u64 0, .string ⟨#[]⟩] 30) → Q (.pointer (some ⟨siz w, 0, none⟩)) w') : act Try.prog (Instr.alloc 30 true (.tuple #[])) Q w := by
  rw [al_30]
  exact hq _ ((K0.refl w).alloc _) blk_alloc_new
/-- The end of Get: the image of an entry. -/
theorem get_fin {t4 g : Nat} {e : En} {is : Bool} (b0 : blk w t4 = some (.cells #[.int .i64 0, .int .u64 0, .string ⟨#[]⟩] 30)) (b4 : blk w g = some (.cells (encE e0).toArray 49)) (hg : t4 ≠ g) (hq : ∀ w', Keep (fun b => b = t4 ∨ b = g) w w' → Q (.tuple #[vI e.1 e.2.1 e.2.2.1, .bool is]) w') :
    act Try.prog (thenU (Instr.storeAt 49 (.pointer (some ⟨g, 0, none⟩)) (vE e))) (fun _ w_5 => rd Try.prog (Instr.loadAt 30 (.pointer (some ⟨g, 0, none⟩))) (fun t16 => 
      act Try.prog (thenU (Instr.storeAt 30 (.pointer (some ⟨t4, 0, none⟩)) t16)) (fun _ w_6 => rd Try.prog (resL 30 (.pointer (some ⟨t4, 0, none⟩))) (fun r => Q (.tuple #[r, .bool is]) w_6) w_6) w_5) w_5) w := by
  have ht4 := blk_lt b0
  rw [st_en ((enAt_new b4).is) (fre_b b4)]
  have e5 := enAt_sto (e := e) (enAt_new b4).is
  have k45 : Keep (fun b => b = g) w (stoL w g 0 (encE e)) := Keep.stoL _ _ (Keep.refl _ _) (.inl rfl)
  generalize stoL w g 0 (encE e) = w5 at e5 k45
  obtain ⟨c0, c1, c2, _, _⟩ := e5.cs
  have b5 := k45.blk b0 hg
  have y0 : cel w5 t4 0 = some (.int .i64 0) := cel_b b5 0
  have y1 : cel w5 t4 1 = some (.int .u64 0) := cel_b b5 1
  have y2 : cel w5 t4 2 = some (.string ⟨#[]⟩) := cel_b b5 2
  rw [ld_30 (by rw [c0]; rfl) (by rw [c1]; rfl) (by rw [c2]; rfl), c0, c1, c2]
  simp only [Option.getD_some]
  rw [st_30 one_int one_int one_str (by rw [y0]; rfl) (by rw [y1]; rfl) (by rw [y2]; rfl) (fre_b b5)]
  have b6 := blk_stoL_all (w := w5) (b := t4) (t := 30) (zs := [.int .i64 0, .int .u64 0, .string ⟨#[]⟩]) (xs := [.int .i64 e.1, .int .u64 e.2.1, .string e.2.2.1]) rfl b5
  have k6 : Keep (fun b => b = t4 ∨ b = g) w (stoL w5 t4 0 [Value.int .i64 e.1, .int .u64 e.2.1, .string e.2.2.1]) := Keep.stoL _ _ (k45.mono fun b _ e => .inr e) (.inl (.inl rfl))
  generalize hw6 : stoL w5 t4 0 [Value.int .i64 e.1, .int .u64 e.2.1, .string e.2.2.1] = w6 at b6 k6
  have z0 : cel w6 t4 0 = some (.int .i64 e.1) := cel_b b6 0
  have z1 : cel w6 t4 1 = some (.int .u64 e.2.1) := cel_b b6 1
  have z2 : cel w6 t4 2 = some (.string e.2.2.1) := cel_b b6 2
  rw [show resL 30 (.pointer (some ⟨t4, 0, none⟩)) = Instr.loadAt 30 (.pointer (some ⟨t4, 0, none⟩)) from rfl]
  try simp only [stoL] at hw6
  try simp only [hw6]
  rw [ld_30 (by rw [z0]; rfl) (by rw [z1]; rfl) (by rw [z2]; rfl), z0, z1, z2]
  exact hq _ k6
theorem LS.ltF (h : LS w lc room es F) : LS w lc room es (fun b => F b ∧ b < siz w) := by
  obtain ⟨mb, L, h1, h2, h3, h4⟩ := h
  exact ⟨mb, L, h1, fun b hb => ⟨h2 b hb, h1.lt hb⟩, h3, h4⟩
theorem LS.wide {F' : Nat → Prop} (h : LS w lc room es F) (hF : ∀ b, F b → F' b) : LS w lc room es F' := by
  obtain ⟨mb, L, h1, h2, h3, h4⟩ := h
  exact ⟨mb, L, h1, fun b hb => hF b (h2 b hb), h3, h4⟩
theorem cel_lt' {b o : Nat} {v : Value} (h : cel w b o = some v) : b < siz w := by
  rcases Nat.lt_or_ge b (siz w) with h1 | h1
  · exact h1
  · rw [cel, blk, Array.getElem?_eq_none h1] at h
    cases h
theorem cget_hit (h : CS w c room es F) {e : En} (he : e ∈ es) (hq : ∀ w', CS w' c room es F → Keep F w w' → Q (.tuple #[vI e.1 e.2.1 e.2.2.1, .bool true]) w') :
    callS Try.prog 13 #[.pointer (some ⟨c, 0, none⟩), .int .i64 e.1] Q w := by
  refine ref13 ?_
  unfold S13
  refine img0 fun w1 k1 b1 => ?_
  obtain ⟨lc, hc, hFc, hl⟩ := h
  have hcs := cel_lt' hc
  have hc1 := k1.cel hc (fun e => e)
  have hl1 := hl.ltF.keep k1 (fun _ _ e => e)
  refine all_c hc1 ?_
  refine lGet_hit hl1 he fun w2 h2 k2 => ?_
  simp only [stp, Nat.reduceAdd, Int.reduceLT, Int.reduceLE, Int.reduceEq, Int.reduceNe, ne_eq, bne_self_eq_false, beq_self_eq_true]
  generalize hw4 : w2.alloc _ = w4
  have b4 : blk w4 (siz w2) = some (.cells (encE e0).toArray 49) := by rw [← hw4]; exact blk_alloc_new
  have k4 : K0 w2 w4 := by rw [← hw4]; exact (K0.refl w2).alloc _
  have b2 := k2.blk b1 (fun e => by have := e.2; omega)
  have hs2 := blk_lt b2
  have c2 := k2.cel hc1 (fun e => hFc e.1)
  refine get_fin (k4.blk b2 fun e => e) b4 (by omega) fun w3 k3 => ?_
  have k14 : Keep F w w4 := (k1.none.trans (k2.mono fun b _ e => e.1)).trans k4.none
  have hsz := k1.size
  have k13 : Keep F w w3 := k14.trans' k3 fun b hb e => by omega
  refine hq w3 ⟨lc, k3.cel (k4.cel c2 fun e => e) (fun e => by omega), hFc, ((h2.keep k4 (fun _ _ e => e)).keep k3 fun b hb e => by have := hb.2; omega).wide fun b hb => hb.1⟩ k13
theorem lGet_miss (h : LS w lc room es F) {k : Int} (hm : ∀ e ∈ es, e.1 ≠ k) (hq : ∀ w', K0 w w' → Q (.tuple #[vE e0, .bool false]) w') :
    callS Try.prog 28 #[.pointer (some ⟨lc, 0, none⟩), .int .i64 k] Q w := by
  obtain ⟨mb, L, hr, hF, hp, hen⟩ := h
  exact get_miss hr (isI k) (ent_miss hp hen hm) hq
theorem cget_miss (h : CS w c room es F) {k : Int} (hm : ∀ e ∈ es, e.1 ≠ k) (hq : ∀ w', K0 w w' → Q (.tuple #[vI 0 0 ⟨#[]⟩, .bool false]) w') :
    callS Try.prog 13 #[.pointer (some ⟨c, 0, none⟩), .int .i64 k] Q w := by
  refine ref13 ?_
  unfold S13
  refine img0 fun w1 k1 b1 => ?_
  obtain ⟨lc, hc, hFc, hl⟩ := h.keep0 k1
  refine all_c hc ?_
  refine lGet_miss hl hm fun w2 k2 => ?_
  simp only [stp, Nat.reduceAdd, Int.reduceLT, Int.reduceLE, Int.reduceEq, Int.reduceNe, ne_eq, bne_self_eq_false, beq_self_eq_true]
  generalize hw4 : w2.alloc _ = w4
  have b4 : blk w4 (siz w2) = some (.cells (encE e0).toArray 49) := by rw [← hw4]; exact blk_alloc_new
  have k4 : K0 w2 w4 := by rw [← hw4]; exact (K0.refl w2).alloc _
  have b2 := k2.blk b1 (fun e => e)
  have hs2 := blk_lt b2
  refine get_fin (k4.blk b2 fun e => e) b4 (by omega) fun w3 k3 => ?_
  have hsz := k1.size
  exact hq w3 (((k1.trans k2).trans k4).trans' k3 fun b hb e => by omega)
end
end Go.Proofs.Ytjfookddoaemfaa
