/- The cache: what Fill and Change do, case by case; the chapter's alive. Conditions: as each says. -/
import Derived.Test.YtjfookddoaemfaaCacY
set_option linter.unusedSimpArgs false
set_option linter.unusedVariables false
namespace Go.Proofs.Ytjfookddoaemfaa
open Go.Sh Go.Sh.Lrv Go.Proofs.Ytjfookddoaemfaa.Lv
set_option maxRecDepth 100000
section
variable {w w' : World} {Q : Value → World → Prop} {c lc room : Nat} {es es' : List En} {F : Nat → Prop}
theorem fill_new {e : En} {ok : Bool} (h : FillR room es e es' ok) (hm : ∀ x ∈ es, x.1 ≠ e.1) (hl : es.length < room) : ok = true ∧ es' = e :: es := by
  rcases h with ⟨_, _, ⟨x, hx, he⟩ | ⟨_, hf, _⟩⟩ | ⟨h1, _, ⟨_, h2⟩ | ⟨hf, _⟩⟩
  · exact absurd he (hm x hx)
  · omega
  · exact ⟨h1, h2⟩
  · omega
theorem fill_full {e : En} {ok : Bool} (h : FillR room es e es' ok) (hl : room ≤ es.length) (hd : ∀ x ∈ es, x.2.2.2.1 = true) : ok = false ∧ es' = es := by
  rcases h with ⟨h1, h2, _⟩ | ⟨h1, _, ⟨hlt, _⟩ | ⟨_, x, r, hp, hx, _⟩⟩
  · exact ⟨h1, h2⟩
  · omega
  · have := hd x (hp.mem_iff.2 (List.mem_cons_self ..))
    rw [hx] at this; cases this
theorem evict {x y : En} {r r' : List En} (hp : es.Perm (y :: r)) (hr : ∀ z ∈ r, z.2.2.2.1 = true) (hp' : es.Perm (x :: r')) (hx : x.2.2.2.1 = false) : x = y ∧ r'.Perm r := by
  have hxm := hp.mem_iff.1 (hp'.mem_iff.2 (List.mem_cons_self ..))
  rcases List.mem_cons.1 hxm with rfl | h
  · exact ⟨rfl, (hp'.symm.trans hp).cons_inv⟩
  · have := hr x h
    rw [hx] at this; cases this
theorem fill_evict {e y : En} {r : List En} {ok : Bool} (h : FillR room es e es' ok) (hm : ∀ x ∈ es, x.1 ≠ e.1) (hl : room ≤ es.length) (hp : es.Perm (y :: r)) (hy : y.2.2.2.1 = false) (hr : ∀ z ∈ r, z.2.2.2.1 = true) : ok = true ∧ es'.Perm (e :: r) := by
  rcases h with ⟨_, _, ⟨x, hx, he⟩ | ⟨_, _, hd⟩⟩ | ⟨h1, _, ⟨hlt, _⟩ | ⟨_, x, r', hp', hx, h2⟩⟩
  · exact absurd he (hm x hx)
  · have := hd y (hp.mem_iff.2 (List.mem_cons_self ..))
    rw [hy] at this; cases this
  · omega
  · rw [h2]
    exact ⟨h1, (evict hp hr hp' hx).2.cons _⟩
theorem change_new {b v lsn code : Int} {s : ByteArray} (h : ChangeR room es b v s lsn es' code) (h0 : lsn ≠ 0) (hm : ∀ x ∈ es, x.1 ≠ b) (hl : es.length < room) : code = 0 ∧ es' = (b, v, s, true, lsn) :: es := by
  rcases h with ⟨_, _, h | ⟨x, hx, he, _⟩⟩ | ⟨_, _, _, _, hf, _⟩ | ⟨h1, _, ⟨x, r, hp, he, _⟩ | ⟨_, _, h2⟩ | ⟨_, hf, _⟩⟩
  · exact absurd h h0
  · exact absurd he (hm x hx)
  · omega
  · exact absurd he (hm x (hp.mem_iff.2 (List.mem_cons_self ..)))
  · exact ⟨h1, h2⟩
  · omega
theorem change_full {b v lsn code : Int} {s : ByteArray} (h : ChangeR room es b v s lsn es' code) (h0 : lsn ≠ 0) (hm : ∀ x ∈ es, x.1 ≠ b) (hl : room ≤ es.length) (hd : ∀ x ∈ es, x.2.2.2.1 = true) : code = 10 ∧ es' = es := by
  rcases h with ⟨_, _, h | ⟨x, hx, he, _⟩⟩ | ⟨h1, h2, _⟩ | ⟨_, _, ⟨x, r, hp, he, _⟩ | ⟨_, hf, _⟩ | ⟨_, _, x, r, hp, hx, _⟩⟩
  · exact absurd h h0
  · exact absurd he (hm x hx)
  · exact ⟨h1, h2⟩
  · exact absurd he (hm x (hp.mem_iff.2 (List.mem_cons_self ..)))
  · omega
  · have := hd x (hp.mem_iff.2 (List.mem_cons_self ..))
    rw [hx] at this; cases this
theorem same_head {x y : En} {r r' : List En} (hnd : (es.map (·.1)).Nodup) (hp : es.Perm (x :: r)) (hp' : es.Perm (y :: r')) (he : x.1 = y.1) : x = y ∧ r.Perm r' := by
  have h5 := (hp.map (·.1)).nodup_iff.1 hnd
  have hym := hp.mem_iff.1 (hp'.mem_iff.2 (List.mem_cons_self ..))
  rcases List.mem_cons.1 hym with h | h
  · subst h
    exact ⟨rfl, (hp.symm.trans hp').cons_inv⟩
  · rw [List.map_cons, List.nodup_cons] at h5
    refine absurd ?_ h5.1
    rw [he]
    exact List.mem_map_of_mem (f := (·.1)) h
theorem change_old {b v lsn code : Int} {s : ByteArray} {x : En} {r : List En} (h : ChangeR room es b v s lsn es' code) (h0 : lsn ≠ 0) (hnd : (es.map (·.1)).Nodup) (hp : es.Perm (x :: r)) (hb : x.1 = b) (hv : x.2.1 < v) : code = 0 ∧ es'.Perm ((b, v, s, true, if x.2.2.2.1 = true then min lsn x.2.2.2.2 else lsn) :: r) := by
  have hxm : x ∈ es := hp.mem_iff.2 (List.mem_cons_self ..)
  rcases h with ⟨_, _, h | ⟨y, hy, he, hle⟩⟩ | ⟨_, _, _, hm, _⟩ | ⟨h1, _, ⟨y, r', hp', he, _, h2⟩ | ⟨hm, _⟩ | ⟨hm, _⟩⟩
  · exact absurd h h0
  · obtain ⟨r', hp'⟩ := perm_head hy
    have := (same_head hnd hp hp' (by rw [hb, he])).1
    subst this
    omega
  · exact absurd hb (hm x hxm)
  · have := same_head hnd hp hp' (by rw [hb, he])
    obtain ⟨rfl, hr⟩ := this
    rw [h2]
    exact ⟨h1, hr.symm.cons _⟩
  · exact absurd hb (hm x hxm)
  · exact absurd hb (hm x hxm)
theorem st_img {t : Nat} {b v : Int} {s : ByteArray} {K : World → Prop} (b6 : blk w t = some (imgC 0 0 ⟨#[]⟩)) (hk : ∀ w', Keep (fun b => b = t) w w' → blk w' t = some (imgC b v s) → K w') :
    act Try.prog (thenU (Instr.storeAt 30 (.pointer (some ⟨t, 0, none⟩)) (vI b v s))) (fun _ w5 => K w5) w := by
  have y0 : cel w t 0 = some (.int .i64 0) := cel_b b6 0
  have y1 : cel w t 1 = some (.int .u64 0) := cel_b b6 1
  have y2 : cel w t 2 = some (.string ⟨#[]⟩) := cel_b b6 2
  rw [st_30 one_int one_int one_str (by rw [y0]; rfl) (by rw [y1]; rfl) (by rw [y2]; rfl) (fre_b b6)]
  exact hk _ (Keep.stoL _ _ (Keep.refl _ _) (.inl rfl)) (blk_stoL_all (w := w) (b := t) (t := 30) (zs := [.int .i64 0, .int .u64 0, .string ⟨#[]⟩]) (xs := [.int .i64 b, .int .u64 v, .string s]) rfl b6)
abbrev nostr : ByteArray := ⟨#[]⟩
set_option maxHeartbeats 1000000 in
theorem alive_c (hq : ∀ w', K0 w w' → Q (.bool true) w') : callS Try.prog 7 #[] Q w := by
  refine ref7 ?_
  unfold S7
  refine cnew_c (r := 2) (by omega) fun w1 c F0 h1 hcw hF0 k1 => ?_
  have h1 : CS w1 c 2 [] F0 := h1
  simp only [stp, Nat.reduceAdd, Int.reduceLT, Int.reduceLE, Int.reduceEq, Int.reduceNe, ne_eq, bne_self_eq_false, beq_self_eq_true]
  refine fill_c h1 (by omega) (b := 1) (v := 0) (s := nostr) (by decide) fun w2 F2 es2 ok2 h2 s2 r2 => ?_
  obtain ⟨rfl, rfl⟩ := fill_new r2 (by simp) (by simp)
  simp only [stp, Nat.reduceAdd, Int.reduceLT, Int.reduceLE, Int.reduceEq, Int.reduceNe, ne_eq, bne_self_eq_false, beq_self_eq_true]
  refine change_c h2 (by omega) (b := 2) (v := 1) (lsn := 5) (s := nostr) (by decide) fun w3 F3 es3 cd3 h3 s3 r3 => ?_
  obtain ⟨rfl, rfl⟩ := change_new r3 (by omega) (by simp) (by simp)
  simp only [stp, Nat.reduceAdd, Int.reduceLT, Int.reduceLE, Int.reduceEq, Int.reduceNe, ne_eq, bne_self_eq_false, beq_self_eq_true]
  refine fill_c h3 (by omega) (b := 3) (v := 0) (s := nostr) (by decide) fun w4 F4 es4 ok4 h4 s4 r4 => ?_
  obtain ⟨rfl, hp4⟩ := fill_evict r4 (y := (1, 0, nostr, false, 0)) (r := [(2, 1, nostr, true, 5)]) (by simp) (by simp) (List.Perm.swap ..) rfl (by simp)
  have h4 := h4.perm hp4
  simp only [stp, Nat.reduceAdd, Int.reduceLT, Int.reduceLE, Int.reduceEq, Int.reduceNe, ne_eq, bne_self_eq_false, beq_self_eq_true]
  refine cget_miss h4 (k := 1) (by simp) fun w5 k5 => ?_
  have h5 := h4.keep0 k5
  simp only [stp, Nat.reduceAdd, Int.reduceLT, Int.reduceLE, Int.reduceEq, Int.reduceNe, ne_eq, bne_self_eq_false, beq_self_eq_true]
  generalize hw6 : w5.alloc _ = w6
  have k56 : K0 w5 w6 := by rw [← hw6]; exact (K0.refl w5).alloc _
  have b6 : blk w6 (siz w5) = some (.cells #[.int .i64 0, .int .u64 0, .string ⟨#[]⟩] 30) := by rw [← hw6]; exact blk_alloc_new
  refine st_img b6 fun w7 k67 b7 => ?_
  have k57 : K0 w5 w7 := k56.trans' k67 fun b hb e => by omega
  have h7 := h5.keep0 k57
  refine dirty_c h7 fun w8 v l A hA hpl _ o8 k8 => ?_
  have hl1 : l = [(2, 1, nostr, true, 5)] := List.perm_singleton.1 hpl
  subst hl1
  obtain ⟨g, cp, rfl, hg1, hg2, _, _, _, hcel⟩ := Sh.Own.at o8 (by simp)
  have x4 : cel w8 g 4 = some (.int .u64 5) := hcel 4 (by simp)
  have h8 := h7.keep0 k8
  have hix : ∀ k, pur Try.prog (Instr.indexAt 35 (.slice (some ⟨g, 0, none⟩) 1 cp) (.int .i64 0)) k = k (.pointer (some ⟨g, 0, none⟩)) := fun k => by
    have := ixE (g := g) (cap := cp) (n := 1) (i := 0) (kd := .i64) (k := k) (by omega)
    simpa using this
  refine clen_c h8 ?_
  simp only [List.length_cons, List.length_nil, Int.cast_ofNat_Int, stp, Nat.reduceAdd, Int.reduceLT, Int.reduceLE, Int.reduceEq, Int.reduceNe, ne_eq, bne_self_eq_false, beq_self_eq_true]
  simp only [List.length_cons, List.length_nil, Int.cast_ofNat_Int, stp, Nat.reduceAdd, Int.reduceLT, Int.reduceLE, Int.reduceEq, Int.reduceNe, ne_eq, bne_self_eq_false, beq_self_eq_true, hix, Nat.zero_add, x4, Option.isSome_some, Option.getD_some]
  refine oldest_c h8 fun w9 l k9 hpl9 _ => ?_
  have hl9 : l = [(2, 1, nostr, true, 5)] := List.perm_singleton.1 hpl9
  subst hl9
  have h9 := h8.keep0 k9
  try simp only [List.head?_cons, Option.map_some, Option.getD_some, stp, Nat.reduceAdd, Int.reduceLT, Int.reduceLE, Int.reduceEq, Int.reduceNe, ne_eq, bne_self_eq_false, beq_self_eq_true]
  refine clean_hit h9 (by omega) (e := (2, 1, nostr, true, 5)) (r := [(3, 0, nostr, false, 0)]) (List.Perm.swap ..) rfl fun w10 F10 h10 s10 => ?_
  try simp only [stp, Nat.reduceAdd, Int.reduceLT, Int.reduceLE, Int.reduceEq, Int.reduceNe, ne_eq, bne_self_eq_false, beq_self_eq_true]
  refine oldest_c h10 fun w11 l k11 hpl11 _ => ?_
  have hl11 : l = [] := List.perm_nil.1 hpl11
  subst hl11
  try simp only [List.head?_nil, Option.map_none, Option.getD_none, stp, Nat.reduceAdd, Int.reduceLT, Int.reduceLE, Int.reduceEq, Int.reduceNe, ne_eq, bne_self_eq_false, beq_self_eq_true]
  have kk : St F0 F10 w1 w11 := (((((s2.trans s3).trans s4).trans (St.of0 (((k5.trans k57).trans k8).trans k9))).trans s10).trans (St.of0 k11))
  refine hq w11 ((k1.none (F := F0)).trans kk.keep |>.old fun b hb e => ?_)
  have := hF0 b e
  omega
end
end Go.Proofs.Ytjfookddoaemfaa
