/- CacheOrder: its second half. Conditions: as each says. -/
import Derived.Test.YtjfookddoaemfaaCacOrder
set_option linter.unusedSimpArgs false
set_option linter.unusedVariables false
namespace Go.Proofs.Ytjfookddoaemfaa
open Go.Sh Go.Sh.Lrv Go.Proofs.Ytjfookddoaemfaa.Lv
set_option maxRecDepth 100000
section
variable {w w' : World} {Q : Value → World → Prop} {c : Nat} {es : List En} {F : Nat → Prop}
set_option maxHeartbeats 1000000 in
theorem order2 {pa : Option Addr} {n cp : Nat} (h : CS w c 100 es F) (hall : ∀ e ∈ es, e.2.2.2.1 = false ∧ ∃ j : Nat, j < 16 ∧ e.1 = (j : Int)) (hn : n = es.length) (hq : ∀ w' F', St F F' w w' → Q (.bool true) w') :
    P5_2 (.pointer (some ⟨c, 0, none⟩)) (.slice pa n cp) w Q := by
  unfold P5_2
  have hd : dirtyL es = [] := List.filter_eq_nil_iff.2 fun x hx => by rw [(hall x hx).1]; simp
  refine alive_c fun w1 k1 => ?_
  have h1 := h.keep0 k1
  simp only [stp, Nat.reduceAdd, Int.reduceLT, Int.reduceLE, Int.reduceEq, Int.reduceNe, ne_eq, bne_self_eq_false, beq_self_eq_true, stm]
  refine oldest_c h1 fun w2 l k2 hpl _ => ?_
  have hl : l = [] := by rw [hd] at hpl; exact List.perm_nil.1 hpl
  subst hl
  have h2 := h1.keep0 k2
  simp only [stp, Nat.reduceAdd, Int.reduceLT, Int.reduceLE, Int.reduceEq, Int.reduceNe, ne_eq, bne_self_eq_false, beq_self_eq_true, stm, List.head?_nil, Option.map_none, Option.getD_none]
  refine dirty_c h2 fun w3 v l A hA hpl _ o3 k3 => ?_
  have hl : l = [] := by rw [hd] at hpl; exact List.perm_nil.1 hpl
  subst hl
  obtain ⟨pb, cb, rfl⟩ := o3.form
  have h3 := h2.keep0 k3
  simp only [stp, Nat.reduceAdd, Int.reduceLT, Int.reduceLE, Int.reduceEq, Int.reduceNe, ne_eq, bne_self_eq_false, beq_self_eq_true, stm, List.length_nil, Int.ofNat_zero]
  refine clen_c h3 ?_
  subst hn
  have hee : ((es.length : Int) = (es.length : Int)) := rfl
  simp only [stp, Nat.reduceAdd, Int.reduceLT, Int.reduceLE, Int.reduceEq, Int.reduceNe, ne_eq, bne_self_eq_false, beq_self_eq_true, stm, hee]
  refine drop_c h3 (a := 0) (b := 16) fun w4 F' es' h4 s4 hp4 => ?_
  have hnil : es' = [] := by
    have : (es.filter fun e => !(dropB 0 16 e)) = [] := List.filter_eq_nil_iff.2 fun x hx => by
      obtain ⟨h5, j, hj, h6⟩ := hall x hx
      have h7 : hasP 0 16 x.1 := by unfold hasP okP; omega
      unfold dropB
      rw [h5]
      simp [h7]
    rw [this] at hp4
    exact List.perm_nil.1 hp4
  subst hnil
  have hz : ((es.length : Int) - (([] : List En).length : Int)) = (es.length : Int) := by simp
  simp only [stp, Nat.reduceAdd, Int.reduceLT, Int.reduceLE, Int.reduceEq, Int.reduceNe, ne_eq, bne_self_eq_false, beq_self_eq_true, stm, hz]
  exact hq w4 F' ((St.of0 ((k1.trans k2).trans k3)).trans s4)
set_option maxHeartbeats 2000000 in
theorem order1 {i gf A : Nat} {fs : List Int} (h : CS w c 100 es F) (hO : OI i es fs) (hi : i ≤ 60) (hf : Sh.Own w A 28 1 (.slice (some ⟨gf, 0, none⟩) 16 16) 16 (fs.map fun x => Value.int .u64 x)) (hgF : ¬ F gf) (hq : ∀ w' F', St F F' w w' → Q (.bool true) w') :
    P5_1 (.pointer (some ⟨c, 0, none⟩)) (.slice (some ⟨gf, 0, none⟩) 16 16) w Q := by
  unfold P5_1
  have hnd := h.nodup
  have h16 := hO.few hnd
  obtain ⟨lc, hc, hFc, hl⟩ := h
  have h0 : CS w c 100 es (fun b => F b ∧ b < siz w) := ⟨lc, hc, fun e => hFc e.1, hl.ltF⟩
  refine dirty_c h0 fun w1 v d B hB hpd hs o1 k1 => ?_
  rw [hO.dirty] at hpd
  have hdl := hpd.length_eq
  have hO1 := hO.perm hpd
  have hndd : (d.map (·.1)).Nodup := (hpd.map (·.1)).nodup_iff.2 hnd
  have hsd := hs (by omega)
  have hall : ∀ e ∈ d, e.2.2.2.1 = true := fun e he => by obtain ⟨_, _, _, _, h3, _⟩ := hO1.bd e he; exact h3
  obtain ⟨pa, cp, rfl⟩ := o1.form
  have h1 := (h0.keep0 k1).perm hpd.symm
  have k1s := k1.size
  refine lp2 (fun m x y w' => ∃ (k : Nat) (F' : Nat → Prop), y = .int .i64 (k : Int) ∧ x = .int .u64 (if k = 0 then 0 else (((d[k - 1]?).getD e0).2.2.2.2)) ∧ k ≤ d.length ∧ m = d.length - k ∧ CS w' c 100 ((d.take k).map clE ++ d.drop k) F' ∧ St (fun b => F b ∧ b < siz w) F' w1 w') d.length
    ⟨0, _, rfl, rfl, Nat.zero_le _, rfl, by simpa using h1, St.refl _ _⟩ ?_
  rintro m x y w2 ⟨k, F2, rfl, rfl, hk, hm, h2, s2⟩ J hJ _j
  subst m
  have s12 := (St.of0 (F := fun b => F b ∧ b < siz w) k1).trans s2
  by_cases hlt : k < d.length
  case neg =>
    have hlt' : ¬ ((k : Int) < (d.length : Int)) := by omega
    have hke : k = d.length := by omega
    subst hke
    simp only [stp, Nat.reduceAdd, Int.reduceLT, Int.reduceLE, Int.reduceEq, Int.reduceNe, ne_eq, bne_self_eq_false, beq_self_eq_true, hlt']
    rw [List.take_length, List.drop_length, List.append_nil] at h2
    refine order2 h2 (fun e he => ?_) (by rw [List.length_map]) fun w3 F3 s3 => ?_
    · obtain ⟨x, hx, rfl⟩ := List.mem_map.1 he
      obtain ⟨j, hj, h5, _⟩ := hO1.bd x hx
      exact ⟨rfl, j, hj, h5⟩
    · have := s12.trans s3
      exact hq w3 F3 ⟨this.keep.mono fun b _ hb => hb.1, fun b hb => (this.sub b hb).imp (fun h => h.1) id⟩
  have hlt' : ((k : Int) < (d.length : Int)) := by omega
  have hwk := wrap_succ (i := k) (by omega)
  obtain ⟨g, c', e, hg1, hg2, _, _, _, hcel⟩ := Sh.Own.at o1 (by omega)
  injection e with e1 _ e2
  subst e1 e2
  have en1 : EnAt w1 g (k * 5) d[k] := fun j hj => by
    have hb : (k + 1) * 5 ≤ d.length * 5 := Nat.mul_le_mul_right _ hlt
    rw [hcel _ (by omega)]
    exact flat_get (enc := encE) encE_len (List.getElem?_eq_getElem hlt) hj
  have en2 : EnAt w2 g (k * 5) d[k] := en1.keep s2.keep (fun e => by have := e.2; omega)
  have hf2 := Sh.Own.keep (Sh.Own.keep hf k1 fun _ _ e => e) s2.keep fun g' hg' e => by injection hg' with hg'; subst hg'; exact hgF e.1
  obtain ⟨j, hj, hb, hfj, hdy, hl1, hv0, hv1⟩ := hO1.bd d[k] (List.getElem_mem hlt)
  obtain ⟨gf', cf', ef, _, _, _, _, _, hfcel⟩ := Sh.Own.at hf2 (by omega)
  injection ef with ef1 _ ef2
  injection ef1 with ef1
  injection ef1 with ef1 _ _
  subst ef1 ef2
  have fj : cel w2 gf j = some (.int .u64 d[k].2.2.2.2) := by
    rw [hfcel j (by omega), List.getElem?_map, List.getElem?_eq_getElem (by rw [hO.len]; exact hj), Option.map_some]
    have : fs[j]'(by rw [hO.len]; exact hj) = fO fs j := by unfold fO; rw [List.getD_eq_getElem?_getD, List.getElem?_eq_getElem (by rw [hO.len]; exact hj)]; rfl
    rw [this, hfj]
  obtain ⟨c0, c1, c2, c3, c4⟩ := en2.cs
  rw [hb] at c0
  generalize hlsn : d[k].2.2.2.2 = a at *
  generalize hver : d[k].2.1 = v at *
  generalize hla : (if k = 0 then (0 : Int) else (((d[k - 1]?).getD e0).2.2.2.2)) = la
  have hlast : la < a := by
    rw [← hla, ← hlsn]
    by_cases hk0 : k = 0
    · rw [if_pos hk0]; omega
    · rw [if_neg hk0, List.getElem?_eq_getElem (by omega)]
      exact hO1.rise hndd hsd (by omega) hlt
  have hnle : ¬ (a ≤ la) := by omega
  have hix : ∀ K, pur Try.prog (Instr.indexAt 35 (.slice (some ⟨g, 0, none⟩) d.length cp) (.int .i64 (k : Int))) K = K (.pointer (some ⟨g, k * 5, none⟩)) := fun K => ixE hlt
  have hix2 : ∀ K, pur Try.prog (Instr.indexAt 47 (.slice (some ⟨gf, 0, none⟩) 16 16) (.int .i64 (j : Int))) K = K (.pointer (some ⟨gf, j, none⟩)) := fun K => by
    rw [ix_47 hj, Nat.zero_add]; try rw [Nat.mul_one]
  have hwv : IntKind.u64.wrap (v + 1) = v + 1 := by
    simp only [IntKind.wrap, IntKind.signed, IntKind.bits]
    simp
    omega
  have haa : (a = a) := rfl
  have kd : K0 w2 w2.drew := (K0.refl w2).drew
  simp only [stp, Nat.reduceAdd, Int.reduceLT, Int.reduceLE, Int.reduceEq, Int.reduceNe, ne_eq, bne_self_eq_false, beq_self_eq_true, hlt', hix]
  refine ⟨fun w' => K0 w2.drew w', K0.refl _, ?_⟩
  try simp only [stp, Nat.reduceAdd, Int.reduceLT, Int.reduceLE, Int.reduceEq, Int.reduceNe, ne_eq, bne_self_eq_false, beq_self_eq_true]
  refine hldu (fun w' k => k.cel (kd.cel c4 fun e => e) fun e => e) ?_
  try simp only [stp, Nat.reduceAdd, Int.reduceLT, Int.reduceLE, Int.reduceEq, Int.reduceNe, ne_eq, bne_self_eq_false, beq_self_eq_true]
  refine hldC (fun w' k => k.cel (kd.cel c0 fun e => e) fun e => e) ?_
  simp only [stp, Nat.reduceAdd, Int.reduceLT, Int.reduceLE, Int.reduceEq, Int.reduceNe, ne_eq, bne_self_eq_false, beq_self_eq_true, hix2]
  refine hldu (fun w' k => k.cel (kd.cel fj fun e => e) fun e => e) ?_
  simp only [stp, Nat.reduceAdd, Int.reduceLT, Int.reduceLE, Int.reduceEq, Int.reduceNe, ne_eq, bne_self_eq_false, beq_self_eq_true, haa, hix]
  refine hldu (fun w' k => k.cel (kd.cel c4 fun e => e) fun e => e) ?_
  simp only [stp, Nat.reduceAdd, Int.reduceLT, Int.reduceLE, Int.reduceEq, Int.reduceNe, ne_eq, bne_self_eq_false, beq_self_eq_true, hnle, hix]
  refine oldest_c (h2.keep0 kd) fun w3 l k3 hpl3 hs3 => ⟨k3, ?_⟩
  have hdh := dirty_half (d := d) (k := k) hall
  rw [hdh] at hpl3
  have hhead : ((l.head?.map (fun e => e.2.2.2.2)).getD 0) = a := by
    have hll := hpl3.length_eq
    rw [List.length_drop] at hll
    cases l with
    | nil => simp at hll; omega
    | cons x l =>
      have hxm := hpl3.mem_iff.1 (List.mem_cons_self ..)
      have hdk : d[k] ∈ d.drop k := by rw [List.drop_eq_getElem_cons hlt]; exact List.mem_cons_self ..
      have hkm := hpl3.mem_iff.2 hdk
      show x.2.2.2.2 = a
      have hge : a ≤ x.2.2.2.2 := by
        obtain ⟨q, hq1, hq2⟩ := List.mem_iff_getElem.1 hxm
        rw [List.getElem_drop] at hq2
        by_cases hq0 : q = 0
        · subst hq0
          have : x = d[k] := hq2.symm
          rw [this, hlsn]
          exact Int.le_refl _
        · have := hO1.rise hndd hsd (p := k) (q := k + q) (by omega) (by rw [List.length_drop] at hq1; omega)
          rw [hq2, hlsn] at this
          omega
      have hle : x.2.2.2.2 ≤ a := by
        rcases List.mem_cons.1 hkm with h | h
        · rw [← h, hlsn]; exact Int.le_refl _
        · obtain ⟨q, hq1, hq2⟩ := List.mem_iff_getElem.1 h
          have h5 := hs3 (by rw [List.length_cons] at hll ⊢; omega) 0 (q + 1) (Nat.le_refl _) (by omega) (by rw [List.length_cons]; omega)
          rw [ky_get (by simp), ky_get (by rw [List.length_cons]; omega)] at h5
          simp only [List.getElem_cons_zero, List.getElem_cons_succ, hq2, hlsn] at h5
          exact h5
      omega
  rw [hhead]
  try simp only [stp, Nat.reduceAdd, Int.reduceLT, Int.reduceLE, Int.reduceEq, Int.reduceNe, ne_eq, bne_self_eq_false, beq_self_eq_true, hix]
  refine hldu (fun w' k => k.cel (kd.cel c4 fun e => e) fun e => e) ?_
  have k23 : K0 w2 w3 := kd.trans k3
  have c0' := k23.cel c0 fun e => e
  have c1' := k23.cel c1 fun e => e
  have c4' := k23.cel c4 fun e => e
  have h3 := h2.keep0 k23
  simp only [stp, Nat.reduceAdd, Int.reduceLT, Int.reduceLE, Int.reduceEq, Int.reduceNe, ne_eq, bne_self_eq_false, beq_self_eq_true, haa, hix, c0', c1', c4', Option.isSome_some, Option.getD_some, hwv]
  rw [ld_3 (by rw [cel_drew, c0']; rfl)]
  rw [ld_28 (by rw [cel_drew, c1']; rfl)]
  rw [cel_drew, cel_drew, c0', c1']
  simp only [stp, Nat.reduceAdd, Int.reduceLT, Int.reduceLE, Int.reduceEq, Int.reduceNe, ne_eq, bne_self_eq_false, beq_self_eq_true, Option.getD_some, hwv]
  have h3 := h3.keep0 (K0.refl w3).drew
  have hdr : d.drop k = d[k] :: d.drop (k + 1) := List.drop_eq_getElem_cons hlt
  have uniq : ∀ x ∈ d, x.1 = (j : Int) → x = d[k] := fun x hx hxj => by
    obtain ⟨r1, p1⟩ := perm_head hx
    obtain ⟨r2, p2⟩ := perm_head (List.getElem_mem hlt)
    exact (same_head hndd p1 p2 (by rw [hxj, hb])).1
  refine clean_miss h3 (k := (j : Int)) (v := v + 1) (fun x hx hcc => ?_) fun w4 k4 => ?_
  · rcases List.mem_append.1 hx with hx | hx
    · obtain ⟨y, _, rfl⟩ := List.mem_map.1 hx
      exact absurd hcc.2.1 (by simp [clE])
    · have := uniq x (List.mem_of_mem_drop hx) hcc.1
      have h5 := hcc.2.2
      rw [this, hver] at h5
      omega
  have h4 := h3.keep0 k4
  have k24 : K0 w2 w4 := (k23.trans (K0.refl w3).drew).trans k4
  have c0' := k24.cel c0 fun e => e
  have c1' := k24.cel c1 fun e => e
  simp only [stp, Nat.reduceAdd, Int.reduceLT, Int.reduceLE, Int.reduceEq, Int.reduceNe, ne_eq, bne_self_eq_false, beq_self_eq_true, hix, c0', c1', Option.isSome_some, Option.getD_some]
  rw [hdr] at h4
  have hit : ∀ (Q : Value → World → Prop), (∀ w' F', CS w' c 100 (clE d[k] :: ((d.take k).map clE ++ d.drop (k + 1))) F' → St F2 F' w4 w' → Q (.bool true) w') → callS Try.prog 12 #[.pointer (some ⟨c, 0, none⟩), .int .i64 (j : Int), .int .u64 v] Q w4 := fun Q hQ => by
    rw [← hb, ← hver]
    exact clean_hit h4 (by omega) List.perm_middle hdy hQ
  refine hit _ fun w5 F5 h5 s5 => ?_
  have hgw2 := cel_lt' c0
  have nF5 : ∀ o u, cel w4 g o = some u → cel w5 g o = some u := fun o u hu => s5.keep.cel hu fun e => by
    rcases s2.sub _ e with h | h
    · have := h.2; omega
    · omega
  have c0' := nF5 _ _ c0'
  have c1' := nF5 _ _ c1'
  simp only [stp, Nat.reduceAdd, Int.reduceLT, Int.reduceLE, Int.reduceEq, Int.reduceNe, ne_eq, bne_self_eq_false, beq_self_eq_true, hix, c0', c1', Option.isSome_some, Option.getD_some]
  refine clean_miss h5 (k := (j : Int)) (v := v) (fun x hx hcc => ?_) fun w6 k6 => ?_
  · rcases List.mem_cons.1 hx with rfl | hx
    · exact absurd hcc.2.1 (by simp [clE])
    · rcases List.mem_append.1 hx with hx | hx
      · obtain ⟨y, _, rfl⟩ := List.mem_map.1 hx
        exact absurd hcc.2.1 (by simp [clE])
      · have hxd := List.mem_of_mem_drop hx
        have hxk := uniq x hxd hcc.1
        obtain ⟨q, hq1, hq2⟩ := List.mem_iff_getElem.1 hx
        rw [List.getElem_drop] at hq2
        have h7 := List.pairwise_iff_getElem.1 hndd k (k + 1 + q) (by rw [List.length_map]; exact hlt) (by rw [List.length_map]; rw [List.length_drop] at hq1; omega) (by omega)
        rw [List.getElem_map, List.getElem_map, hq2, hxk] at h7
        exact h7 rfl
  simp only [stp, Nat.reduceAdd, Int.reduceLT, Int.reduceLE, Int.reduceEq, Int.reduceNe, ne_eq, bne_self_eq_false, beq_self_eq_true, hwk]
  refine hJ (d.length - (k + 1)) _ _ _ (by omega) ⟨k + 1, F5, rfl, ?_, by omega, rfl, (h5.keep0 k6).perm ?_, ((s2.trans (St.of0 k24)).trans s5).trans (St.of0 k6)⟩
  · rw [if_neg (by omega), Nat.add_sub_cancel, List.getElem?_eq_getElem hlt, Option.getD_some, hlsn]
  · rw [List.take_add_one, List.getElem?_eq_getElem hlt, List.map_append]
    refine List.perm_middle.symm.trans ?_
    simp
end
end Go.Proofs.Ytjfookddoaemfaa
