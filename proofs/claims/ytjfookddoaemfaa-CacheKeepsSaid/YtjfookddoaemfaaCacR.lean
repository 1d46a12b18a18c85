/- The cache: its state, all of its entries, copies of images. Conditions: as each says. -/
import Derived.Test.YtjfookddoaemfaaCacQ
import Derived.Test.YtjfookddoaemfaaSort
import Derived.Test.YtjfookddoaemfaaLay
import Derived.Shelf.Pu.Clone
set_option linter.unusedSimpArgs false
set_option linter.unusedVariables false
namespace Go.Proofs.Ytjfookddoaemfaa
open Go.Sh Go.Sh.Lrv Go.Proofs.Ytjfookddoaemfaa.Lv
set_option maxRecDepth 100000
def pin (e : En) : Nat := if e.2.2.2.1 = true then 1 else 0
def Ent (n : Nd) : Prop := n.k = .int .i64 n.v.1 ∧ n.p = pin n.v
/-- The inner map at lc has these entries, in some order; its blocks are of F. -/
def LS (w : World) (lc room : Nat) (es : List En) (F : Nat → Prop) : Prop := ∃ mb L, Rep isI64 0 w lc mb room L ∧ (∀ b, foot lc mb L b → F b) ∧ (L.map Nd.v).Perm es ∧ ∀ n ∈ L, Ent n
/-- A cache. -/
def CS (w : World) (c room : Nat) (es : List En) (F : Nat → Prop) : Prop := ∃ lc, cel w c 0 = some (.pointer (some ⟨lc, 0, none⟩)) ∧ ¬ F c ∧ LS w lc room es F
section
variable {w w' : World} {Q : Value → World → Prop} {c lc room : Nat} {es : List En} {F : Nat → Prop}
theorem LS.keep {G : Nat → Prop} (h : LS w lc room es F) (k : Keep G w w') (hG : ∀ b, F b → ¬ G b) : LS w' lc room es F := by
  obtain ⟨mb, L, h1, h2, h3, h4⟩ := h
  exact ⟨mb, L, h1.keep k fun b hb => hG b (h2 b hb), h2, h3, h4⟩
theorem CS.keep {G : Nat → Prop} (h : CS w c room es F) (k : Keep G w w') (hG : ∀ b, F b → ¬ G b) (hc : ¬ G c) : CS w' c room es F := by
  obtain ⟨lc, h1, h2, h3⟩ := h
  exact ⟨lc, k.cel h1 hc, h2, h3.keep k hG⟩
theorem CS.keep0 (h : CS w c room es F) (k : K0 w w') : CS w' c room es F := h.keep k (fun _ _ e => e) (fun e => e)
theorem LS.perm {es' : List En} (h : LS w lc room es F) (p : es.Perm es') : LS w lc room es' F := by
  obtain ⟨mb, L, h1, h2, h3, h4⟩ := h
  exact ⟨mb, L, h1, h2, h3.trans p, h4⟩
theorem CS.perm {es' : List En} (h : CS w c room es F) (p : es.Perm es') : CS w c room es' F := by
  obtain ⟨lc, h1, h2, h3⟩ := h
  exact ⟨lc, h1, h2, h3.perm p⟩
theorem LS.len (h : LS w lc room es F) : es.length ≤ room ∧ room ≤ 100000 := by
  obtain ⟨mb, L, h1, _, h3, _⟩ := h
  have := h3.length_eq
  rw [List.length_map] at this
  exact ⟨by rw [← this]; exact h1.len, h1.big⟩
theorem CS.len (h : CS w c room es F) : es.length ≤ room ∧ room ≤ 100000 := by
  obtain ⟨_, _, _, h⟩ := h; exact h.len
theorem LS.nodup (h : LS w lc room es F) : (es.map (·.1)).Nodup := by
  obtain ⟨mb, L, h1, _, h3, h4⟩ := h
  refine (h3.map (·.1)).nodup_iff.1 ?_
  have e : L.map (·.k) = ((L.map Nd.v).map (·.1)).map (fun x => Value.int .i64 x) := by
    rw [List.map_map, List.map_map]
    exact List.map_congr_left fun n hn => (h4 n hn).1
  have hk := h1.keys
  rw [e] at hk
  exact List.Pairwise.of_map _ (fun a b h e => h (by rw [e])) hk
theorem CS.nodup (h : CS w c room es F) : (es.map (·.1)).Nodup := by
  obtain ⟨_, _, _, h⟩ := h; exact h.nodup
theorem all_c (hc : cel w c 0 = some (.pointer (some ⟨lc, 0, none⟩))) (hq : Q (.pointer (some ⟨lc, 0, none⟩)) w) : callS Try.prog 20 #[.pointer (some ⟨c, 0, none⟩)] Q w := by
  refine ref20 ?_
  unfold S20
  simp only [stp, Nat.reduceAdd, Int.reduceLT, Int.reduceLE, Int.reduceEq, Int.reduceNe, ne_eq, bne_self_eq_false, beq_self_eq_true, hc, Option.isSome_some, Option.getD_some]
  exact hq
theorem alln_c (hq : Q (.pointer none) w) : callS Try.prog 20 #[.pointer none] Q w := by
  refine ref20 ?_
  unfold S20
  simp only [stp, Nat.reduceAdd, Int.reduceLT, Int.reduceLE, Int.reduceEq, Int.reduceNe, ne_eq, bne_self_eq_false, beq_self_eq_true]
  exact hq
theorem allz_c (hc : cel w c 0 = some (.pointer none)) (hq : Q (.pointer none) w) : callS Try.prog 20 #[.pointer (some ⟨c, 0, none⟩)] Q w := by
  refine ref20 ?_
  unfold S20
  simp only [stp, Nat.reduceAdd, Int.reduceLT, Int.reduceLE, Int.reduceEq, Int.reduceNe, ne_eq, bne_self_eq_false, beq_self_eq_true, hc, Option.isSome_some, Option.getD_some]
  exact hq
/-! ### all entries -/
theorem nanI_c {a : Int} (hq : Q (.bool false) w) : callS Try.prog 57 #[.int .i64 a] Q w := by
  refine ref57 ?_
  unfold S57
  simp only [stp, Nat.reduceAdd, Int.reduceLT, Int.reduceLE, Int.reduceEq, Int.reduceNe, ne_eq, bne_self_eq_false, beq_self_eq_true, stm]
  exact hq
theorem compareI_c {a b : Int} (hq : Q (.int .i64 (cmpZ a b)) w) : callS Try.prog 42 #[.int .i64 a, .int .i64 b] Q w := by
  refine ref42 ?_
  unfold S42
  refine nanI_c ?_
  refine nanI_c ?_
  simp only [cmpZ] at hq
  by_cases h1 : a < b
  · simp only [stp, Nat.reduceAdd, Int.reduceLT, Int.reduceLE, Int.reduceEq, Int.reduceNe, ne_eq, bne_self_eq_false, beq_self_eq_true, stm, h1]
    simpa only [h1, if_true] using hq
  · by_cases h2 : b < a
    · simp only [stp, Nat.reduceAdd, Int.reduceLT, Int.reduceLE, Int.reduceEq, Int.reduceNe, ne_eq, bne_self_eq_false, beq_self_eq_true, stm, h1, h2]
      simpa only [h1, h2, if_true, if_false] using hq
    · simp only [stp, Nat.reduceAdd, Int.reduceLT, Int.reduceLE, Int.reduceEq, Int.reduceNe, ne_eq, bne_self_eq_false, beq_self_eq_true, stm, h1, h2]
      simpa only [h1, h2, if_false] using hq
def cmpB (x y : En) : Int := cmpZ x.1 y.1
theorem lt_cmpB (p q : En) : Go.Proofs.ltOf cmpB p q = decide (p.1 < q.1) := by
  unfold Go.Proofs.ltOf cmpB cmpZ
  rcases Int.lt_trichotomy p.1 q.1 with h | h | h
  · simp [h]
  · have h1 : ¬ p.1 < q.1 := by omega
    have h2 : ¬ q.1 < p.1 := by omega
    simp [h1, h2]
  · have h1 : ¬ p.1 < q.1 := by omega
    simp [h, h1]
theorem swo_cmpB : Go.Sort.SWO (Go.Proofs.ltOf cmpB) where
  irrefl x := by rw [lt_cmpB]; simp
  trans x y z h1 h2 := by rw [lt_cmpB] at *; simp at *; omega
  ntrans x y z h1 h2 := by rw [lt_cmpB] at *; simp at *; omega
theorem all1_c {x y : En} (hq : ∀ w', Grw w w' → Q (.int .i64 (cmpB x y)) w') : callS Try.prog 41 #[.agg (encE x).toArray, .agg (encE y).toArray] Q w := by
  refine ref41 ?_
  unfold S41
  simp only [encE]
  simp only [stp, Nat.reduceAdd, Int.reduceLT, Int.reduceLE, Int.reduceEq, Int.reduceNe, ne_eq, bne_self_eq_false, beq_self_eq_true, stm]
  refine compareI_c ?_
  exact hq _ (((Grw.refl w).alloc _).alloc _)
theorem sortE_c {base : Nat} {v : Value} {l : List En} (hown : Sh.Own w base 49 5 v l.length (flat encE l)) (hlen : l.length ≤ 1000000)
    (hq : ∀ l' w', l'.Perm l → Sh.Own w' base 49 5 v l.length (flat encE l') → Keep (fun b => v.ownBlock = some b) w w' → Q (.tuple #[]) w') :
    callS Try.prog 40 #[v, .func (.func 41) #[] #[]] Q w := by
  have L := Ytjfookddoaemfaa.sortE
  refine sortFunc_c (ρ := Ytjfookddoaemfaa.sortE_ren) (k := 5) (enc := encE) (cf := cmpB) L (fun w => Try.isAgg49 w) (fun w => Try.sizeOf49 w) encE_len (fun x v hv => encE_one hv) swo_cmpB (g := 41) (fun a w => Try.call41 a w)
    (fun x y w => all1_c (x := x) (y := y) fun w' g => ⟨rfl, g⟩) (fun a w => Try.call40 a w) hown (by omega) fun l' w' hp _ ho hk => hq l' w' hp ho hk
theorem aLL_c (h : CS w c room es F) (hq : ∀ w' v' l' A, siz w ≤ A → l'.Perm es → Sh.Own w' A 49 5 v' l'.length (flat encE l') → K0 w w' → Q v' w') :
    callS Try.prog 18 #[.pointer (some ⟨c, 0, none⟩)] Q w := by
  refine ref18 ?_
  unfold S18
  have hlen := h.len
  obtain ⟨lc, hc, hFc, mb, L, hr, hF, hp, hen⟩ := h
  have hLl : L.length = es.length := by rw [← hp.length_eq, List.length_map]
  refine all_c hc ?_
  refine keys_c hr fun w1 vk ok k1 => ?_
  obtain ⟨a, cp, rfl⟩ := ok.form
  simp only [stp, Nat.reduceAdd, Int.reduceLT, Int.reduceLE, Int.reduceEq, Int.reduceNe, ne_eq, bne_self_eq_false, beq_self_eq_true]
  refine lp2 (fun m x y w' => ∃ i : Nat, y = .int .i64 (i : Int) ∧ i ≤ L.length ∧ m = L.length - i ∧ Sh.Own w' (siz w1) 49 5 x i (flat encE ((L.take i).map Nd.v)) ∧ K0 w1 w') L.length ⟨0, rfl, Nat.zero_le _, rfl, Sh.Own.nil _ _ _ _, K0.refl _⟩ ?_
  rintro m x y w2 ⟨i, rfl, hi, hm, o2, k2⟩ J hJ _j
  subst m
  by_cases hlt : i < L.length
  · have hlt' : ((i : Int) < (L.length : Int)) := by omega
    have hwi := wrap_succ (i := i) (by omega)
    have ok2 := Sh.Own.keep ok k2 (fun _ _ e => e)
    obtain ⟨g, c', e, _, _, _, _, _, hcel⟩ := Sh.Own.at ok2 (by omega)
    injection e with e1 _ e2
    subst e1 e2
    have hx := hcel i (by omega)
    rw [List.getElem?_map, List.getElem?_eq_getElem hlt, Option.map_some] at hx
    have hc2 := (k1.trans k2).cel hc (fun e => e)
    simp only [stp, Nat.reduceAdd, Int.reduceLT, Int.reduceLE, Int.reduceEq, Int.reduceNe, ne_eq, bne_self_eq_false, beq_self_eq_true, hlt']
    rw [ix_46 hlt]
    simp only [Nat.mul_one, Nat.zero_add, stp, Nat.reduceAdd, Int.reduceLT, Int.reduceLE, Int.reduceEq, Int.reduceNe, ne_eq, bne_self_eq_false, beq_self_eq_true, hx, Option.isSome_some, Option.getD_some]
    refine all_c (by first | exact hc2 | (rw [cel_drew]; exact hc2)) ?_
    refine peek_hit (n := L[i]) (by first | exact hr.keep0 (k1.trans k2) | exact (hr.keep0 (k1.trans k2)).drew) (List.getElem_mem hlt) fun w3 k3 => ?_
    simp only [stp, Nat.reduceAdd, Int.reduceLT, Int.reduceLE, Int.reduceEq, Int.reduceNe, ne_eq, bne_self_eq_false, beq_self_eq_true]
    generalize hw4 : w3.alloc _ = w4
    have b4 : blk w4 (siz w3) = some (.cells (encE e0).toArray 49) := by rw [← hw4]; exact blk_alloc_new
    have k34 : K0 w3 w4 := by rw [← hw4]; exact (K0.refl w3).alloc _
    rw [st_en ((enAt_new b4).is) (fre_b b4), ld_en (enAt_sto (enAt_new b4).is)]
    simp only [stp, Nat.reduceAdd, Int.reduceLT, Int.reduceLE, Int.reduceEq, Int.reduceNe, ne_eq, bne_self_eq_false, beq_self_eq_true]
    have k35 : K0 w3 (stoL w4 (siz w3) 0 (encE L[i].v)) := Keep.stoL _ _ k34 (.inr (Nat.le_refl _))
    have k23 : K0 w2 w3 := k3
    have k25 : K0 w2 (stoL w4 (siz w3) 0 (encE L[i].v)) := k23.trans k35
    have s15 := (k2.trans k25).size
    refine pu_35 (Sh.Own.keep o2 k25 fun _ _ e => e) (by intro u hu; simp only [List.mem_cons, List.not_mem_nil, or_false] at hu; rcases hu with rfl | rfl | rfl | rfl | rfl <;> first | exact one_int | exact one_str | exact one_bool) (by omega) s15 fun v' w6 o6 k6 hr6 => ?_
    simp only [stp, Nat.reduceAdd, Int.reduceLT, Int.reduceLE, Int.reduceEq, Int.reduceNe, ne_eq, bne_self_eq_false, beq_self_eq_true, hwi]
    refine hJ (L.length - (i + 1)) _ _ _ (by omega) ⟨i + 1, rfl, by omega, rfl, ?_, (k2.trans k25).trans' k6 fun b hb e => by have := (Sh.Own.lt o2 e).1; omega⟩
    rw [List.take_add_one, List.getElem?_eq_getElem hlt, List.map_append, flat_append]
    exact o6
  · have hlt' : ¬ ((i : Int) < (L.length : Int)) := by omega
    have hie : i = L.length := by omega
    subst hie
    rw [List.take_length] at o2
    simp only [stp, Nat.reduceAdd, Int.reduceLT, Int.reduceLE, Int.reduceEq, Int.reduceNe, ne_eq, bne_self_eq_false, beq_self_eq_true, hlt']
    have o2' : Sh.Own w2 (siz w1) 49 5 x (L.map Nd.v).length (flat encE (L.map Nd.v)) := by rw [List.length_map]; exact o2
    refine sortE_c o2' (by rw [List.length_map]; omega) fun l' w3 hp' o3 k3 => ?_
    refine hq w3 x l' (siz w1) k1.size (hp'.trans hp) (by rw [hp'.length_eq]; exact o3) ((k1.trans k2).trans' k3 fun b hb e => by have := (Sh.Own.lt o2 e).1; have := k1.size; omega)
/-! ### copies -/
theorem clone_c {s : ByteArray} (hs : s.size ≤ 1000000) (hq : ∀ w', K0 w w' → Q (.string s) w') : callS Try.prog 48 #[.string s] Q w := by
  refine ref48 ?_
  unfold S48
  refine ⟨fun a w => Try.call58 a w, (AnyPu.stringslite_Clone Ytjfookddoaemfaa.cloneS s w (by omega)).mono fun e w' hb => ⟨_, hb.1, ?_⟩⟩
  exact hq w' ⟨hb.2.os, hb.2.tape, hb.2.output, hb.2.size, fun b hb' _ => hb.2.block b hb'⟩
abbrev vI (b v : Int) (s : ByteArray) : Value := .agg #[.int .i64 b, .int .u64 v, .string s]
theorem own_c {b v : Int} {s : ByteArray} (hs : s.size ≤ 1000000) (hq : ∀ w', K0 w w' → Q (vI b v s) w') : callS Try.prog 24 #[vI b v s] Q w := by
  refine ref24 ?_
  unfold S24
  simp only [act_box, agg_cells]
  rw [al_30]
  generalize hw1 : w.alloc _ = w1
  have b1 : blk w1 (siz w) = some (.cells #[.int .i64 b, .int .u64 v, .string s] 30) := by rw [← hw1]; exact blk_alloc_new
  have k1 : K0 w w1 := by rw [← hw1]; exact (K0.refl w).alloc _
  have s1 : siz w1 = siz w + 1 := by rw [← hw1, siz_alloc]
  generalize hw2 : w1.alloc _ = w2
  have b2 : blk w2 (siz w1) = some (.cells #[.int .i64 0, .int .u64 0, .string ⟨#[]⟩] 30) := by rw [← hw2]; exact blk_alloc_new
  have k2 : K0 w1 w2 := by rw [← hw2]; exact (K0.refl w1).alloc _
  have b12 := k2.blk b1 (fun e => e)
  have c2 : cel w2 (siz w) 2 = some (.string s) := cel_b b12 2
  simp only [stp, Nat.reduceAdd, Int.reduceLT, Int.reduceLE, Int.reduceEq, Int.reduceNe, ne_eq, bne_self_eq_false, beq_self_eq_true, c2, Option.isSome_some, Option.getD_some]
  refine clone_c hs fun w3 k3 => ?_
  have b3 := k3.blk b12 (fun e => e)
  have b32 := k3.blk b2 (fun e => e)
  have f3 := fre_b b3
  have f32 := fre_b b32
  have x0 : cel w3 (siz w) 0 = some (.int .i64 b) := cel_b b3 0
  have x1 : cel w3 (siz w) 1 = some (.int .u64 v) := cel_b b3 1
  have x2 : cel w3 (siz w) 2 = some (.string s) := cel_b b3 2
  have y0 : cel w3 (siz w1) 0 = some (.int .i64 0) := cel_b b32 0
  have y1 : cel w3 (siz w1) 1 = some (.int .u64 0) := cel_b b32 1
  have y2 : cel w3 (siz w1) 2 = some (.string ⟨#[]⟩) := cel_b b32 2
  have hne : ¬ (siz w1 = siz w) := by omega
  simp only [stp, Nat.reduceAdd, Int.reduceLT, Int.reduceLE, Int.reduceEq, Int.reduceNe, ne_eq, bne_self_eq_false, beq_self_eq_true, x2, f3, Option.isSome_some]
  generalize hw4 : sto w3 (siz w) 2 _ = w4
  have b4 : blk w4 (siz w) = some (.cells #[.int .i64 b, .int .u64 v, .string s] 30) := by rw [← hw4, blk_sto b3]; rfl
  have k34 : Keep (fun b => b = siz w) w3 w4 := by rw [← hw4]; exact (Keep.refl (fun b => b = siz w) w3).sto (.inl rfl) _ _
  have b42 := k34.blk b32 hne
  have x0 : cel w4 (siz w) 0 = some (.int .i64 b) := cel_b b4 0
  have x1 : cel w4 (siz w) 1 = some (.int .u64 v) := cel_b b4 1
  have x2 : cel w4 (siz w) 2 = some (.string s) := cel_b b4 2
  have y0 : cel w4 (siz w1) 0 = some (.int .i64 0) := cel_b b42 0
  have y1 : cel w4 (siz w1) 1 = some (.int .u64 0) := cel_b b42 1
  have y2 : cel w4 (siz w1) 2 = some (.string ⟨#[]⟩) := cel_b b42 2
  have f42 := fre_b b42
  rw [ld_30 (by rw [x0]; rfl) (by rw [x1]; rfl) (by rw [x2]; rfl), x0, x1, x2]
  simp only [Option.getD_some]
  rw [st_30 one_int one_int one_str (by rw [y0]; rfl) (by rw [y1]; rfl) (by rw [y2]; rfl) f42]
  have b5 := blk_stoL_all (w := w4) (b := siz w1) (t := 30) (zs := [.int .i64 0, .int .u64 0, .string ⟨#[]⟩]) (xs := [.int .i64 b, .int .u64 v, .string s]) rfl b42
  generalize hw5 : stoL w4 (siz w1) 0 [Value.int .i64 b, .int .u64 v, .string s] = w5 at b5
  have hw5' := hw5
  have z0 : cel w5 (siz w1) 0 = some (.int .i64 b) := cel_b b5 0
  have z1 : cel w5 (siz w1) 1 = some (.int .u64 v) := cel_b b5 1
  have z2 : cel w5 (siz w1) 2 = some (.string s) := cel_b b5 2
  have k5 : K0 w w5 := by
    rw [← hw5]
    have k3' : K0 w w3 := (k1.trans k2).trans k3
    have k4' : K0 w w4 := k3'.trans' k34 fun b hb e => by omega
    exact Keep.stoL _ _ k4' (.inr (by omega))
  rw [show resL 30 (.pointer (some ⟨siz w1, 0, none⟩)) = Instr.loadAt 30 (.pointer (some ⟨siz w1, 0, none⟩)) from rfl]
  try simp only [stoL] at hw5
  try simp only [hw5]
  rw [ld_30 (by rw [z0]; rfl) (by rw [z1]; rfl) (by rw [z2]; rfl), z0, z1, z2]
  exact hq _ k5
end
end Go.Proofs.Ytjfookddoaemfaa
