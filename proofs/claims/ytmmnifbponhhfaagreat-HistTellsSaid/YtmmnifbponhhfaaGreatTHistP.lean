/- What the document's answers are made of: images and events in memory, an array's block, what is read. Conditions: as each says. -/
import Derived.Test.YtmmnifbponhhfaaGreatTHistH
import Derived.Test.YtmmnifbponhhfaaGreatTHistY
set_option linter.unusedSimpArgs false
set_option linter.unusedVariables false
namespace Go.Proofs.YtmmnifbponhhfaaGreatT
open Go.Sh Go.Sh.Hi
set_option maxRecDepth 100000
abbrev tDv : TypeId := 71
section
variable {w w' u u' : World} {Q : Value → World → Prop} {l : List Ev} {v x : Value} {e : Ev} {B : Nat}
def BI (w : World) (g : Nat) (i : Im) : Prop := Sh.blk w g = some (.cells #[.int .i64 i.1, .int .u64 i.2.1, .string i.2.2] tIm)
def BD (w : World) (g : Nat) (e : Ev) : Prop := Sh.blk w g = some (.cells #[.int .i64 e.kind, .int .i64 e.node, .int .u64 e.epoch, .int .u64 e.lsn, e.rv, e.wv] tDv)
theorem st_im {g : Nat} {j i : Im} {K : Value → World → Prop} (hb : BI w g j) (h : ∀ w', BI w' g i → Keep (fun q => q = g) w w' → K undef w') : act Tryz.prog (thenU (Instr.storeAt tIm (.pointer (some ⟨g, 0, none⟩)) (agI i))) K w := by
  have q : ∀ o, Sh.cel w g o = (#[.int .i64 j.1, .int .u64 j.2.1, .string j.2.2] : Array Value)[o]? := fun o => cel_b hb o
  rw [st_69 one_int one_int one_str (by rw [q]; rfl) (by rw [q]; rfl) (by rw [q]; rfl) (fre_b hb)]
  refine h _ (blk_stoL_all (zs := encM j) (xs := encM i) rfl hb) ((Keep.refl (fun q => q = g) w).stoL _ 0 (.inl rfl))
theorem st_dv {g : Nat} {j e : Ev} {K : Value → World → Prop} (hb : BD w g j) (h1 : Go.Sh.one e.rv = true) (h2 : Go.Sh.one e.wv = true) (h : ∀ w', BD w' g e → Keep (fun q => q = g) w w' → K undef w') : act Tryz.prog (thenU (Instr.storeAt tDv (.pointer (some ⟨g, 0, none⟩)) (agE e))) K w := by
  have q : ∀ o, Sh.cel w g o = (#[.int .i64 j.kind, .int .i64 j.node, .int .u64 j.epoch, .int .u64 j.lsn, j.rv, j.wv] : Array Value)[o]? := fun o => cel_b hb o
  rw [st_71 one_int one_int one_int one_int h1 h2 (by rw [q]; rfl) (by rw [q]; rfl) (by rw [q]; rfl) (by rw [q]; rfl) (by rw [q]; rfl) (by rw [q]; rfl) (fre_b hb)]
  refine h _ (blk_stoL_all (zs := encE j) (xs := encE e) rfl hb) ((Keep.refl (fun q => q = g) w).stoL _ 0 (.inl rfl))
abbrev NS : Value := .slice none 0 0
theorem al_im {K : Value → World → Prop} (h : ∀ w' g, K0 w w' → siz w ≤ g → siz w' = g + 1 → BI w' g (0, 0, ⟨#[]⟩) → K (.pointer (some ⟨g, 0, none⟩)) w') : act Tryz.prog (Instr.alloc tIm true (.tuple #[])) K w := by
  rw [al_69]
  exact h _ _ ((K0.refl w).alloc _) (Nat.le_refl _) siz_alloc blk_alloc_new
theorem al_dv {K : Value → World → Prop} (h : ∀ w' g, K0 w w' → siz w ≤ g → siz w' = g + 1 → BD w' g ⟨0, 0, 0, 0, NS, NS, [], []⟩ → K (.pointer (some ⟨g, 0, none⟩)) w') : act Tryz.prog (Instr.alloc tDv true (.tuple #[])) K w := by
  rw [al_71]
  exact h _ _ ((K0.refl w).alloc _) (Nat.le_refl _) siz_alloc blk_alloc_new
theorem BI.keep {F : Nat → Prop} {g : Nat} {i : Im} (h : BI w g i) (k : Keep F w w') (hn : ¬ F g) : BI w' g i := k.blk h hn
theorem BI.keep0 {g : Nat} {i : Im} (h : BI w g i) (k : K0 w w') : BI w' g i := k.blk h id
theorem BD.keep {F : Nat → Prop} {g : Nat} (h : BD w g e) (k : Keep F w w') (hn : ¬ F g) : BD w' g e := k.blk h hn
theorem BD.keep0 {g : Nat} (h : BD w g e) (k : K0 w w') : BD w' g e := k.blk h id
theorem BI.cel {g : Nat} {i : Im} (h : BI w g i) (o : Nat) : Sh.cel w g o = (#[.int .i64 i.1, .int .u64 i.2.1, .string i.2.2] : Array Value)[o]? := cel_b h o
theorem BD.cel {g : Nat} (h : BD w g e) (o : Nat) : Sh.cel w g o = (#[.int .i64 e.kind, .int .i64 e.node, .int .u64 e.epoch, .int .u64 e.lsn, e.rv, e.wv] : Array Value)[o]? := cel_b h o
theorem ld_im {g : Nat} {i : Im} {K : Value → Prop} (hb : BI w g i) (h : K (agI i)) : rd Tryz.prog (Instr.loadAt tIm (.pointer (some ⟨g, 0, none⟩))) K w := by
  rw [rd_eq (rlI hb)]; exact h
theorem rlD {b o : Nat} (h0 : Sh.cel w b o = some (.int .i64 e.kind)) (h1 : Sh.cel w b (o + 1) = some (.int .i64 e.node)) (h2 : Sh.cel w b (o + 2) = some (.int .u64 e.epoch)) (h3 : Sh.cel w b (o + 3) = some (.int .u64 e.lsn)) (h4 : Sh.cel w b (o + 4) = some e.rv) (h5 : Sh.cel w b (o + 5) = some e.wv) :
    (Instr.loadAt tDv (.pointer (some ⟨b, o, none⟩))).run Tryz.prog w = .ok (agE e) w :=
  run_loadN (n := 6) (fun w => Tryz.isAgg71 w) (fun w => Tryz.sizeOf71 w) (fun j => if j = 0 then .int .i64 e.kind else if j = 1 then .int .i64 e.node else if j = 2 then .int .u64 e.epoch else if j = 3 then .int .u64 e.lsn else if j = 4 then e.rv else e.wv) fun
    | 0, _ => h0
    | 1, _ => h1
    | 2, _ => h2
    | 3, _ => h3
    | 4, _ => h4
    | 5, _ => h5
    | j + 6, hj => absurd hj (by omega)
theorem ld_dv {g : Nat} {K : Value → Prop} (hb : BD w g e) (h : K (agE e)) : rd Tryz.prog (Instr.loadAt tDv (.pointer (some ⟨g, 0, none⟩))) K w := by
  rw [rd_eq (rlD (hb.cel 0) (hb.cel 1) (hb.cel 2) (hb.cel 3) (hb.cel 4) (hb.cel 5))]; exact h
theorem bld_dv {K : Value → World → Prop} (h : ∀ u' v, K0 w u' → Rd 6 u' v [e].length (flat encE [e]) → K v u') : act Tryz.prog (Instr.buildSlice 44 1 #[(0, agE e)]) K w := by
  rw [show agE e = .agg #[.int .i64 e.kind, .int .i64 e.node, .int .u64 e.epoch, .int .u64 e.lsn, e.rv, e.wv] from rfl, bs_44]
  exact h _ _ ((K0.refl w).alloc _) ⟨rfl, .inr ⟨siz w, 0, 1, rfl, by simp, fun j hj => by rw [Nat.zero_add, cel_alloc_new]; simp [flat]⟩⟩
/-- One more event of the document's. -/
theorem push_dv {L : List Ev} {B0 : World} {K : Value → World → Prop} (ho : Sh.Own u (siz B0) tDv 6 x L.length (flat encE L)) (k0 : K0 B0 u) (h1 : Go.Sh.one e.rv = true) (h2 : Go.Sh.one e.wv = true) (hl : L.length ≤ 1000)
    (hK : ∀ u' x', K0 B0 u' → Sh.Own u' (siz B0) tDv 6 x' (L ++ [e]).length (flat encE (L ++ [e])) → Keep (fun q => x.ownBlock = some q) u u' → (∀ g, x'.ownBlock = some g → x.ownBlock = some g ∨ siz u ≤ g) → K x' u') :
    act Tryz.prog (Instr.buildSlice 44 1 #[(0, agE e)]) (fun t u1 => act Tryz.prog (Builtin.append_ #[44, 44] 44 #[x, t]) K u1) u := by
  rw [show agE e = .agg #[.int .i64 e.kind, .int .i64 e.node, .int .u64 e.epoch, .int .u64 e.lsn, e.rv, e.wv] from rfl, bs_44]
  refine pu_44 ho (fun y hy => ?_) (by omega) k0.size fun v' u' o' k' hn => hK u' v' (k0.trans' k' fun q hq e => by have := (ho.lt e).1; omega) (by rw [List.length_append, flat_append]; exact o') k' hn
  simp only [List.mem_cons, List.not_mem_nil, or_false] at hy
  rcases hy with rfl | rfl | rfl | rfl | rfl | rfl
  · exact one_int
  · exact one_int
  · exact one_int
  · exact one_int
  · exact h1
  · exact h2
/-! ### an array's block; what is read -/
theorem dget_c {D : List Im} {b : Int} (hr : Rd 3 w v D.length (flat encM D)) (hl : D.length ≤ 100000) (hq : ∀ w', K0 w w' → Q (.string ((arGet b (dOf D)).getD Z96)) w') :
    callS Tryz.prog 106 #[v, .int .i64 b] Q w := by
  refine ref106 ?_
  unfold S106
  obtain ⟨pa, ca, rfl⟩ := hr.form
  refine lpc1 D.length (by omega) (fun i u => u = w ∧ arGet b (dOf D) = arGet b (dOf (D.drop i))) ⟨rfl, rfl⟩ (fun i u hi ⟨hu, hg⟩ J hJ => ?_) (fun u ⟨hu, hg⟩ J => ?_)
  · intro _j
    subst hu
    have hi' : ((i : Int) < (D.length : Int)) := by omega
    obtain ⟨g, o, c, ee, _, hc⟩ := hr.at (by omega)
    injection ee with e1 _ e2
    subst e1 e2
    obtain ⟨p0, p1, p2⟩ := im_at hc (List.getElem?_eq_getElem hi)
    have hdr : D.drop i = D[i] :: D.drop (i + 1) := (List.getElem_cons_drop hi).symm
    rw [hdr] at hg
    have hg' : arGet b (dOf D) = if b = D[i].1 then some D[i].2.2 else arGet b (dOf (D.drop (i + 1))) := hg
    simp only [ln_53, pur_lss, hi', decide_true, condS_true, ix_53 hi, fa_69_0, fa_69_2, Nat.zero_add]
    rw [rd_eq (rl_3 p0)]
    by_cases h0 : D[i].1 = b
    · simp only [pur_eql, h0, decide_true, condS_true]
      rw [rd_eq (rl_9 p2)]
      have := hq u (K0.refl _)
      rw [hg', if_pos h0.symm] at this
      exact this
    · simp only [pur_eql, h0, decide_false, condS_false, pur_add]
      exact hJ _ ⟨rfl, by rw [hg', if_neg fun e => h0 e.symm]⟩
  · intro _j
    subst hu
    have hi' : ¬ ((D.length : Int) < (D.length : Int)) := by omega
    simp only [ln_53, pur_lss, hi', decide_false, condS_false]
    rw [List.drop_length] at hg
    refine mk_zeros fun w1 g k1 hg1 o1 => ?_
    refine conv_zeros o1 ?_
    have := hq w1 k1
    rw [hg] at this
    exact this
theorem dreads_c {D l : List Im} {v2 : Value} (hd : Rd 3 w v D.length (flat encM D)) (hD : D.length ≤ 100000) (hr : Rd 3 w v2 l.length (flat encM l)) (hl : l.length ≤ 100) (hq : ∀ w', K0 w w' → Q (.bool (readsF Z96 (dOf D) l)) w') :
    callS Tryz.prog 33 #[v, v2] Q w := by
  refine ref33 ?_
  unfold S33
  obtain ⟨pa, ca, rfl⟩ := hr.form
  refine lpc1 l.length (by omega) (fun i u => K0 w u ∧ readsF Z96 (dOf D) l = readsF Z96 (dOf D) (l.drop i)) ⟨K0.refl _, rfl⟩ (fun i u hi ⟨hu, hg⟩ J hJ => ?_) (fun u ⟨hu, hg⟩ J => ?_)
  · intro _j
    have hi' : ((i : Int) < (l.length : Int)) := by omega
    obtain ⟨g, o, c, ee, _, hc⟩ := (hr.keep0 hu).at (by omega)
    injection ee with e1 _ e2
    subst e1 e2
    obtain ⟨p0, p1, p2⟩ := im_at hc (List.getElem?_eq_getElem hi)
    have hdr : l.drop i = l[i] :: l.drop (i + 1) := (List.getElem_cons_drop hi).symm
    rw [hdr] at hg
    have hg' : readsF Z96 (dOf D) l = (decide ((arGet l[i].1 (dOf D)).getD Z96 = l[i].2.2) && readsF Z96 (dOf D) (l.drop (i + 1))) := hg
    simp only [ln_53, pur_lss, hi', decide_true, condS_true]
    have kd : K0 u u.drew := (K0.refl u).drew
    refine ⟨fun u' => K0 u u', kd, ?_⟩
    simp only [ix_53 hi, fa_69_0, fa_69_2, Nat.zero_add]
    refine hld_of (.int .i64 l[i].1) (fun u' k' => rl_3 (k'.cel p0 id)) ?_
    refine dget_c ((hd.keep0 hu).keep0 kd) hD fun u2 k2 => ⟨kd.trans k2, ?_⟩
    refine hld_of (.string l[i].2.2) (fun u' k' => rl_9 (k'.cel p2 id)) ?_
    by_cases h0 : (arGet l[i].1 (dOf D)).getD Z96 = l[i].2.2
    · simp only [pur_sneq, h0, ne_eq, not_true_eq_false, decide_false, condS_false, pur_add]
      exact hJ _ ⟨hu.trans (kd.trans k2), by rw [hg', decide_eq_true h0]; rfl⟩
    · simp only [pur_sneq, h0, ne_eq, not_false_eq_true, decide_true, condS_true]
      have := hq u2 (hu.trans (kd.trans k2))
      rw [hg', decide_eq_false h0] at this
      exact this
  · intro _j
    have hi' : ¬ ((l.length : Int) < (l.length : Int)) := by omega
    simp only [ln_53, pur_lss, hi', decide_false, condS_false]
    rw [List.drop_length] at hg
    have := hq u hu
    rw [hg] at this
    exact this
end
end Go.Proofs.YtmmnifbponhhfaaGreatT
