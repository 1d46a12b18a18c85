/- The heap's List: the items collected, sorted, read. Conditions: as each says. -/
import Derived.Test.YtndjohbbaplekaaGreatHHeapW
set_option linter.unusedSimpArgs false
set_option linter.unusedVariables false
namespace Go.Proofs.YtndjohbbaplekaaGreatH.Hi
open Go.Sh Go.Sh.Hp Go.Proofs.YtndjohbbaplekaaGreatH.V
section
variable {F : Nat → Prop} {w : World} {h : Nat} {sl : Value} {mo : Option Nat} {last n : Nat} {f : Nat → It} {Q : Value → World → Prop}
def cfI (x y : It) : Int := if cmpI x.t y.t ≠ 0 then cmpI x.t y.t else cmpI (x.id : Int) (y.id : Int)
theorem cfI_lt {x y : It} : cfI x y < 0 ↔ lt x y := by
  unfold cfI cmpI lt
  split <;> (try split) <;> (try split) <;> (try split) <;> omega
theorem cmpg_c {x y : It} {i j : Nat} (hx : Hp.Item w x i) (hy : Hp.Item w y j) (hq : ∀ w', Grw w w' → Q (.int .i64 (cfI x y)) w') : callS Tryz.prog 100 #[ptr x, ptr y] Q w := by
  refine ref100 ?_
  unfold S100
  refine ⟨fun w' => cel w' x.b 0 = some (.int .i64 x.t) ∧ cel w' y.b 0 = some (.int .i64 y.t) ∧ cel w' x.b 1 = some (.int .i64 (x.id : Int)) ∧ cel w' y.b 1 = some (.int .i64 (y.id : Int)), ⟨hx.t, hy.t, hx.id, hy.id⟩, ?_⟩
  simp only [ptr, stp, Nat.reduceAdd, Int.reduceLT, Int.reduceLE, Int.reduceEq, Int.reduceNe, ne_eq, bne_self_eq_false, beq_self_eq_true]
  refine hld_of _ (fun w' hw' => rl_3 hw'.1) ?_
  refine hld_of _ (fun w' hw' => rl_3 hw'.2.1) ?_
  refine compare_c ?_
  refine ⟨⟨hx.t, hy.t, hx.id, hy.id⟩, ?_⟩
  refine hld_of _ (fun w' hw' => rl_3 hw'.2.2.1) ?_
  refine hld_of _ (fun w' hw' => rl_3 hw'.2.2.2) ?_
  refine compare_c ?_
  refine ⟨⟨hx.t, hy.t, hx.id, hy.id⟩, ?_⟩
  simp only [stp, Nat.reduceAdd, Int.reduceLT, Int.reduceLE, Int.reduceEq, Int.reduceNe, ne_eq, bne_self_eq_false, beq_self_eq_true]
  have k1 : Grw w (w.drew.alloc (.cells #[.int .i64 (cmpI x.t y.t), .int .i64 (cmpI x.id y.id)] 3)) := (Grw.refl w).drew.alloc _
  have c4 : ∀ {b o : Nat} {v : Value}, cel w b o = some v → cel (w.drew.alloc (.cells #[.int .i64 (cmpI x.t y.t), .int .i64 (cmpI x.id y.id)] 3)) b o = some v := fun h => k1.1.cel h id
  refine ⟨⟨c4 hx.t, c4 hy.t, c4 hx.id, c4 hy.id⟩, ?_⟩
  refine or_c (by rw [cel_alloc_new]; rfl) (by rw [cel_alloc_new]; rfl) ?_
  refine ⟨⟨c4 hx.t, c4 hy.t, c4 hx.id, c4 hy.id⟩, ?_⟩
  exact hq _ k1
theorem swo_cfI {α : Type} {g : α → It} : Go.Sort.SWO (Go.Proofs.ltOf fun x y => cfI (g x) (g y)) where
  irrefl x := by
    unfold Go.Proofs.ltOf
    simp only [decide_eq_false_iff_not, cfI_lt]
    exact fun h => lt_asymm h h
  trans x y z h1 h2 := by
    unfold Go.Proofs.ltOf at *
    simp only [decide_eq_true_eq, cfI_lt] at *
    exact lt_trans h1 h2
  ntrans x y z h1 h2 := by
    unfold Go.Proofs.ltOf at *
    simp only [decide_eq_false_iff_not, cfI_lt] at *
    exact nlt_trans h1 h2
theorem append_c {Bs b cap len : Nat} {sa : Option Addr} (ha : 0 < len → sa = some ⟨b, 0, none⟩) {g : Nat → Nat} (hlen : len ≤ 1000) (hBs : Bs < siz w) (hb : b < siz w) (hc0 : cel w Bs 0 = some (.slice sa len cap)) (hc : ∀ j, j < len → cel w b j = some (pp (g j)))
    (hq : ∀ w' v, Sh.Own w' (siz w) 155 1 v len ((upto g len).map pp) → Keep (fun _ => False) w w' → Q v w') :
    callS Tryz.prog 192 #[.func (.func 194) #[] #[.pointer (some ⟨Bs, 0, none⟩)]] Q w := by
  refine ref192 ?_
  unfold S192
  exact ⟨fun a w => Tryz.call236 a w, append_t ha hlen hBs hb hc0 hc _ fun w' v h1 h2 => ⟨_, rfl, hq w' v h1 h2⟩⟩
abbrev Al (n : Nat) (f : Nat → It) : Type := {x : It // x ∈ items n f}
theorem psort_c {A : Nat} {v : Value} (hit : ∀ k, k < n → Hp.Item w (f k) k) (hA : ∀ k, k < n → (f k).b < A) (hn : n ≤ 1000) (ho : Sh.Own w A 155 1 v n ((items n f).map ptr))
    (hq : ∀ w' (l' : List It), l'.Perm (items n f) → l'.Pairwise (fun x y => ¬ lt y x) → Sh.Own w' A 155 1 v n (l'.map ptr) → Keep (fun b => v.ownBlock = some b) w w' → Q (.tuple #[]) w') :
    callS Tryz.prog 193 #[v, .func (.func 100) #[] #[]] Q w := by
  have hil : (items n f).length = n := by simp [items]
  rcases Nat.eq_zero_or_pos n with h0 | h0
  · subst h0
    obtain ⟨a, c, rfl⟩ := ho.form
    refine ⟨fun a w => Tryz.call193 a w, (Go.Proofs.AnyF.slices_SortFunc_none YtndjohbbaplekaaGreatH.sortQ a c _ w).mono fun e w' ⟨he, hw⟩ => ⟨_, he, ?_⟩⟩
    subst hw
    exact hq _ [] (List.Perm.refl _) List.Pairwise.nil ho (Keep.refl _ _)
  · have hm0 : f 0 ∈ items n f := List.mem_map.2 ⟨0, List.mem_range.2 h0, rfl⟩
    haveI : Inhabited (Al n f) := ⟨⟨f 0, hm0⟩⟩
    obtain ⟨b, cap, rfl, hb, _⟩ := Sh.Own.at ho h0
    have hl : ((items n f).attach).length = n := by rw [List.length_attach, hil]
    have hmap : ((items n f).attach).map (fun x => ptr x.1) = (items n f).map ptr := by
      have e : ((items n f).attach).map (fun x => ptr x.1) = (((items n f).attach).map Subtype.val).map ptr := by rw [List.map_map]; rfl
      rw [e, List.attach_map_subtype_val]
    have ho' : Sh.Own w A 155 1 (.slice (some ⟨b, 0, none⟩) ((items n f).attach).length cap) ((items n f).attach).length (((items n f).attach).map fun x => ptr x.1) := by
      rw [hl, hmap]; exact ho
    have key := sortFunc1_s (ρ := YtndjohbbaplekaaGreatH.sortP_ren) (α := Al n f) (enc := fun x => ptr x.1) YtndjohbbaplekaaGreatH.sortP (fun _ => rfl) (fun x y => cfI x.1 y.1) swo_cfI (g := 100) (fun a w => Tryz.call100 a w) (fun a w => Tryz.call193 a w) ho' (by omega)
      (fun x y w' k => by
        obtain ⟨i, hi, hx⟩ := List.mem_map.1 x.2
        obtain ⟨j, hj, hy⟩ := List.mem_map.1 y.2
        have hi := List.mem_range.1 hi
        have hj := List.mem_range.1 hj
        have ix := hit i hi
        have iy := hit j hj
        rw [hx] at ix
        rw [hy] at iy
        have bx := hA i hi
        have bY := hA j hj
        rw [hx] at bx
        rw [hy] at bY
        exact cmpg_c (ix.keep (k.block _ (fre_lt ix.fre) (by omega))) (iy.keep (k.block _ (fre_lt iy.fre) (by omega))) fun w'' g => ⟨rfl, g⟩)
      (Q := Q) (fun l' w' hp hs ho2 k => by
        rw [hl] at ho2
        refine hq w' (l'.map Subtype.val) ?_ ?_ ?_ (k.mono fun c _ e => by rw [e]; rfl)
        · have := hp.map Subtype.val
          rwa [List.attach_map_subtype_val] at this
        · exact List.Pairwise.map _ (fun a b hab => by intro e; exact hab (cfI_lt.2 e)) hs
        · rw [List.map_map]
          exact ho2)
    rw [hl] at key
    exact key
set_option maxRecDepth 100000 in
set_option maxHeartbeats 1000000 in
theorem list_c (hm : Mem 155 F w h sl mo last n f) (hn : n ≤ 1000) (hq : ∀ w' v (l' : List It), Keep (fun _ => False) w w' → l'.Perm (items n f) → l'.Pairwise (fun x y => ¬ lt y x) → Sh.Own w' (siz w) 3 1 v n (l'.map It.v) → Q v w') :
    callS Tryz.prog 18 #[.pointer (some ⟨h, 0, none⟩)] Q w := by
  refine ref18 ?_
  unfold S18
  have hl := hm.l
  simp only [stp, Nat.reduceAdd, Int.reduceLT, Int.reduceLE, Int.reduceEq, Int.reduceNe, ne_eq, bne_self_eq_false, beq_self_eq_true, hl, Option.isSome_some, Option.getD_some]
  refine ref99 ?_
  unfold S99
  obtain ⟨sa, cp, rfl⟩ := hm.own.form
  rw [act_box]
  have b1 : blk (w.alloc (.cells #[.slice sa n cp] 30)) (siz w) = some (.cells #[.slice sa n cp] 30) := blk_alloc_new
  have k1 : Keep (fun _ => False) w (w.alloc (.cells #[.slice sa n cp] 30)) := (Keep.refl _ w).alloc _
  have s1 : siz (w.alloc (.cells #[.slice sa n cp] 30)) = siz w + 1 := siz_alloc
  show pur _ _ _
  have hgen : ∀ w1, blk w1 (siz w) = some (.cells #[.slice sa n cp] 30) → Keep (fun _ => False) w w1 → siz w1 = siz w + 1 → callS Tryz.prog 98 #[.func (.func 194) #[] #[.pointer (some ⟨siz w, 0, none⟩)], .func (.func 100) #[] #[]] (fun v w' => Keep (fun _ => False) w w' ∧ ∃ (A : Nat) (l' : List It), siz w ≤ A ∧ l'.Perm (items n f) ∧ l'.Pairwise (fun x y => ¬ lt y x) ∧ Sh.Own w' A 155 1 v n (l'.map ptr)) w1 := fun w1 b1 k1 s1 => by
    refine ref98 ?_
    unfold S98
    have hm1 := hm.still k1
    have hbb : ∃ b, b < siz w1 ∧ (0 < n → sa = some ⟨b, 0, none⟩) ∧ ∀ j, j < n → cel w1 b j = some (pp (f j).b) := by
      rcases Nat.eq_zero_or_pos n with h0 | h0
      · exact ⟨siz w, by omega, fun h => by omega, fun j hj => by omega⟩
      · obtain ⟨b, c', e, _, hb, _, _, _, hcel⟩ := Sh.Own.at hm1.own h0
        injection e with e1 _ _
        refine ⟨b, hb, fun _ => e1, fun j hj => ?_⟩
        rw [hcel j (by omega), List.getElem?_map, List.getElem?_range hj]; rfl
    obtain ⟨b, hb, ha, hc⟩ := hbb
    refine append_c (g := fun j => (f j).b) ha hn (by omega) hb (by show celO (blk w1 (siz w)) 0 = _; rw [b1]; rfl) hc fun w2 v o2 k2 => ?_
    have hu : (upto (fun j => (f j).b) n).map pp = (items n f).map ptr := by
      unfold upto items
      rw [List.map_map, List.map_map]; rfl
    rw [hu] at o2
    have hm2 := hm1.still k2
    refine psort_c hm2.it (fun k hk => fre_lt (hm1.it k hk).fre) hn o2 fun w3 l' hp hs o3 k3 => ?_
    exact ⟨(k1.trans k2).trans' k3 fun b hb e => by have := (Sh.Own.lt o2 e).1; omega, siz w1, l', by omega, hp, hs, o3⟩
  simp only [stp, Nat.reduceAdd, Int.reduceLT, Int.reduceLE, Int.reduceEq, Int.reduceNe, ne_eq, bne_self_eq_false, beq_self_eq_true]
  refine callS_mono (hgen _ b1 k1 s1) fun v w2 ⟨k2, A, l', hA, hp, hs, o2⟩ => ?_
  have hll : l'.length = n := by rw [hp.length_eq]; simp [items]
  have hm2 := hm.still k2
  obtain ⟨pa, ca, rfl⟩ := o2.form
  simp only [stp, Nat.reduceAdd, Int.reduceLT, Int.reduceLE, Int.reduceEq, Int.reduceNe, ne_eq, bne_self_eq_false, beq_self_eq_true]
  have kz := k2.size
  refine lp2 (fun m x y w' => ∃ i : Nat, y = .int .i64 (i : Int) ∧ i ≤ n ∧ m = n - i ∧ Sh.Own w' (siz w2) 3 1 x i ((l'.take i).map It.v) ∧ Keep (fun _ => False) w2 w') n ⟨0, rfl, Nat.zero_le _, rfl, Sh.Own.nil _ _ _ _, Keep.refl _ _⟩ ?_
  rintro m x y w3 ⟨i, rfl, hi, hmm, o3, k3⟩ J hJ _j
  subst m
  by_cases hlt : i < n
  case neg =>
    have hlt' : ¬ ((i : Int) < (n : Int)) := by omega
    have hie : i = n := by omega
    subst hie
    simp only [stp, Nat.reduceAdd, Int.reduceLT, Int.reduceLE, Int.reduceEq, Int.reduceNe, ne_eq, bne_self_eq_false, beq_self_eq_true, hlt']
    rw [List.take_of_length_le (by omega)] at o3
    exact hq w3 x l' (k2.trans k3) hp hs (o3.le kz)
  have hlt' : ((i : Int) < (n : Int)) := by omega
  have hwi := wrap_succ (i := i) (by omega)
  have oi := Sh.Own.keep o2 k3 fun _ _ e => e
  obtain ⟨g, c', e, _, _, _, _, _, hcel⟩ := Sh.Own.at oi (by omega)
  injection e with e1 _ e2
  subst e1 e2
  have hx := hcel i (by omega)
  rw [List.getElem?_map, List.getElem?_eq_getElem (by omega), Option.map_some] at hx
  obtain ⟨j, hj, hxj⟩ := List.mem_map.1 (hp.mem_iff.1 (List.getElem_mem (h := show i < l'.length by omega)))
  have it := (hm2.still k3).it j (List.mem_range.1 hj)
  rw [hxj] at it
  have hix : ∀ K, pur Tryz.prog (Instr.indexAt 30 (.slice (some ⟨g, 0, none⟩) n ca) (.int .i64 (i : Int))) K = K (.pointer (some ⟨g, i, none⟩)) := fun K => by
    rw [ix_30 hlt, Nat.zero_add]; try rw [Nat.mul_one]
  simp only [stp, Nat.reduceAdd, Int.reduceLT, Int.reduceLE, Int.reduceEq, Int.reduceNe, ne_eq, bne_self_eq_false, beq_self_eq_true, hlt', hix, hx, ptr, it.v, it.ov, Option.isSome_some, Option.getD_some]
  refine pu_64 o3 (by intro u hu; simp only [List.mem_cons, List.not_mem_nil, or_false] at hu; subst hu; exact it.ov) (by omega) k3.size fun v' w4 o4 k4 hr => ?_
  simp only [stp, Nat.reduceAdd, Int.reduceLT, Int.reduceLE, Int.reduceEq, Int.reduceNe, ne_eq, bne_self_eq_false, beq_self_eq_true, hwi]
  refine hJ (n - (i + 1)) _ _ _ (by omega) ⟨i + 1, rfl, by omega, rfl, ?_, k3.trans' k4 fun b hb e => by have := (Sh.Own.lt o3 e).1; omega⟩
  rw [List.take_add_one, List.getElem?_eq_getElem (by omega), List.map_append]
  exact o4
end
end Go.Proofs.YtndjohbbaplekaaGreatH.Hi
