/- slices.AppendSeq of nothing over slices.Values at the heap's items. Conditions: as each says. -/
import Derived.RegionIn
import Derived.Shelf.RegionOpen
import Derived.Test.YtndjohbbaplekaaGreatHHeapV
set_option linter.unusedSimpArgs false
set_option linter.unusedVariables false
namespace Go.Proofs.YtndjohbbaplekaaGreatH.V
open Go.RowKit Go.Shelf
section
open Go.Sh
attribute [local go_sem] Oper.semAt_some
/-- No panic, and nothing outgrown. -/
def calm (Q : Exit → Act → World → Prop) : Exit → Act → World → Prop
  | .panic _, _, _ => False
  | .outgrown, _, _ => False
  | e, a, w => Q e a w
theorem calm_out {Q : Exit → Act → World → Prop} (e : Exit) (a : Act) (w : World) (h : calm Q e a w) : Q e a w := by
  cases e <;> first | exact h | exact h.elim
theorem _root_.Go.Sh.Keep.blk' {F : Nat → Prop} {w w' : World} (k : Keep F w w') {b : Nat} {o : Obj} (h : Sh.blk w b = some o) (hn : ¬ F b) : Sh.blk w' b = some o := by rw [k.block b (blk_lt h) hn]; exact h
set_option maxRecDepth 100000
set_option maxHeartbeats 4000000
theorem ap_step {F : Fence} {n B k : Nat} {W : World} {ops : Array Oper} {rest : List Oper} {o : Oper} {a : Act} {Q : Exit → Act → World → Prop} {v : Value} {xs : List Value} {x b : Nat} (hg : o.guard = none) (s y : Operand) (hop : o.op = Op.call { callee := Callee.builtin Builtin.append, args := #[s, y], argTypes := #[30, 30] })
    (hs : a.eval s = v) (hown : Sh.Own W B 155 1 v k xs) (hx : a.eval y = .slice (some ⟨b, 0, none⟩) 1 1) (hc : W.cell? ⟨b, 0, none⟩ = some (pp x)) (b1 : k ≤ 1000) (b3 : B ≤ W.heap.size)
    (hK : ∀ v' w', Sh.Own w' B 155 1 v' (k + 1) (xs ++ [pp x]) → W.grownBy w' v.ownBlock → wpListIn F n Tryz.prog ops Q rest (a.put o.dst v') w') :
    wpListIn F n Tryz.prog ops Q (o :: rest) a W :=
  wpListIn_append_own W hg s y 30 hop B 155 Tryz.t155 (.pointer none) 1 8 Tryz.underlying30 (by kernel_rfl) rfl rfl rfl rfl (by decide) v k xs hs hown ⟨b, 0, none⟩ 1 1 [pp x] hx rfl
    (fun j u hu => by
      cases j with
      | zero => injection hu with hu; rw [← hu]; exact hc
      | succ j => simp at hu) (by simp [Value.oneCell']) (by unfold maxLen; omega) (by omega) b3 fun v' w' h1 h2 _ => hK v' w' h1 h2
/-- Between two rounds: the box holds a row of one's own that holds what came. -/
def IA (w : World) (pre : List Nat) (W : World) : Prop := ∃ v, blk W (siz w) = some (.cells #[v] 30) ∧ Sh.Own W (siz w) 155 1 v pre.length (pre.map pp) ∧ Keep (fun _ => False) w W
theorem append_t {w : World} {Bs b cap len : Nat} {sa : Option Addr} (ha : 0 < len → sa = some ⟨b, 0, none⟩) {f : Nat → Nat} (hlen : len ≤ 1000) (hBs : Bs < siz w) (hb : b < siz w) (hc0 : cel w Bs 0 = some (.slice sa len cap)) (hc : ∀ j, j < len → cel w b j = some (pp (f j))) (P : Ending → World → Prop)
    (hP : ∀ w' v, Sh.Own w' (siz w) 155 1 v len ((upto f len).map pp) → Keep (fun _ => False) w w' → P (.returned v) w') :
    Calls Tryz.prog 236 #[.slice none 0 0, .func (.func 194) #[] #[.pointer (some ⟨Bs, 0, none⟩)]] w P := by
  refine (callsIn_wide (n := 3)).1 ?_
  refine callsIn_of_wp_marks Tryz.func236 rfl trivial ?_ rfl
  refine Code.wpIn_mono calm_out ?_
  simp only [Tryz.ntmps236, List.size_toArray, List.length_cons, List.length_nil, Nat.reduceAdd, Nat.reduceSub, Array.replicate_succ, Array.replicate_zero, List.push_toArray, List.append_toArray, List.nil_append, List.cons_append]
  gi_wp2
  rename_i K hK
  have hgh := hK
  generalize hw1 : w.alloc _ = w1
  have k1 : Keep (fun _ => False) w w1 := by rw [← hw1]; exact (Keep.refl _ w).alloc _
  have b1 : blk w1 (siz w) = some (.cells #[.slice none 0 0] 30) := by rw [← hw1]; exact blk_alloc_new
  have s1 : siz w1 = siz w + 1 := by rw [← hw1, siz_alloc]
  have e1 : w1.heap.size = siz w1 := rfl
  refine wpIn_rangeFunc_ownF (F := Fence.wide) (n := 3) rfl (by omega) (gf := 194) (lb := #[.pointer (some ⟨Bs, 0, none⟩)]) rfl trivial (enters_of Tryz.func194 (by kernel_rfl) rfl)
    (vals_stops Fence.wide 2 trivial rfl (by omega) Bs b len cap sa ha f (by omega) w1 (by rw [e1]; omega) (by rw [e1]; omega) (by rw [cell_cel]; exact k1.cel hc0 fun e => e) (fun j hj => by rw [cell_cel]; exact k1.cel (hc j hj) fun e => e))
    (fun h k => h.trans k) (fun W l o o' hl ho _ _ => ?kb) (Below.refl _ _) (fun _ => rfl)
    (IA w) (fun _ _ _ => False)
    (fun s A B row hs hg hr => ?own) (fun _ _ _ _ _ hs _ _ => hs) ⟨_, b1, Sh.Own.nil _ _ _ _, k1⟩
    (fun x => { tmps := #[.slice none 0 0, .func (.func 194) #[] #[.pointer (some ⟨Bs, 0, none⟩)], .pointer (some ⟨w.heap.size, 0, none⟩), undef, .slice none 0 0, pp x,
        .func (.func 194) #[] #[.pointer (some ⟨Bs, 0, none⟩)], pp x, undef, undef, undef, undef, undef], defers := [] }) ?assign ?body ?done ?stop
  case kb =>
    have n1 : l ≠ Bs := by omega
    have n2 : l ≠ b := by omega
    exact ⟨World.putObj_heap_other n1.symm, World.putObj_heap_other n2.symm⟩
  case own =>
    obtain ⟨v, h1, h2, h3⟩ := hs
    have hk : Keep (fun b => row = some b) A B := grown_keep hg
    have hnc : ∀ c cs tt, row = some c → blk A c = some (.cells cs tt) → False := fun c cs tt hrow hbl => by
      obtain ⟨_, o, ho, hoc⟩ := hr c hrow
      have : o = .cells cs tt := by have := ho.symm.trans hbl; injection this
      subst this
      cases hoc
    refine ⟨v, hk.blk' h1 fun e => hnc _ _ _ e h1, Sh.Own.keep h2 hk fun g hg' e => ?_, h3.trans' hk fun b hb e => ?_⟩
    · rcases h2.2 with ⟨h, _⟩ | ⟨g', cap', cur, h, _, hbl, _⟩
      · rw [h] at hg'; cases hg'
      · rw [h] at hg'
        injection hg' with hg'
        subst hg'
        exact hnc _ _ _ e hbl
    · have := (hr b e).1
      omega
  case assign =>
    intro l x W K hK
    gi_wp2
    exact hK
  case body =>
    rintro l pre x W ⟨v, hbx, hown, hkw⟩ hpre
    have xW : W.cell? ⟨w.heap.size, 0, none⟩ = some v := by rw [cell_cel]; show celO (blk W (siz w)) 0 = _; rw [hbx]; rfl
    have fW : W.frozen? ⟨w.heap.size, 0, none⟩ = false := frozen_fre (by show freeO (blk W (siz w)) = true; rw [hbx]; rfl)
    clear e1
    have hownA : Sh.Own (W.alloc (.cells #[pp x] 155)) (siz w) 155 1 v pre.length (pre.map pp) := Sh.Own.keep hown ((Keep.refl (fun _ => False) W).alloc _) fun _ _ e => e
    have cA : (W.alloc (.cells #[pp x] 155)).cell? ⟨W.heap.size, 0, none⟩ = some (pp x) := by rw [cell_cel]; exact cel_alloc_new
    have szA : siz w ≤ (W.alloc (.cells #[pp x] 155)).heap.size := Nat.le_trans hkw.size (by show W.heap.size ≤ _; simp)
    have nobox : v.ownBlock = some (siz w) → False := fun e => by
      rcases hown.2 with ⟨h, _⟩ | ⟨g', cap', cur, h, _, hbl, _⟩
      · rw [h] at e; cases e
      · rw [h] at e
        injection e with e
        subst e
        have := hbl.symm.trans hbx
        injection this with this
        injection this with _ h2
        exact absurd h2 (by decide)
    gi_wp2_with (first
      | (gi_at_builtin; refine ap_step (B := siz w) (x := x) (k := pre.length) (xs := pre.map pp) rfl _ _ rfl rfl hownA rfl cA (by omega) szA ?_; intro v' w3 hown' hg3
         obtain ⟨g', cap', rfl⟩ : ∃ g' cap', v' = .slice (some ⟨g', 0, none⟩) (pre.length + 1) cap' := by
           rcases hown'.2 with ⟨_, h0⟩ | ⟨g', cap', cur, h, _⟩
           · omega
           · exact ⟨g', cap', h⟩
         have hb3 : blk w3 (siz w) = some (.cells #[v] 30) := (grown_keep hg3).blk' (((Keep.refl (fun _ => False) W).alloc _).blk' hbx fun e => e) fun e => nobox e
         have hc3 : w3.cell? ⟨w.heap.size, 0, none⟩ = some v := by rw [cell_cel]; show celO (blk w3 (siz w)) 0 = _; rw [hb3]; rfl
         have hf3 : w3.frozen? ⟨w.heap.size, 0, none⟩ = false := frozen_fre (by show freeO (blk w3 (siz w)) = true; rw [hb3]; rfl)))
    have hgk := grown_keep hg3
    have ka : Keep (fun _ => False) W (W.alloc (.cells #[pp x] 155)) := (Keep.refl _ W).alloc _
    have hg4 : Sh.Own (sto w3 (siz w) 0 (.slice (some ⟨g', 0, none⟩) (pre.length + 1) cap')) (siz w) 155 1 (.slice (some ⟨g', 0, none⟩) (pre.length + 1) cap') (pre.length + 1) (pre.map pp ++ [pp x]) := Sh.Own.keep hown' ((Keep.refl (fun b => b = siz w) w3).sto (.inl rfl) _ _) fun g hg e => by
      injection hg with hg
      subst hg
      rcases hown'.2 with ⟨h, _⟩ | ⟨g2, cap2, cur, h, _, hbl, _⟩
      · cases h
      · injection h with h1 _ _
        injection h1 with h1
        injection h1 with h1 _ _
        subst h1
        have : blk w3 (siz w) = some (.cells cur 155) := e ▸ hbl
        rw [hb3] at this
        injection this with this
        injection this with _ h2
        exact absurd h2 (by decide)
    have kk : Keep (fun b => siz w ≤ b) W (sto w3 (siz w) 0 (.slice (some ⟨g', 0, none⟩) (pre.length + 1) cap')) :=
      (ka.none.trans (hgk.mono fun b _ e => (Sh.Own.lt hownA e).1)).sto (.inl (Nat.le_refl _)) _ _
    have ko : KeepsOthers W (sto w3 (siz w) 0 (.slice (some ⟨g', 0, none⟩) (pre.length + 1) cap')) := by
      refine (KeepsOthers.alloc W _).trans (KeepsOthers.trans (B := w3) ⟨hgk.size, fun k o hk ho => hgk.blk' hk fun e => ?_⟩ (KeepsOthers.setCell w3 _ _))
      rcases hownA.2 with ⟨h, _⟩ | ⟨g2, cap2, cur, h, _, hbl, _⟩
      · rw [h] at e; cases e
      · rw [h] at e
        injection e with e
        subst e
        have := hk.symm.trans hbl
        injection this with this
        subst this
        cases ho
    have hwW := hkw.size
    have hb4 : blk (sto w3 (siz w) 0 (.slice (some ⟨g', 0, none⟩) (pre.length + 1) cap')) (siz w) = some (.cells #[.slice (some ⟨g', 0, none⟩) (pre.length + 1) cap'] 30) := by
      have hb3' : w3.heap[siz w]? = some (.cells #[v] 30) := hb3
      simp only [blk, sto, World.setCell, Array.getElem?_modify, hb3', if_true]; rfl
    refine ⟨ko, ⟨kk.block Bs (by omega) (by omega), kk.block b (by omega) (by omega)⟩, _, hb4, ?_, hkw.trans' kk fun b hb e => by omega⟩
    rw [List.length_append, List.map_append]
    exact hg4
  case done =>
    rintro D xs W hD rfl ⟨v, hbx, hown, hkw⟩ hD2
    have xW : W.cell? ⟨w.heap.size, 0, none⟩ = some v := by rw [cell_cel]; show celO (blk W (siz w)) 0 = _; rw [hbx]; rfl
    clear e1
    gi_wp2
    refine (show bodyPostM Fence.wide 3 Tryz.prog Tryz.f236 P Exit.ret _ W from ?_)
    refine ⟨by simp, .inl ⟨_, _, rfl, run_takeDeferred hD2, ?_⟩⟩
    refine ⟨_, results_tmp rfl _ _ _, ?_⟩
    have hDs : siz w ≤ D := by have : siz w1 ≤ D := hD; omega
    have hkp : Keep (fun b => b = D) W (W.putObj D (.deferred none)) := ⟨rfl, rfl, rfl, Nat.le_of_eq World.putObj_size.symm, fun b hb hn => World.putObj_heap_other hn⟩
    refine hP _ v (Sh.Own.keep (by rw [upto_len] at hown; exact hown) hkp fun g hg e => ?_) (hkw.trans' hkp fun b hb e => by omega)
    subst e
    rcases hown.2 with ⟨h, _⟩ | ⟨g2, cap2, cur, h, _, hbl, _⟩
    · rw [h] at hg; cases hg
    · rw [h] at hg
      injection hg with hg
      subst hg
      have := hbl.symm.trans hD2
      injection this with this
      cases this
  case stop =>
    rintro D cc pre W _ _ h _
    exact h.elim
end
end Go.Proofs.YtndjohbbaplekaaGreatH.V
