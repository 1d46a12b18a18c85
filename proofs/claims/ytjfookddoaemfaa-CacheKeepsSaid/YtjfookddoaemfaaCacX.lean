/- The cache: an entry set anew, its place kept (a range over slices.Backward). Conditions: as each says. -/
import Derived.RegionIn
import Derived.Shelf.RegionOpen
import Derived.Test.YtjfookddoaemfaaCacW
set_option linter.unusedSimpArgs false
set_option linter.unusedVariables false
namespace Go.Proofs.Ytjfookddoaemfaa
open Go.Sh Go.Sh.Lrv Go.Proofs.Ytjfookddoaemfaa.Lv
set_option maxRecDepth 100000
section
variable {w w' : World} {Q : Value → World → Prop} {c lc room : Nat} {es : List En} {ps : List (En × Nat)} {F : Nat → Prop}
theorem _root_.Go.Sh.Keep.others {G : Nat → Prop} (k : Keep G w w') (hG : ∀ b, G b → Sh.fre w b = true) : KeepsOthers w w' := ⟨k.size, fun b o hb ho => by
  have hbl : blk w b = some o := hb
  have := k.block b (blk_lt hbl) fun hg => by
    have hf := hG b hg
    rw [Sh.fre, hbl] at hf
    cases o <;> first | (cases ho; done) | (cases hf; done)
  show blk w' b = some o
  rw [this, hbl]⟩
theorem gGetD (h : GS w lc room ps F) {e : En} {p : Nat} (he : (e, p) ∈ ps) (hq : ∀ w', GS w' lc room ps F → Keep F w w' → KeepsOthers w w' → Q (.tuple #[vE e, .bool true]) w') :
    callS Try.prog 28 #[.pointer (some ⟨lc, 0, none⟩), .int .i64 e.1] Q w := by
  obtain ⟨mb, A, n, C, hr, hF, rfl, rfl, hp, hk⟩ := h.hit he
  rw [← hk n (by simp)]
  refine get_hitD hr fun w1 h1 k1 => hq w1 ⟨mb, n :: (A ++ C), h1, fun b hb => hF b (foot_perm (fun m hm => ⟨m, by simp at hm ⊢; rcases hm with h | h | h <;> simp [h], rfl⟩) hb), ?_, fun m hm => hk m (by simp at hm ⊢; rcases hm with h | h | h <;> simp [h])⟩ (k1.mono fun b _ hb => hF b hb.1) (k1.others fun b hb => ?_)
  · refine List.Perm.trans ?_ hp
    exact (List.perm_middle.symm.map _)
  · rcases hb with ⟨h | h | ⟨m, hm, h⟩, h2⟩
    · rw [h]; exact hr.fc
    · exact absurd h h2
    · rw [h]; exact (hr.node m hm).fre
theorem gKeys (h : GS w lc room ps F) (hne : ps ≠ []) (hq : ∀ w' g cap n (f : Nat → Int), 0 < n → n ≤ 100000 → (∀ j, j < n → ∃ x ∈ ps, x.1.1 = f j) → K0 w w' → siz w ≤ g → g < siz w' → (∀ j, j < n → cel w' g j = some (.int .i64 (f j))) → Q (.slice (some ⟨g, 0, none⟩) n cap) w') :
    callS Try.prog 39 #[.pointer (some ⟨lc, 0, none⟩)] Q w := by
  have hlen := h.len
  obtain ⟨mb, L, hr, hF, hp, hk⟩ := h
  have hll : L.length = ps.length := by rw [← hp.length_eq, List.length_map]
  have hpos : 0 < L.length := by
    rw [hll]; exact List.length_pos_iff.2 hne
  refine keys_c hr fun w1 vk ok k1 => ?_
  obtain ⟨g, c', e, h1, h2, _, _, _, hcel⟩ := Sh.Own.at ok hpos
  subst e
  refine hq w1 g c' L.length (fun j => ((L[j]?.map fun n => n.v.1).getD 0)) hpos (by omega) (fun j hj => ?_) k1 h1 h2 fun j hj => ?_
  · refine ⟨(L[j].v, L[j].p), hp.mem_iff.1 (List.mem_map_of_mem (f := fun n : Nd => (n.v, n.p)) (List.getElem_mem hj)), ?_⟩
    rw [List.getElem?_eq_getElem hj]; rfl
  · rw [hcel j (by omega), List.getElem?_map, List.getElem?_eq_getElem hj, Option.map_some, hk _ (List.getElem_mem hj)]; rfl
theorem gGet_any (h : GS w lc room ps F) (k : Int) (hq : ∀ w' v, GS w' lc room ps F → Keep F w w' → KeepsOthers w w' → Q v w') :
    callS Try.prog 28 #[.pointer (some ⟨lc, 0, none⟩), .int .i64 k] Q w := by
  by_cases hx : ∃ x ∈ ps, x.1.1 = k
  · obtain ⟨⟨e, p⟩, hx, rfl⟩ := hx
    exact gGetD h hx fun w' h1 h2 h3 => hq w' _ h1 h2 h3
  · obtain ⟨mb, L, hr, hF, hp, hen⟩ := h
    exact get_miss hr (isI k) (g_miss hp hen fun x hx' e => hx ⟨x, hx', e⟩) fun w' k' => hq w' _ ⟨mb, L, hr.keep0 k', hF, hp, hen⟩ k'.none (k'.others fun b hb => hb.elim)
theorem backward_c {v : Value} (hq : Q (.func (.func 59) #[] #[.pointer (some ⟨siz w, 0, none⟩)]) (w.alloc (.cells #[v] 46))) (hv : v.cells = #[v]) : callS Try.prog 49 #[v] Q w := by
  refine ref49 ?_
  unfold S49
  rw [act_box, hv]
  simp only [stp, Nat.reduceAdd, Int.reduceLT, Int.reduceLE, Int.reduceEq, Int.reduceNe, ne_eq, bne_self_eq_false, beq_self_eq_true]
  exact hq
theorem cIn {n g : Nat} {args : Array Value} {R : Ending → World → Prop} (h : callS Try.prog g args Q w) (hq : ∀ v w', Q v w' → R (.returned v) w') : CallsIn Fence.wide n Try.prog g args w R :=
  (callsIn_wide.2 h.2).mono fun e w' ⟨v, he, hv⟩ => he ▸ hq v w' hv
end
section
open Go.RowKit Go.Shelf
attribute [local go_sem] Oper.semAt_some
set_option maxHeartbeats 4000000
/-- No panic, and nothing outgrown. -/
def calm (Q : Exit → Act → World → Prop) : Exit → Act → World → Prop
  | .panic _, _, _ => False
  | .outgrown, _, _ => False
  | e, a, w => Q e a w
theorem calm_out {Q : Exit → Act → World → Prop} (e : Exit) (a : Act) (w : World) (h : calm Q e a w) : Q e a w := by
  cases e <;> first | exact h | exact h.elim
theorem set_t1 {w : World} {c lc room : Nat} {ps : List (En × Nat)} {F : Nat → Prop} {e : En} (hc : cel w c 0 = some (.pointer (some ⟨lc, 0, none⟩))) (hFc : ¬ F c) (h : GS w lc room ps F) (hne : ps ≠ []) (hrm : 0 < room) (hlt : ∀ b, F b → b < siz w) (P : Ending → World → Prop) (hP : ∀ w' F' ps' done, GS w' lc room ps' F' → St F F' w w' → Rel room ps e ps' done → P (.returned (.tuple #[])) w') :
    Calls Try.prog 26 #[.pointer (some ⟨c, 0, none⟩), vE e] w P := by
  refine (callsIn_wide (n := 3)).1 ?_
  refine callsIn_of_wp_marks Try.func26 rfl trivial ?_ rfl
  refine Code.wpIn_mono calm_out ?_
  simp only [Try.ntmps26, List.size_toArray, List.length_cons, List.length_nil, Nat.reduceAdd, Nat.reduceSub, Array.replicate_succ, Array.replicate_zero, List.push_toArray, List.append_toArray, List.nil_append, List.cons_append]
  gi_wp2
  generalize hw2 : (w.alloc _).alloc _ = w2
  have k2 : K0 w w2 := by rw [← hw2]; exact ((K0.refl w).alloc _).alloc _
  have bc : blk w2 w.heap.size = some (.cells #[.pointer (some ⟨c, 0, none⟩)] 23) := by
    rw [← hw2, blk_alloc_old (by rw [siz_alloc]; exact Nat.lt_succ_self _)]; exact blk_alloc_new
  have be : blk w2 (w.heap.size + 1) = some (.cells (encE e).toArray 49) := by
    rw [← hw2]
    have := blk_alloc_new (w := w.alloc (.cells #[.pointer (some ⟨c, 0, none⟩)] 23)) (o := .cells (encE e).toArray 49)
    rw [siz_alloc] at this
    exact this
  have hc2 := k2.cel hc fun e => e
  have h2 := h.keep0 k2
  refine ⟨trivial, cIn (all_c (Q := fun v w' => v = .pointer (some ⟨lc, 0, none⟩) ∧ w' = w2) hc2 ⟨rfl, rfl⟩) ?_⟩
  rintro v w2' ⟨rfl, rfl⟩
  dsimp only
  gi_wp2
  refine ⟨trivial, cIn (gKeys (Q := fun v w3 => ∃ g cap n f, v = .slice (some ⟨g, 0, none⟩) n cap ∧ 0 < n ∧ n ≤ 100000 ∧ (∀ j, j < n → ∃ x ∈ ps, x.1.1 = f j) ∧ K0 w2' w3 ∧ siz w2' ≤ g ∧ g < siz w3 ∧ (∀ j, j < n → cel w3 g j = some (.int .i64 (f j)))) h2 hne fun w3 g cap n f h1 h2 h3 h4 h5 h6 h7 => ⟨g, cap, n, f, rfl, h1, h2, h3, h4, h5, h6, h7⟩) ?_⟩
  rintro v w3 ⟨g, cap, n, f, rfl, hn0, hn1, hf, k3, hg1, hg2, hcel⟩
  dsimp only
  have bc3 := k3.blk bc fun e => e
  have be3 := k3.blk be fun e => e
  have hc3 := k3.cel hc2 fun e => e
  have h3 := h2.keep0 k3
  have c3 : w3.cell? ⟨w.heap.size, 0, none⟩ = some (.pointer (some ⟨c, 0, none⟩)) := by rw [cell_cel]; exact cel_b bc3 0
  have y0 : w3.cell? ⟨w.heap.size + 1, 0, none⟩ = some (.int .i64 e.1) := by rw [cell_cel]; exact cel_b be3 0
  have y1 : w3.cell? ⟨w.heap.size + 1, 1, none⟩ = some (.int .u64 e.2.1) := by rw [cell_cel]; exact cel_b be3 1
  have y2 : w3.cell? ⟨w.heap.size + 1, 2, none⟩ = some (.string e.2.2.1) := by rw [cell_cel]; exact cel_b be3 2
  have y3 : w3.cell? ⟨w.heap.size + 1, 3, none⟩ = some (.bool e.2.2.2.1) := by rw [cell_cel]; exact cel_b be3 3
  have y4 : w3.cell? ⟨w.heap.size + 1, 4, none⟩ = some (.int .u64 e.2.2.2.2) := by rw [cell_cel]; exact cel_b be3 4
  gi_wp2
  have hmx : Try.prog.follows .mixedOrders = true := by kernel_rfl
  rename_i K hK
  have hrest : ∀ (tt : Value) w4 F' ps' done, GS w4 lc room ps' F' → St F F' w3.drew w4 → Rel room ps e ps' done → K
    { tmps := #[.pointer (some ⟨c, 0, none⟩), vE e, .pointer (some ⟨w.heap.size, 0, none⟩), .pointer (some ⟨w.heap.size + 1, 0, none⟩), .slice (some ⟨g, 0, none⟩) n cap, undef, undef,
          .pointer (some ⟨c, 0, none⟩), .pointer (some ⟨lc, 0, none⟩), .slice (some ⟨g, 0, none⟩) n cap, .pointer (some ⟨c, 0, none⟩), .pointer (some ⟨lc, 0, none⟩), .pointer (some ⟨w.heap.size + 1, 0, none⟩),
          .pointer (some ⟨w.heap.size + 1, 0, none⟩), .int .i64 e.1, vE e, tt, undef, undef, undef, undef, undef, undef, undef, undef], defers := [] } w4 := by
    intro tt w4 F' ps' done h4 s4 r4
    refine hK _ _ ?_
    gi_wp2
    refine ⟨trivial, cIn (backward_c (v := .slice (some ⟨g, 0, none⟩) n cap) (Q := fun v w5 => v = .func (.func 59) #[] #[.pointer (some ⟨siz w4, 0, none⟩)] ∧ w5 = w4.alloc (.cells #[.slice (some ⟨g, 0, none⟩) n cap] 46)) ⟨rfl, rfl⟩ rfl) ?_⟩
    rintro v w5 ⟨rfl, hw5⟩
    dsimp only
    have k45 : K0 w4 w5 := by rw [hw5]; exact (K0.refl w4).alloc _
    have b5 : blk w5 (siz w4) = some (.cells #[.slice (some ⟨g, 0, none⟩) n cap] 46) := by rw [hw5]; exact blk_alloc_new
    clear hw5
    have sz2 := k2.size
    have sz3 := k3.size
    have sz4 := s4.keep.size
    have sz5 := k45.size
    have hw3d : siz w3.drew = siz w3 := rfl
    have e3 : w.heap.size = siz w := rfl
    have e5 : w5.heap.size = siz w5 := rfl
    have hgF : ¬ F g := fun e => by have := hlt _ e; omega
    have hcs := cel_lt' hc
    have hcs2 : siz w + 1 < siz w2' := blk_lt be
    have hwF : ¬ F (siz w) := fun e => by have := hlt _ e; omega
    have k4F : Keep F w3 w4 := ⟨s4.keep.os, s4.keep.tape, s4.keep.output, s4.keep.size, s4.keep.block⟩
    have nF' : ∀ b, b < siz w3 → ¬ F b → ¬ F' b := fun b hb hn e => (s4.sub _ e).elim hn (fun h => by omega)
    have k35 : Keep F w3 w5 := k4F.trans k45.none
    have hG5 := h4.ltF.keep0 k45
    have c5 := k35.cel hc3 hFc
    have bx5 := k35.blk bc3 hwF
    have hl5 : ∀ j, j < n → cel w5 g j = some (.int .i64 (f j)) := fun j hj => k35.cel (hcel j hj) hgF
    have hs4 := blk_lt b5
    gi_wp2
    refine wpIn_rangeFunc_ownF (F := Fence.wide) (n := 3) rfl (by omega) (gf := 59) (lb := #[.pointer (some ⟨siz w4, 0, none⟩)]) rfl trivial (enters_of Try.func59 (by kernel_rfl) rfl)
      (back_stops Fence.wide 2 trivial rfl (by omega) (siz w4) g n cap f (by omega) w5 hs4 (by rw [e5]; omega) (by rw [cell_cel]; exact cel_b b5 0) (fun j hj => by rw [cell_cel]; exact hl5 j hj))
      (fun h k => h.trans k) (fun W l o o' hl ho _ _ => ?kb) (Below.refl _ _) (fun _ => rfl)
      (fun _ W => GS W lc room ps' (fun b => F' b ∧ b < siz w4) ∧ Keep (fun b => F' b ∧ b < siz w4) w5 W) (fun _ _ _ => False)
      (fun s A B row hs hg hr => ?own) (fun _ _ _ _ _ hs _ _ => hs) ⟨hG5, Keep.refl _ _⟩
      (fun x => { tmps := #[.pointer (some ⟨c, 0, none⟩), vE e, .pointer (some ⟨w.heap.size, 0, none⟩), .pointer (some ⟨w.heap.size + 1, 0, none⟩), .slice (some ⟨g, 0, none⟩) n cap, undef, .int .i64 x.2,
          .pointer (some ⟨c, 0, none⟩), .pointer (some ⟨lc, 0, none⟩), .slice (some ⟨g, 0, none⟩) n cap, .pointer (some ⟨c, 0, none⟩), .pointer (some ⟨lc, 0, none⟩), .pointer (some ⟨w.heap.size + 1, 0, none⟩),
          .pointer (some ⟨w.heap.size + 1, 0, none⟩), .int .i64 e.1, vE e, tt, .slice (some ⟨g, 0, none⟩) n cap, .func (.func 59) #[] #[.pointer (some ⟨siz w4, 0, none⟩)], .int .i64 x.1, .int .i64 x.2, undef, undef, undef, undef], defers := [] }) ?assign ?body ?done ?stop
    case kb =>
      have n1 : l ≠ siz w4 := by omega
      have n2 : l ≠ g := by omega
      constructor
      · exact World.putObj_heap_other n1.symm
      · exact World.putObj_heap_other n2.symm
    case own =>
      have hk : Keep (fun b => row = some b) A B := grown_keep hg
      refine ⟨hs.1.keep hk fun b hb e => ?_, hs.2.trans' hk fun b hb e => ?_⟩
      · have := (hr b e).1; have := hb.2; omega
      · have := (hr b e).1; omega
    case assign =>
      intro l x W K hK
      gi_wp2
      exact hK
    case body =>
      rintro l pre x W ⟨hG, hKW⟩ _
      have cW := hKW.cel c5 (fun e => nF' c (by omega) hFc e.1)
      have bW := hKW.blk bx5 (fun e => nF' (siz w) (by omega) hwF e.1)
      have xW : W.cell? ⟨w.heap.size, 0, none⟩ = some (.pointer (some ⟨c, 0, none⟩)) := by rw [cell_cel]; exact cel_b bW 0
      have hc5 : c < siz w5 := by omega
      have hg5 : g < siz w5 := by omega
      have hwn : ∀ b, (F' b ∧ b < siz w4) → b ≠ siz w4 ∧ b ≠ g := fun b hb => ⟨fun e => by have := hb.2; omega, fun e => nF' g (by omega) hgF (e ▸ hb.1)⟩
      clear e3 e5 hw3d
      gi_wp2_with (first
        | (refine ⟨trivial, ?_⟩; gi_at_call 20; refine (CallsIn.inRound l (cIn (R := fun e w' => e = .returned (.pointer (some ⟨lc, 0, none⟩)) ∧ w' = W) (all_c (Q := fun v w' => v = .pointer (some ⟨lc, 0, none⟩) ∧ w' = W) cW ⟨rfl, rfl⟩) (fun v w' h => ⟨by rw [h.1], h.2⟩))).mono ?_; rintro ee w' ⟨rfl, hw'⟩; subst w')
        | (refine ⟨trivial, ?_⟩; gi_at_call 28; refine (CallsIn.inRound l (cIn (R := fun e w'' => ∃ v, e = .returned v ∧ GS w'' lc room ps' (fun b => F' b ∧ b < siz w4) ∧ Keep (fun b => F' b ∧ b < siz w4) W w'' ∧ KeepsOthers W w'') (gGet_any hG x.2 (Q := fun v w'' => GS w'' lc room ps' (fun b => F' b ∧ b < siz w4) ∧ Keep (fun b => F' b ∧ b < siz w4) W w'' ∧ KeepsOthers W w'') fun w'' v h1 h2 h3 => ⟨h1, h2, h3⟩) (fun v w'' h => ⟨v, rfl, h⟩))).mono ?_; rintro ee w'' ⟨v, rfl, hG'', hK'', hO''⟩))
      have hWs := hKW.size
      exact ⟨hO'', ⟨hK''.block (siz w4) (by omega) fun e => (hwn _ e).1 rfl, hK''.block g (by omega) fun e => (hwn _ e).2 rfl⟩, hG'', hKW.trans hK''⟩
    case done =>
      rintro D xs W hD rfl ⟨hG, hKW⟩ hK
      have hKD := hKW
      have hD' : siz w5 ≤ D := by omega
      clear e3 e5 hw3d
      gi_wp2
      refine (show bodyPostM Fence.wide 3 Try.prog Try.f26 P Exit.normal _ W from ?_)
      refine ⟨by simp, .inl ⟨_, _, rfl, run_takeDeferred hK, ?_⟩⟩
      refine ⟨_, results_none rfl _ _ _, ?_⟩
      have hkp : Keep (fun b => b = D) W (W.putObj D (.deferred none)) := ⟨rfl, rfl, rfl, Nat.le_of_eq World.putObj_size.symm, fun b hb hn => World.putObj_heap_other hn⟩
      have hkk : Keep (fun b => F' b ∧ b < siz w4) w5 (W.putObj D (.deferred none)) := hKW.trans' hkp fun b hb e => by omega
      have hk3 : K0 w w3 := k2.trans k3
      refine hP _ (fun b => F' b ∧ b < siz w4) ps' done (hG.keep hkp fun b hb e => by have := hb.2; omega) ⟨?_, fun b hb => (s4.sub b hb.1).imp id fun h => ?_⟩ r4
      · exact (hk3.none.trans k35).trans' hkk fun b hb e => (s4.sub b e.1).resolve_right fun h => by have : siz w3 ≤ b := h; omega
      · have : siz w3 ≤ b := h
        omega
    case stop =>
      rintro D cc pre W _ _ h _
      exact h.elim
  gi_region_with_o (first
    | (refine ⟨trivial, ?_⟩; gi_at_call 20; refine cIn (all_c (Q := fun v w' => v = .pointer (some ⟨lc, 0, none⟩) ∧ w' = w3.drew) hc3 ⟨rfl, rfl⟩) ?_; rintro v w3' ⟨rfl, rfl⟩; dsimp only)
    | (refine ⟨trivial, ?_⟩; gi_at_call 23; refine cIn (gPut (Q := fun v w' => ∃ F' ps' done zk zv zb, v = .tuple #[.int .i64 zk, vE zv, .bool zb, .bool done] ∧ GS w' lc room ps' F' ∧ St F F' w3.drew w' ∧ Rel room ps e ps' done) (h3.keep0 (K0.refl w3).drew) hrm fun w' F' ps' done zk zv zb h1 h2 h3 => ⟨F', ps', done, zk, zv, zb, rfl, h1, h2, h3⟩) ?_; rintro v w4 ⟨F', ps', done, zk, zv, zb, rfl, h4, s4, r4⟩; dsimp only))
  all_goals exact hrest _ _ _ _ _ h4 s4 r4
end
section
variable {w w' : World} {Q : Value → World → Prop} {c lc room : Nat} {es : List En} {ps : List (En × Nat)} {F : Nat → Prop}
theorem set_c {e : En} (hc : cel w c 0 = some (.pointer (some ⟨lc, 0, none⟩))) (hFc : ¬ F c) (h : GS w lc room ps F) (hne : ps ≠ []) (hrm : 0 < room) (hlt : ∀ b, F b → b < siz w) (hq : ∀ w' F' ps' done, GS w' lc room ps' F' → St F F' w w' → Rel room ps e ps' done → Q (.tuple #[]) w') :
    callS Try.prog 26 #[.pointer (some ⟨c, 0, none⟩), vE e] Q w :=
  ⟨fun a w => Try.call26 a w, set_t1 hc hFc h hne hrm hlt _ fun w' F' ps' done h1 h2 h3 => ⟨_, rfl, hq w' F' ps' done h1 h2 h3⟩⟩
/-- Clean of a block that is dirty, at its version. -/
theorem clean_hit (h : CS w c room es F) (hrm : 0 < room) {e : En} {r : List En} (hp : es.Perm (e :: r)) (hd : e.2.2.2.1 = true) (hq : ∀ w' F', CS w' c room ((e.1, e.2.1, e.2.2.1, false, 0) :: r) F' → St F F' w w' → Q (.bool true) w') :
    callS Try.prog 12 #[.pointer (some ⟨c, 0, none⟩), .int .i64 e.1, .int .u64 e.2.1] Q w := by
  refine ref12 ?_
  unfold S12
  obtain ⟨lc, hc, hFc, hl⟩ := h
  have hcs := cel_lt' hc
  have hg := hl.gs.ltF
  have he : e ∈ es := hp.mem_iff.2 (List.mem_cons_self ..)
  refine all_c hc ?_
  refine gPeek_hit hg (pins_of he) fun w1 k1 => ?_
  simp only [stp, Nat.reduceAdd, Int.reduceLT, Int.reduceLE, Int.reduceEq, Int.reduceNe, ne_eq, bne_self_eq_false, beq_self_eq_true]
  generalize hw4 : w1.alloc _ = w4
  have b4 : blk w4 (siz w1) = some z5 := by rw [← hw4]; exact blk_alloc_new
  have k4 : K0 w1 w4 := by rw [← hw4]; exact (K0.refl w1).alloc _
  refine st_tmp b4 fun w5 k5 en => ?_
  have k14 : K0 w w4 := k1.trans k4
  have sz := k1.size
  have k15 : K0 w w5 := k14.trans' k5 fun b hb e => by omega
  obtain ⟨c0, c1, c2, c3, c4⟩ := en.cs
  rw [Nat.zero_add] at c1 c2 c3 c4
  rw [hd] at c3
  have hvv : (e.2.1 = e.2.1) := rfl
  simp only [stp, Nat.reduceAdd, Int.reduceLT, Int.reduceLE, Int.reduceEq, Int.reduceNe, ne_eq, bne_self_eq_false, beq_self_eq_true, c1, c3, Option.isSome_some, Option.getD_some, hvv, not_true_eq_false, decide_false]
  rw [ld_30 (by rw [c0]; rfl) (by rw [c1]; rfl) (by rw [c2]; rfl), c0, c1, c2]
  simp only [Option.getD_some, stp, Nat.reduceAdd, Int.reduceLT, Int.reduceLE, Int.reduceEq, Int.reduceNe, ne_eq, bne_self_eq_false, beq_self_eq_true]
  refine set_c (e := (e.1, e.2.1, e.2.2.1, false, 0)) (k15.cel hc fun e => e) (fun e => hFc e.1) (hg.keep0 k15) (fun h0 => by have := pins_of he; rw [h0] at this; cases this) hrm (fun b hb => by have := hb.2; have := k15.size; omega) fun w6 F' ps' done h6 s6 r6 => ?_
  have s06 := (St.of0 (F := fun b => F b ∧ b < siz w) k15).trans s6
  have hnd : (es.map (·.1)).Nodup := hl.nodup
  have c6 : cel w6 c 0 = some (.pointer (some ⟨lc, 0, none⟩)) := s06.keep.cel hc fun e => hFc e.1
  have hps : ps' = ((e.1, e.2.1, e.2.2.1, false, 0), 1) :: pins r ∨ ps'.Perm (((e.1, e.2.1, e.2.2.1, false, 0), 1) :: pins r) := by
    have hx : ∀ x ∈ pins es, True := fun _ _ => trivial
    rcases r6 with ⟨_, _, hm, _⟩ | ⟨_, e', p', r', hp', he', rfl⟩ | ⟨_, hm, _⟩ | ⟨_, hm, _⟩
    · exact absurd rfl (hm _ (pins_of he))
    · have h1 := hp'.mem_iff.2 (List.mem_cons_self ..)
      have h2 := pins_mem h1
      have hee : e' = e := by
        have h5 := (hp.map (·.1)).nodup_iff.1 hnd
        rcases List.mem_cons.1 (hp.mem_iff.1 h2.1) with h | h
        · exact h
        · rw [List.map_cons, List.nodup_cons] at h5
          refine absurd ?_ h5.1
          have : e'.1 = e.1 := he'
          rw [← this]
          exact List.mem_map_of_mem (f := (·.1)) h
      subst hee
      have hpp : p' = 1 := by have := h2.2; simp only at this; rw [this]; unfold pin; rw [hd]; rfl
      subst hpp
      have h7 : (pins es).Perm ((e', 1) :: pins r) := by
        have := hp.map (fun e => (e, pin e))
        rw [List.map_cons, show pin e' = 1 by unfold pin; rw [hd]; rfl] at this
        exact this
      exact .inr ((h7.symm.trans hp').cons_inv.symm.cons _)
    · exact absurd rfl (hm _ (pins_of he))
    · exact absurd rfl (hm _ (pins_of he))
  have hps' : ps'.Perm (((e.1, e.2.1, e.2.2.1, false, 0), 0 + 1) :: pins r) := by
    rcases hps with rfl | h
    · exact List.Perm.refl _
    · exact h
  refine all_c c6 ?_
  refine gUnpin (e := (e.1, e.2.1, e.2.2.1, false, 0)) h6 hps' (by omega) fun w7 h7 k7 => ?_
  have := St.cs hc hFc (fun b hb => hb.1) (s06.trans (F'' := F') ⟨k7, fun b hb => .inl hb⟩) (es := (e.1, e.2.1, e.2.2.1, false, 0) :: r) (GS.ls h7)
  exact hq w7 F' this.1 this.2
/-- Clean of anything else. -/
theorem clean_miss (h : CS w c room es F) {k v : Int} (hn : ∀ e ∈ es, ¬ (e.1 = k ∧ e.2.2.2.1 = true ∧ e.2.1 = v)) (hq : ∀ w', K0 w w' → Q (.bool false) w') :
    callS Try.prog 12 #[.pointer (some ⟨c, 0, none⟩), .int .i64 k, .int .u64 v] Q w := by
  refine ref12 ?_
  unfold S12
  obtain ⟨lc, hc, hFc, hl⟩ := h
  obtain ⟨pe, is, hpe, hpk⟩ := peek_any hl.gs k
  refine all_c hc ?_
  refine hpk _ _ (K0.refl w) fun w1 k1 => ?_
  simp only [stp, Nat.reduceAdd, Int.reduceLT, Int.reduceLE, Int.reduceEq, Int.reduceNe, ne_eq, bne_self_eq_false, beq_self_eq_true]
  generalize hw4 : w1.alloc _ = w4
  have b4 : blk w4 (siz w1) = some z5 := by rw [← hw4]; exact blk_alloc_new
  have k4 : K0 w1 w4 := by rw [← hw4]; exact (K0.refl w1).alloc _
  refine st_tmp b4 fun w5 k5 en => ?_
  have k14 : K0 w w4 := k1.trans k4
  have sz := k1.size
  have k15 : K0 w w5 := k14.trans' k5 fun b hb e => by omega
  obtain ⟨c0, c1, c2, c3, c4⟩ := en.cs
  rw [Nat.zero_add] at c1 c2 c3 c4
  rcases hpe with ⟨rfl, hx, hb⟩ | ⟨rfl, rfl, hm⟩
  · cases hd : pe.2.2.2.1
    · rw [hd] at c3
      simp only [stp, Nat.reduceAdd, Int.reduceLT, Int.reduceLE, Int.reduceEq, Int.reduceNe, ne_eq, bne_self_eq_false, beq_self_eq_true, c1, c3, Option.isSome_some, Option.getD_some]
      exact hq _ k15
    · rw [hd] at c3
      have hv : ¬ pe.2.1 = v := fun e => hn pe hx ⟨hb, hd, e⟩
      simp only [stp, Nat.reduceAdd, Int.reduceLT, Int.reduceLE, Int.reduceEq, Int.reduceNe, ne_eq, bne_self_eq_false, beq_self_eq_true, c1, c3, Option.isSome_some, Option.getD_some, hv]
      exact hq _ k15
  · simp only [stp, Nat.reduceAdd, Int.reduceLT, Int.reduceLE, Int.reduceEq, Int.reduceNe, ne_eq, bne_self_eq_false, beq_self_eq_true, c1, c3, Option.isSome_some, Option.getD_some]
    exact hq _ k15
end
end Go.Proofs.Ytjfookddoaemfaa
