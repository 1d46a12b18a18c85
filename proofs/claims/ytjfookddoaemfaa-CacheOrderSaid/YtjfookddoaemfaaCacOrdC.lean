/- CacheOrder, whole. Conditions: as it says. -/
import Derived.Test.YtjfookddoaemfaaCacOrdB
set_option linter.unusedSimpArgs false
set_option linter.unusedVariables false
namespace Go.Proofs.Ytjfookddoaemfaa
open Go.Sh Go.Sh.Lrv Go.Proofs.Ytjfookddoaemfaa.Lv
set_option maxRecDepth 100000
section
variable {w w' : World} {Q : Value → World → Prop}
set_option maxHeartbeats 2000000 in
theorem order_law {v : Value} {us : List Int} (hv : Row 1 w v us.length (fun i => .int .i64 (us.getD i 0))) (_ : us.length ≤ maxLen) (_ : ∀ n ∈ us, (Lit.int .i64 n).wf = true) (hq : ∀ w', Keep (fun b => siz w ≤ b) w w' → Q (.bool true) w') :
    callS Try.prog 5 #[v] Q w := by
  refine ref5 ?_
  rw [cut5]
  unfold P5_0
  have out : callS Try.prog 7 #[] Q w := alive_c fun w2 k2 => hq _ k2.new
  obtain ⟨pv, cv, rfl⟩ := hv.form
  generalize hNe : us.length = N at *
  by_cases g1 : (60 : Int) < (N : Int)
  · simp only [stp, Nat.reduceAdd, Int.reduceLT, Int.reduceLE, Int.reduceEq, Int.reduceNe, ne_eq, bne_self_eq_false, beq_self_eq_true, stm, g1]; exact out
  simp only [stp, Nat.reduceAdd, Int.reduceLT, Int.reduceLE, Int.reduceEq, Int.reduceNe, ne_eq, bne_self_eq_false, beq_self_eq_true, stm, g1]
  clear out
  have hN : N ≤ 60 := by omega
  refine cnew_c (r := 100) (by omega) fun w1 c F0 h1 hcw hF0 k1 => ?_
  have h1 : CS w1 c 100 [] F0 := h1
  have s1 := k1.size
  simp only [stp, Nat.reduceAdd, Int.reduceLT, Int.reduceLE, Int.reduceEq, Int.reduceNe, ne_eq, bne_self_eq_false, beq_self_eq_true]
  refine mk_47 (n := 16) (base := siz w) (by omega) s1 fun w2 o2 k2 sg => ?_
  have h2 := (h1.keep0 k2)
  obtain ⟨lc, hc2, hFc, hl2⟩ := h1
  have hl1 := hl2.ltF
  have h2 : CS w2 c 100 [] (fun b => F0 b ∧ b < siz w1) := ⟨lc, k2.cel hc2 fun e => e, fun e => hFc e.1, hl1.keep k2 fun _ _ e => e⟩
  have k02 : Keep (fun b => siz w ≤ b) w w2 := (k1.trans k2).new
  refine lp1 (fun m x w' => ∃ (i : Nat) (es : List En) (fs : List Int) (F : Nat → Prop), x = .int .i64 (i : Int) ∧ i ≤ N ∧ m = N - i ∧ CS w' c 100 es F ∧ OI i es fs ∧ Sh.Own w' (siz w) 28 1 (.slice (some ⟨siz w1, 0, none⟩) 16 16) 16 (fs.map fun x => Value.int .u64 x) ∧ ¬ F (siz w1) ∧ (∀ b, F b → siz w ≤ b) ∧ Keep (fun b => siz w ≤ b) w w') N
    ⟨0, [], List.replicate 16 0, _, rfl, Nat.zero_le _, rfl, h2, OI.zero, by rw [List.map_replicate]; exact o2, fun e => by have := e.2; omega, fun b hb => hF0 b hb.1, k02⟩ ?_
  rintro m x w3 ⟨i, es, fs, F, rfl, hi, hm, h3, hO, o3, hgF, hFw, k3⟩ J hJ _j
  subst m
  by_cases hlt : i < N
  case neg =>
    have hlt' : ¬ ((i : Int) < (N : Int)) := by omega
    simp only [stp, Nat.reduceAdd, Int.reduceLT, Int.reduceLE, Int.reduceEq, Int.reduceNe, ne_eq, bne_self_eq_false, beq_self_eq_true, hlt']
    refine order1 h3 hO (by omega) o3 hgF fun w4 F' s4 => ?_
    exact hq _ (k3.trans' s4.keep fun b hb e => hFw b e)
  have hlt' : ((i : Int) < (N : Int)) := by omega
  have hwi := wrap_succ (i := i) (by omega)
  obtain ⟨b, o, cc, e, _, hcu⟩ := (hv.keep k3 fun b hb hF => by omega).at (by omega)
  injection e with e1 _ _
  subst e1
  have hu := hcu i (by omega)
  have hand := andI_le (us.getD i 0) 15 (by omega)
  have e15 : ((15 : Nat) : Int) = 15 := rfl
  rw [e15] at hand
  obtain ⟨j, hj⟩ : ∃ j : Nat, andI (us.getD i 0) 15 = (j : Int) := ⟨(andI (us.getD i 0) 15).toNat, by omega⟩
  have hj16 : j < 16 := by omega
  have hwu : IntKind.u64.wrap (((i + 1 : Nat) : Int)) = ((i + 1 : Nat) : Int) := by
    simp only [IntKind.wrap, IntKind.signed, IntKind.bits]
    simp
    omega
  have hix2 : ∀ K, pur Try.prog (Instr.indexAt 47 (.slice (some ⟨siz w1, 0, none⟩) 16 16) (.int .i64 (j : Int))) K = K (.pointer (some ⟨siz w1, j, none⟩)) := fun K => by
    rw [ix_47 hj16, Nat.zero_add]; try rw [Nat.mul_one]
  have hixl : ∀ K, pur Try.prog (Instr.indexAt 46 (.slice (some ⟨b, o, none⟩) N cv) (.int .i64 (i : Int))) K = K (.pointer (some ⟨b, o + i, none⟩)) := fun K => by
    rw [ix_46 hlt]; try rw [Nat.mul_one]
  simp only [stp, Nat.reduceAdd, Int.reduceLT, Int.reduceLE, Int.reduceEq, Int.reduceNe, ne_eq, bne_self_eq_false, beq_self_eq_true, hlt']
  refine jn0 (fun w' => ∃ (es2 : List En) (fs2 : List Int) (F2 : Nat → Prop), CS w' c 100 es2 F2 ∧ OI (i + 1) es2 fs2 ∧ Sh.Own w' (siz w) 28 1 (.slice (some ⟨siz w1, 0, none⟩) 16 16) 16 (fs2.map fun x => Value.int .u64 x) ∧ ¬ F2 (siz w1) ∧ (∀ b, F2 b → siz w ≤ b) ∧ Keep (fun b => siz w ≤ b) w w') (fun J1 hJ1 => ?_) ?_
  case refine_2 =>
    rintro w4 ⟨es2, fs2, F2, h4, hO4, o4, hg4, hF4, k4⟩ _j
    try simp only [stp, Nat.reduceAdd, Int.reduceLT, Int.reduceLE, Int.reduceEq, Int.reduceNe, ne_eq, bne_self_eq_false, beq_self_eq_true, hwi]
    exact hJ (N - (i + 1)) _ _ (by omega) ⟨i + 1, es2, fs2, F2, rfl, by omega, rfl, h4, hO4, o4, hg4, hF4, k4⟩
  simp only [stp, Nat.reduceAdd, Int.reduceLT, Int.reduceLE, Int.reduceEq, Int.reduceNe, ne_eq, bne_self_eq_false, beq_self_eq_true, hixl, hu, Option.isSome_some, Option.getD_some, pur_andI, hj, hwi, hwu]
  have hsz := k3.size
  refine change_c h3 (by omega) (b := (j : Int)) (v := ((i + 1 : Nat) : Int)) (lsn := ((i + 1 : Nat) : Int)) (s := nostr) (by decide) fun w4 F4 es4 cd4 h4 s4 r4 => ?_
  have o4 := Sh.Own.keep o3 s4.keep fun g hg e => by injection hg with hg; subst hg; exact hgF e
  have hgl := (Sh.Own.lt o3 (g := siz w1) rfl).2
  have hg4 : ¬ F4 (siz w1) := fun e => (s4.sub _ e).elim hgF (fun h => by omega)
  have hF4 : ∀ b, F4 b → siz w ≤ b := fun b hb => (s4.sub b hb).elim (hFw b) (fun h => by omega)
  have k4 : Keep (fun b => siz w ≤ b) w w4 := k3.trans' s4.keep fun b hb e => hFw b e
  obtain ⟨gf', cf', ef, _, _, _, _, hfre, hfcel⟩ := Sh.Own.at o4 (by omega)
  injection ef with ef1 _ ef2
  injection ef1 with ef1
  injection ef1 with ef1 _ _
  subst ef1 ef2
  have fj : cel w4 (siz w1) j = some (.int .u64 (fO fs j)) := by
    rw [hfcel j (by omega), List.getElem?_map, List.getElem?_eq_getElem (by rw [hO.len]; exact hj16), Option.map_some]
    have : fs[j]'(by rw [hO.len]; exact hj16) = fO fs j := by unfold fO; rw [List.getD_eq_getElem?_getD, List.getElem?_eq_getElem (by rw [hO.len]; exact hj16)]; rfl
    rw [this]
  by_cases hx : ∃ x ∈ es, x.1 = (j : Int)
  · obtain ⟨x, hx, hxj⟩ := hx
    obtain ⟨r, hp⟩ := perm_head hx
    obtain ⟨j', hj', b1, f1, d1, l1, v0, v1⟩ := hO.bd x hx
    have hjj : j' = j := by omega
    subst hjj
    have hle := hO.le j' hj'
    obtain ⟨rfl, hp4⟩ := change_old r4 (by omega) h3.nodup hp hxj (by omega)
    rw [if_pos d1, show min (((i + 1 : Nat) : Int)) x.2.2.2.2 = x.2.2.2.2 by omega] at hp4
    have hne : ¬ (fO fs j' = 0) := by omega
    simp only [stp, Nat.reduceAdd, Int.reduceLT, Int.reduceLE, Int.reduceEq, Int.reduceNe, ne_eq, bne_self_eq_false, beq_self_eq_true, hix2, fj, Option.isSome_some, Option.getD_some, hne]
    exact hJ1 _ ⟨es4, fs, F4, h4, hO.old hj' hp hxj hp4, o4, hg4, hF4, k4⟩
  · have hm : ∀ x ∈ es, x.1 ≠ (j : Int) := fun x hx' e => hx ⟨x, hx', e⟩
    have hcnt := hO.cnt
    obtain ⟨rfl, rfl⟩ := change_new r4 (by omega) hm (by omega)
    obtain ⟨h0, hO2⟩ := hO.new hj16 hm
    rw [h0] at fj
    simp only [stp, Nat.reduceAdd, Int.reduceLT, Int.reduceLE, Int.reduceEq, Int.reduceNe, ne_eq, bne_self_eq_false, beq_self_eq_true, hix2, fj, hfre, Option.isSome_some, Option.getD_some]
    refine hJ1 _ ⟨_, fs.set j ((i + 1 : Nat) : Int), F4, h4.keep (G := fun b => b = siz w1) ((Keep.refl (fun b => b = siz w1) w4).sto (.inl rfl) _ _) (fun b hb e => hg4 (e ▸ hb)) (fun e => ?_), hO2, ?_, hg4, hF4, k4.sto (.inl (by omega)) _ _⟩
    · have h5 := cel_lt' hc2
      omega
    · have := Sh.Own.set (x := .int .u64 ((i + 1 : Nat) : Int)) o4 hj16
      rw [List.map_set]
      exact this
end
end Go.Proofs.Ytjfookddoaemfaa
