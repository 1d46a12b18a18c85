/- CacheRoom: as long as all are dirty nothing more goes in; as soon as one is clean it goes for the next one. Conditions: as it says. -/
import Derived.Test.YtjfookddoaemfaaCacZ
set_option linter.unusedSimpArgs false
set_option linter.unusedVariables false
namespace Go.Proofs.Ytjfookddoaemfaa
open Go.Sh Go.Sh.Lrv Go.Proofs.Ytjfookddoaemfaa.Lv
set_option maxRecDepth 100000
def roomE (k : Nat) : En := ((k : Int), 1, nostr, true, (k : Int) + 1)
def roomL (n : Nat) : List En := (List.range n).map roomE
theorem roomL_len (n : Nat) : (roomL n).length = n := by simp [roomL]
theorem roomL_mem {n : Nat} {x : En} (h : x ∈ roomL n) : ∃ k, k < n ∧ x = roomE k := by
  obtain ⟨k, hk, rfl⟩ := List.mem_map.1 h
  exact ⟨k, List.mem_range.1 hk, rfl⟩
theorem roomL_succ (n : Nat) : (roomE n :: roomL n).Perm (roomL (n + 1)) := by
  unfold roomL
  rw [List.range_succ, List.map_append]
  exact (List.perm_append_comm (l₁ := [roomE n])).trans (List.Perm.refl _)
theorem roomL_dirty (n : Nat) : dirtyL (roomL n) = roomL n := List.filter_eq_self.2 fun x hx => by
  obtain ⟨k, _, rfl⟩ := roomL_mem hx; rfl
theorem CS.dirty {w : World} {c room : Nat} {es es' : List En} (p : es.Perm es') : (dirtyL es).length = (dirtyL es').length := (p.filter _).length_eq
section
variable {w w' : World} {Q : Value → World → Prop}
set_option maxHeartbeats 2000000 in
theorem room_law {n : Int} (_ : (Lit.int .i64 n).wf = true) (hq : ∀ w', Keep (fun b => siz w ≤ b) w w' → Q (.bool true) w') :
    callS Try.prog 3 #[.int .i64 n] Q w := by
  refine ref3 ?_
  unfold S3
  have out : callS Try.prog 7 #[] Q w := alive_c fun w2 k2 => hq _ k2.new
  by_cases g1 : n < 1
  · simp only [stp, Nat.reduceAdd, Int.reduceLT, Int.reduceLE, Int.reduceEq, Int.reduceNe, ne_eq, bne_self_eq_false, beq_self_eq_true, stm, g1]; exact out
  by_cases g2 : 40 < n
  · simp only [stp, Nat.reduceAdd, Int.reduceLT, Int.reduceLE, Int.reduceEq, Int.reduceNe, ne_eq, bne_self_eq_false, beq_self_eq_true, stm, g1, g2]; exact out
  simp only [stp, Nat.reduceAdd, Int.reduceLT, Int.reduceLE, Int.reduceEq, Int.reduceNe, ne_eq, bne_self_eq_false, beq_self_eq_true, stm, g1, g2]
  obtain ⟨N, rfl⟩ : ∃ N : Nat, n = (N : Int) := ⟨n.toNat, by omega⟩
  refine cnew_c (r := (N : Int)) (by omega) fun w1 c F0 h1 hcw hF0 k1 => ?_
  have h1 : CS w1 c N [] F0 := h1
  simp only [stp, Nat.reduceAdd, Int.reduceLT, Int.reduceLE, Int.reduceEq, Int.reduceNe, ne_eq, bne_self_eq_false, beq_self_eq_true]
  refine lp1 (fun m x w' => ∃ (i : Nat) (F : Nat → Prop), x = .int .i64 (i : Int) ∧ i ≤ N ∧ m = N - i ∧ CS w' c N (roomL i) F ∧ St F0 F w1 w') N ⟨0, F0, rfl, Nat.zero_le _, rfl, h1, St.refl _ _⟩ ?_
  rintro m x w2 ⟨i, F, rfl, hi, hm, h2, s2⟩ J hJ _j
  subst m
  by_cases hlt : i < N
  · have hlt' : ((i : Int) < (N : Int)) := by omega
    have hwi := wrap_succ (i := i) (by omega)
    have hws : IntKind.i64.wrap ((N : Int) - (i : Int)) = (N : Int) - (i : Int) := wrap_id (by omega) (by omega)
    simp only [stp, Nat.reduceAdd, Int.reduceLT, Int.reduceLE, Int.reduceEq, Int.reduceNe, ne_eq, bne_self_eq_false, beq_self_eq_true, hlt']
    refine dlen_c h2 fun w3 k3 => ?_
    rw [roomL_dirty, roomL_len]
    have h3 := h2.keep0 k3
    have hee : ((N : Int) - (i : Int) = (N : Int) - (i : Int)) := rfl
    simp only [stp, Nat.reduceAdd, Int.reduceLT, Int.reduceLE, Int.reduceEq, Int.reduceNe, ne_eq, bne_self_eq_false, beq_self_eq_true, stm, hws, hwi, hee]
    have hwu : IntKind.u64.wrap (((i + 1 : Nat) : Int)) = (i : Int) + 1 := by
      simp only [IntKind.wrap, IntKind.signed, IntKind.bits]
      simp
      omega
    rw [hwu]
    refine change_c h3 (by omega) (b := (i : Int)) (v := 1) (lsn := (i : Int) + 1) (s := nostr) (by decide) fun w4 F4 es4 cd4 h4 s4 r4 => ?_
    obtain ⟨rfl, rfl⟩ := change_new r4 (by omega) (fun x hx e => by
      obtain ⟨k, hk, rfl⟩ := roomL_mem hx
      have e' : ((k : Nat) : Int) = (i : Int) := e
      omega) (by rw [roomL_len]; exact hlt)
    simp only [stp, Nat.reduceAdd, Int.reduceLT, Int.reduceLE, Int.reduceEq, Int.reduceNe, ne_eq, bne_self_eq_false, beq_self_eq_true]
    exact hJ (N - (i + 1)) _ _ (by omega) ⟨i + 1, F4, rfl, by omega, rfl, h4.perm (roomL_succ i), (s2.trans (St.of0 k3)).trans s4⟩
  have hlt' : ¬ ((i : Int) < (N : Int)) := by omega
  have hie : i = N := by omega
  subst hie
  obtain ⟨M, rfl⟩ : ∃ M, i = M + 1 := ⟨i - 1, by omega⟩
  have hwm : IntKind.i64.wrap (((M + 1 : Nat) : Int) - 1) = (M : Int) := by rw [wrap_id (by omega) (by omega)]; omega
  simp only [stp, Nat.reduceAdd, Int.reduceLT, Int.reduceLE, Int.reduceEq, Int.reduceNe, ne_eq, bne_self_eq_false, beq_self_eq_true, hlt', hwm]
  have hall : ∀ n, ∀ x ∈ roomL n, x.2.2.2.1 = true := fun n x hx => by obtain ⟨k, _, rfl⟩ := roomL_mem hx; rfl
  have hne : ∀ m n, m ≤ n → ∀ x ∈ roomL m, x.1 ≠ ((n : Nat) : Int) := fun m n hmn x hx e => by
    obtain ⟨k, hk, rfl⟩ := roomL_mem hx
    have e' : ((k : Nat) : Int) = (n : Int) := e
    omega
  refine fill_c h2 (by omega) (b := ((M + 1 : Nat) : Int)) (v := 0) (s := nostr) (by decide) fun w3 F3 es3 ok3 h3 s3 r3 => ?_
  obtain ⟨rfl, rfl⟩ := fill_full r3 (by rw [roomL_len]; omega) (hall _)
  try simp only [stp, Nat.reduceAdd, Int.reduceLT, Int.reduceLE, Int.reduceEq, Int.reduceNe, ne_eq, bne_self_eq_false, beq_self_eq_true]
  refine change_c h3 (by omega) (b := ((M + 1 : Nat) : Int)) (v := 1) (lsn := 9) (s := nostr) (by decide) fun w4 F4 es4 cd4 h4 s4 r4 => ?_
  obtain ⟨rfl, rfl⟩ := change_full r4 (by omega) (hne _ _ (by omega)) (by rw [roomL_len]; omega) (hall _)
  try simp only [stp, Nat.reduceAdd, Int.reduceLT, Int.reduceLE, Int.reduceEq, Int.reduceNe, ne_eq, bne_self_eq_false, beq_self_eq_true]
  refine clean_hit h4 (by omega) (e := roomE M) (r := roomL M) (roomL_succ M).symm rfl fun w5 F5 h5 s5 => ?_
  try simp only [stp, Nat.reduceAdd, Int.reduceLT, Int.reduceLE, Int.reduceEq, Int.reduceNe, ne_eq, bne_self_eq_false, beq_self_eq_true]
  refine dlen_c h5 fun w6 k6 => ?_
  have hd5 : (dirtyL (((roomE M).1, (roomE M).2.1, (roomE M).2.2.1, false, 0) :: roomL M)).length = M := by
    have := roomL_dirty M
    unfold dirtyL at this ⊢
    rw [List.filter_cons, this]
    exact roomL_len M
  rw [hd5]
  have hd6 : (((M + 1 : Nat) : Int) - (M : Int)) = 1 := by omega
  rw [hd6]
  have h6 := h5.keep0 k6
  refine fill_c h6 (by omega) (b := ((M + 1 : Nat) : Int)) (v := 0) (s := nostr) (by decide) fun w7 F7 es7 ok7 h7 s7 r7 => ?_
  obtain ⟨rfl, hp7⟩ := fill_evict r7 (fun x hx e => by
      rcases List.mem_cons.1 hx with rfl | hx
      · have e' : ((M : Nat) : Int) = ((M + 1 : Nat) : Int) := e
        omega
      · exact hne _ _ (by omega) x hx e) (by rw [List.length_cons, roomL_len]; omega) (List.Perm.refl _) rfl (hall _)
  have h7 := h7.perm hp7
  try simp only [stp, Nat.reduceAdd, Int.reduceLT, Int.reduceLE, Int.reduceEq, Int.reduceNe, ne_eq, bne_self_eq_false, beq_self_eq_true]
  refine cget_miss h7 (k := (M : Int)) (fun x hx e => by
      rcases List.mem_cons.1 hx with rfl | hx
      · have e' : ((M + 1 : Nat) : Int) = (M : Int) := e
        omega
      · exact hne _ _ (Nat.le_refl _) x hx e) fun w8 k8 => ?_
  have h8 := h7.keep0 k8
  simp only [stp, Nat.reduceAdd, Int.reduceLT, Int.reduceLE, Int.reduceEq, Int.reduceNe, ne_eq, bne_self_eq_false, beq_self_eq_true]
  generalize hw9 : w8.alloc _ = w9
  have k89 : K0 w8 w9 := by rw [← hw9]; exact (K0.refl w8).alloc _
  have b9 : blk w9 (siz w8) = some (.cells #[.int .i64 0, .int .u64 0, .string ⟨#[]⟩] 30) := by rw [← hw9]; exact blk_alloc_new
  refine st_img b9 fun w10 k910 b10 => ?_
  have k810 : K0 w8 w10 := k89.trans' k910 fun b hb e => by omega
  have h10 := h8.keep0 k810
  refine alive_c fun w11 k11 => ?_
  have h11 := h10.keep0 k11
  simp only [stp, Nat.reduceAdd, Int.reduceLT, Int.reduceLE, Int.reduceEq, Int.reduceNe, ne_eq, bne_self_eq_false, beq_self_eq_true, stm]
  refine clen_c h11 ?_
  rw [List.length_cons, roomL_len]
  simp only [stp, Nat.reduceAdd, Int.reduceLT, Int.reduceLE, Int.reduceEq, Int.reduceNe, ne_eq, bne_self_eq_false, beq_self_eq_true, stm]
  refine dirty_c h11 fun w12 v l A hA hpl _ o12 k12 => ?_
  obtain ⟨pa, cp, rfl⟩ := o12.form
  have hll : l.length = M := by
    have := hpl.length_eq
    have h9 := roomL_dirty M
    unfold dirtyL at this h9
    rw [List.filter_cons, h9] at this
    rw [this]
    exact roomL_len M
  have hlm : ((l.length : Int) = (M : Int)) := by omega
  simp only [stp, Nat.reduceAdd, Int.reduceLT, Int.reduceLE, Int.reduceEq, Int.reduceNe, ne_eq, bne_self_eq_false, beq_self_eq_true, stm, hwm, hlm]
  have ks := ((((s2.trans s3).trans s4).trans s5).trans (St.of0 k6)).trans s7
  have kk : Keep F0 w1 w12 := ks.keep.trans (((k8.trans k810).trans k11).trans k12).none
  exact hq w12 ((k1.none (F := F0)).trans kk |>.mono fun b _ hb => hF0 b hb)
end
end Go.Proofs.Ytjfookddoaemfaa
