/- The stable sort of entries by their numbers: what is sorted stays the same entries; sorted, where they are few. Conditions: as each says. -/
import Derived.Test.YtjfookddoaemfaaCacN
set_option linter.unusedSimpArgs false
set_option linter.unusedVariables false
namespace Go.Proofs.Ytjfookddoaemfaa
open Go.Sh Go.Sh.Lrv Go.Proofs.Ytjfookddoaemfaa.Lv
set_option maxRecDepth 100000
section
variable {w w' : World} {Q : Value → World → Prop} {B g n cap : Nat} {d : List En}
theorem pur_half {P : Program} {t : TypeId} {x y : Bool} {a : Nat} {k : Value → Prop} : pur P (binS .shr t x y (.int .u64 (a : Int)) (.int .u64 1)) k = k (.int .u64 ((a / 2 : Nat) : Int)) := pur_eq fun w => by
  simp [binS, eqG_int, binOp, Op.shift]
  have e : (2 : Int) ^ min 1 IntKind.u64.bits = 2 := by decide
  rw [e, Int.fdiv_eq_ediv_of_nonneg _ (by omega)]
theorem half_w {a : Nat} (h : a ≤ 1000000000) : IntKind.u64.wrap (a : Int) = (a : Int) := by
  simp only [IntKind.wrap, IntKind.signed, IntKind.bits]
  simp
  omega
theorem nat_w {a : Nat} (h : a ≤ 1000000000) : IntKind.i64.wrap (a : Int) = (a : Int) := wrap_id (by omega) (by omega)
/-- What a weak contract says: the same entries, in some order. -/
abbrev Wk (w : World) (B g n cap : Nat) (d : List En) (Q : Value → World → Prop) : Prop := ∀ w' d', RowE w' B g n cap d' → d'.Perm d → Keep (fun b => b = g) w w' → Q (.tuple #[]) w'
theorem swapRange_c {f : Value} (h : RowE w B g n cap d) {a b m : Nat} (ha : a + m ≤ n) (hb : b + m ≤ n) (hn : n ≤ 1000000) (hq : Wk w B g n cap d Q) :
    callS Try.prog 77 #[.slice (some ⟨g, 0, none⟩) n cap, .int .i64 (a : Int), .int .i64 (b : Int), .int .i64 (m : Int), f] Q w := by
  refine ref77 ?_
  unfold S77
  refine lp1 (fun mm x w' => ∃ (i : Nat) (d' : List En), x = .int .i64 (i : Int) ∧ i ≤ m ∧ mm = m - i ∧ RowE w' B g n cap d' ∧ d'.Perm d ∧ Keep (fun b => b = g) w w') m ⟨0, d, rfl, by omega, by omega, h, List.Perm.refl _, Keep.refl _ _⟩ ?_
  rintro mm x w1 ⟨i, d1, rfl, hi, rfl, h1, hp1, k1⟩ J hJ _j
  by_cases him : i < m
  case neg =>
    have him' : ¬ ((i : Int) < (m : Int)) := by omega
    simp only [stp, Nat.reduceAdd, Int.reduceLT, Int.reduceLE, Int.reduceEq, Int.reduceNe, ne_eq, bne_self_eq_false, beq_self_eq_true, him']
    exact hq _ d1 h1 hp1 k1
  have him' : ((i : Int) < (m : Int)) := by omega
  have hwi := wrap_succ (i := i) (by omega)
  have hwa : IntKind.i64.wrap ((a : Int) + (i : Int)) = ((a + i : Nat) : Int) := by rw [wrap_id (by omega) (by omega)]; omega
  have hwb : IntKind.i64.wrap ((b : Int) + (i : Int)) = ((b + i : Nat) : Int) := by rw [wrap_id (by omega) (by omega)]; omega
  have xa : ∀ k, pur Try.prog (Instr.indexAt 35 (.slice (some ⟨g, 0, none⟩) n cap) (.int .i64 ((a + i : Nat) : Int))) k = k (.pointer (some ⟨g, (a + i) * 5, none⟩)) := fun k => ixE (by omega)
  have xb : ∀ k, pur Try.prog (Instr.indexAt 35 (.slice (some ⟨g, 0, none⟩) n cap) (.int .i64 ((b + i : Nat) : Int))) k = k (.pointer (some ⟨g, (b + i) * 5, none⟩)) := fun k => ixE (by omega)
  have h1d : RowE w1.drew B g n cap d1 := Sh.Own.keep h1 ((K0.refl w1).drew) fun _ _ e => e
  simp only [stp, Nat.reduceAdd, Int.reduceLT, Int.reduceLE, Int.reduceEq, Int.reduceNe, ne_eq, bne_self_eq_false, beq_self_eq_true, him', hwa, hwb, hwi, xa, xb]
  rw [ld_en (h1d.en (i := b + i) (by omega)), ld_en (h1d.en (i := a + i) (by omega))]
  refine swap_w (K := fun w4 => J (.int .i64 ((i + 1 : Nat) : Int)) w4) h1d (i := a + i) (j := b + i) (by omega) (by omega) fun w4 h4 k4 => ?_
  exact hJ (m - (i + 1)) _ _ (by omega) ⟨i + 1, _, rfl, by omega, rfl, h4, swp_perm.trans hp1, k1.drew.trans k4⟩
theorem rotate_c {f : Value} (h : RowE w B g n cap d) {a m b : Nat} (ham : a < m) (hmb : m < b) (hb : b ≤ n) (hn : n ≤ 1000000) (hq : Wk w B g n cap d Q) :
    callS Try.prog 71 #[.slice (some ⟨g, 0, none⟩) n cap, .int .i64 (a : Int), .int .i64 (m : Int), .int .i64 (b : Int), f] Q w := by
  refine ref71 ?_
  unfold S71
  have hw1 : IntKind.i64.wrap ((m : Int) - (a : Int)) = ((m - a : Nat) : Int) := by rw [wrap_id (by omega) (by omega)]; omega
  have hw2 : IntKind.i64.wrap ((b : Int) - (m : Int)) = ((b - m : Nat) : Int) := by rw [wrap_id (by omega) (by omega)]; omega
  simp only [stp, Nat.reduceAdd, Int.reduceLT, Int.reduceLE, Int.reduceEq, Int.reduceNe, ne_eq, bne_self_eq_false, beq_self_eq_true, hw1, hw2]
  refine lp2 (fun mm x y w' => ∃ (i j : Nat) (d' : List En), x = .int .i64 (i : Int) ∧ y = .int .i64 (j : Int) ∧ 0 < i ∧ 0 < j ∧ i + a ≤ m ∧ m + j ≤ b ∧ mm = i + j ∧ RowE w' B g n cap d' ∧ d'.Perm d ∧ Keep (fun b => b = g) w w') (m - a + (b - m))
    ⟨m - a, b - m, d, rfl, rfl, by omega, by omega, by omega, by omega, rfl, h, List.Perm.refl _, Keep.refl _ _⟩ ?_
  rintro mm x y w1 ⟨i, j, d1, rfl, rfl, hi, hj, hia, hjb, rfl, h1, hp1, k1⟩ J hJ _j
  have hwi : IntKind.i64.wrap ((m : Int) - (i : Int)) = ((m - i : Nat) : Int) := by rw [wrap_id (by omega) (by omega)]; omega
  by_cases hij : i = j
  · subst hij
    simp only [stp, Nat.reduceAdd, Int.reduceLT, Int.reduceLE, Int.reduceEq, Int.reduceNe, ne_eq, bne_self_eq_false, beq_self_eq_true, hwi]
    exact swapRange_c h1 (a := m - i) (b := m) (m := i) (by omega) (by omega) hn fun w2 d2 h2 hp2 k2 => hq _ d2 h2 (hp2.trans hp1) (k1.trans k2)
  have hij' : ¬ ((i : Int) = (j : Int)) := by omega
  by_cases hgt : j < i
  · have hgt' : ((j : Int) < (i : Int)) := by omega
    have hws : IntKind.i64.wrap ((i : Int) - (j : Int)) = ((i - j : Nat) : Int) := by rw [wrap_id (by omega) (by omega)]; omega
    simp only [stp, Nat.reduceAdd, Int.reduceLT, Int.reduceLE, Int.reduceEq, Int.reduceNe, ne_eq, bne_self_eq_false, beq_self_eq_true, hij', hgt', hwi, hws]
    refine swapRange_c h1 (a := m - i) (b := m) (m := j) (by omega) (by omega) hn fun w2 d2 h2 hp2 k2 => ?_
    try simp only [stp, Nat.reduceAdd, Int.reduceLT, Int.reduceLE, Int.reduceEq, Int.reduceNe, ne_eq, bne_self_eq_false, beq_self_eq_true]
    exact hJ (i - j + j) _ _ _ (by omega) ⟨i - j, j, d2, rfl, rfl, by omega, hj, by omega, hjb, rfl, h2, hp2.trans hp1, k1.trans k2⟩
  · have hgt' : ¬ ((j : Int) < (i : Int)) := by omega
    have hws : IntKind.i64.wrap ((j : Int) - (i : Int)) = ((j - i : Nat) : Int) := by rw [wrap_id (by omega) (by omega)]; omega
    have hwp : IntKind.i64.wrap ((m : Int) + (j : Int)) = ((m + j : Nat) : Int) := by rw [wrap_id (by omega) (by omega)]; omega
    have hwq : IntKind.i64.wrap (((m + j : Nat) : Int) - (i : Int)) = ((m + j - i : Nat) : Int) := by rw [wrap_id (by omega) (by omega)]; omega
    simp only [stp, Nat.reduceAdd, Int.reduceLT, Int.reduceLE, Int.reduceEq, Int.reduceNe, ne_eq, bne_self_eq_false, beq_self_eq_true, hij', hgt', hwi, hws, hwp, hwq]
    refine swapRange_c h1 (a := m - i) (b := m + j - i) (m := i) (by omega) (by omega) hn fun w2 d2 h2 hp2 k2 => ?_
    try simp only [stp, Nat.reduceAdd, Int.reduceLT, Int.reduceLE, Int.reduceEq, Int.reduceNe, ne_eq, bne_self_eq_false, beq_self_eq_true]
    exact hJ (i + (j - i)) _ _ _ (by omega) ⟨i, j - i, d2, rfl, rfl, hi, by omega, hia, by omega, rfl, h2, hp2.trans hp1, k1.trans k2⟩
theorem symMerge_c {f : Value} (hf : Cmp f) (hn : n ≤ 1000000) : ∀ (s : Nat) {w : World} {d : List En} {Q : Value → World → Prop} {a m b : Nat} (_ : RowE w B g n cap d) (_ : a < m) (_ : m < b) (_ : b ≤ n) (_ : b - a ≤ s) (_ : Wk w B g n cap d Q),
    callS Try.prog 61 #[.slice (some ⟨g, 0, none⟩) n cap, .int .i64 (a : Int), .int .i64 (m : Int), .int .i64 (b : Int), f] Q w
  | 0, _, _, _, a, m, b, _, ham, hmb, _, hs, _ => by omega
  | s + 1, w, d, Q, a, m, b, h, ham, hmb, hb, hs, hq => by
    refine ref61 ?_
    unfold S61
    have hw1 : IntKind.i64.wrap ((m : Int) - (a : Int)) = ((m - a : Nat) : Int) := by rw [wrap_id (by omega) (by omega)]; omega
    have hw2 : IntKind.i64.wrap ((b : Int) - (m : Int)) = ((b - m : Nat) : Int) := by rw [wrap_id (by omega) (by omega)]; omega
    have hadd : ∀ (i j : Nat), i ≤ n → j ≤ n → IntKind.i64.wrap ((i : Int) + (j : Int)) = ((i + j : Nat) : Int) := fun i j hi hj => by rw [wrap_id (by omega) (by omega)]; omega
    have hhw : ∀ (i : Nat), i ≤ 2 * n → IntKind.u64.wrap (i : Int) = (i : Int) := fun i hi => half_w (by omega)
    have hhi : ∀ (i : Nat), i ≤ 2 * n → IntKind.i64.wrap (i : Int) = (i : Int) := fun i hi => nat_w (by omega)
    have xi : ∀ i, i < n → ∀ k, pur Try.prog (Instr.indexAt 35 (.slice (some ⟨g, 0, none⟩) n cap) (.int .i64 (i : Int))) k = k (.pointer (some ⟨g, i * 5, none⟩)) := fun i hi k => ixE hi
    have drw : ∀ {w d}, RowE w B g n cap d → RowE w.drew B g n cap d := fun h => Sh.Own.keep h ((K0.refl _).drew) fun _ _ e => e
    by_cases hA : m - a = 1
    · have hA' : ((m - a : Nat) : Int) = 1 := by omega
      simp only [stp, Nat.reduceAdd, Int.reduceLT, Int.reduceLE, Int.reduceEq, Int.reduceNe, ne_eq, bne_self_eq_false, beq_self_eq_true, hw1, hA']
      refine lp2 (fun mm x y w' => ∃ i j : Nat, x = .int .i64 (i : Int) ∧ y = .int .i64 (j : Int) ∧ m ≤ i ∧ i ≤ j ∧ j ≤ b ∧ mm = j - i ∧ RowE w' B g n cap d ∧ Keep (fun b => b = g) w w') (b - m) ⟨m, b, rfl, rfl, Nat.le_refl _, by omega, Nat.le_refl _, rfl, h, Keep.refl _ _⟩ ?_
      rintro mm x y w1 ⟨i, j, rfl, rfl, hmi, hij, hjb, rfl, h1, k1⟩ J hJ _j
      by_cases hlt : i < j
      · have hlt' : ((i : Int) < (j : Int)) := by omega
        have hhn : (i + j) / 2 < n := by omega
        have hws := wrap_succ (i := (i + j) / 2) (by omega)
        simp only [stp, Nat.reduceAdd, Int.reduceLT, Int.reduceLE, Int.reduceEq, Int.reduceNe, ne_eq, bne_self_eq_false, beq_self_eq_true, hlt', hadd i j (by omega) (by omega), hhw (i + j) (by omega), pur_half, hhi ((i + j) / 2) (by omega), xi _ hhn, xi a (by omega)]
        rw [ld_en ((drw h1).en hhn), ld_en ((drw h1).en (i := a) (by omega))]
        refine hf _ _ _ _ fun w2 r _ k2 => ?_
        have h2 := Sh.Own.keep (drw h1) k2 fun _ _ e => e
        have k12 : Keep (fun b => b = g) w w2 := k1.drew.trans k2.none
        by_cases hr : r < 0
        · simp only [stp, Nat.reduceAdd, Int.reduceLT, Int.reduceLE, Int.reduceEq, Int.reduceNe, ne_eq, bne_self_eq_false, beq_self_eq_true, hr, hws]
          exact hJ (j - ((i + j) / 2 + 1)) _ _ _ (by omega) ⟨(i + j) / 2 + 1, j, rfl, rfl, by omega, by omega, hjb, rfl, h2, k12⟩
        · simp only [stp, Nat.reduceAdd, Int.reduceLT, Int.reduceLE, Int.reduceEq, Int.reduceNe, ne_eq, bne_self_eq_false, beq_self_eq_true, hr]
          exact hJ ((i + j) / 2 - i) _ _ _ (by omega) ⟨i, (i + j) / 2, rfl, rfl, hmi, by omega, by omega, rfl, h2, k12⟩
      · have hlt' : ¬ ((i : Int) < (j : Int)) := by omega
        have hwp := wrap_pred (i := i) (by omega) (by omega)
        simp only [stp, Nat.reduceAdd, Int.reduceLT, Int.reduceLE, Int.reduceEq, Int.reduceNe, ne_eq, bne_self_eq_false, beq_self_eq_true, hlt']
        refine lp1 (fun mm x w' => ∃ (k : Nat) (d' : List En), x = .int .i64 (k : Int) ∧ mm = i - k ∧ RowE w' B g n cap d' ∧ d'.Perm d ∧ Keep (fun b => b = g) w w') (i - a) ⟨a, d, rfl, rfl, h1, List.Perm.refl _, k1⟩ ?_
        rintro mm x w2 ⟨k, d2, rfl, rfl, h2, hp2, k2⟩ J1 hJ1 _j
        by_cases hk : k < i - 1
        · have hk' : ((k : Int) < ((i - 1 : Nat) : Int)) := by omega
          have hwk := wrap_succ (i := k) (by omega)
          simp only [stp, Nat.reduceAdd, Int.reduceLT, Int.reduceLE, Int.reduceEq, Int.reduceNe, ne_eq, bne_self_eq_false, beq_self_eq_true, hwp, hk', hwk, xi k (by omega), xi (k + 1) (by omega)]
          rw [ld_en ((drw h2).en (i := k + 1) (by omega)), ld_en ((drw h2).en (i := k) (by omega))]
          refine swap_w (K := fun w4 => J1 (.int .i64 ((k + 1 : Nat) : Int)) w4) (drw h2) (i := k) (j := k + 1) (by omega) (by omega) fun w4 h4 k4 => ?_
          exact hJ1 (i - (k + 1)) _ _ (by omega) ⟨k + 1, _, rfl, rfl, h4, swp_perm.trans hp2, k2.drew.trans k4⟩
        · have hk' : ¬ ((k : Int) < ((i - 1 : Nat) : Int)) := by omega
          simp only [stp, Nat.reduceAdd, Int.reduceLT, Int.reduceLE, Int.reduceEq, Int.reduceNe, ne_eq, bne_self_eq_false, beq_self_eq_true, hwp, hk']
          exact hq _ d2 h2 hp2 k2
    have hA' : ¬ ((m - a : Nat) : Int) = 1 := by omega
    by_cases hC : b - m = 1
    · have hC' : ((b - m : Nat) : Int) = 1 := by omega
      simp only [stp, Nat.reduceAdd, Int.reduceLT, Int.reduceLE, Int.reduceEq, Int.reduceNe, ne_eq, bne_self_eq_false, beq_self_eq_true, hw1, hw2, hA', hC']
      refine lp2 (fun mm x y w' => ∃ i j : Nat, x = .int .i64 (i : Int) ∧ y = .int .i64 (j : Int) ∧ a ≤ i ∧ i ≤ j ∧ j ≤ m ∧ mm = j - i ∧ RowE w' B g n cap d ∧ Keep (fun b => b = g) w w') (m - a) ⟨a, m, rfl, rfl, Nat.le_refl _, by omega, Nat.le_refl _, rfl, h, Keep.refl _ _⟩ ?_
      rintro mm x y w1 ⟨i, j, rfl, rfl, hmi, hij, hjb, rfl, h1, k1⟩ J hJ _j
      by_cases hlt : i < j
      · have hlt' : ((i : Int) < (j : Int)) := by omega
        have hhn : (i + j) / 2 < n := by omega
        have hws := wrap_succ (i := (i + j) / 2) (by omega)
        simp only [stp, Nat.reduceAdd, Int.reduceLT, Int.reduceLE, Int.reduceEq, Int.reduceNe, ne_eq, bne_self_eq_false, beq_self_eq_true, hlt', hadd i j (by omega) (by omega), hhw (i + j) (by omega), pur_half, hhi ((i + j) / 2) (by omega), xi _ hhn, xi m (by omega)]
        rw [ld_en ((drw h1).en (i := m) (by omega)), ld_en ((drw h1).en hhn)]
        refine hf _ _ _ _ fun w2 r _ k2 => ?_
        have h2 := Sh.Own.keep (drw h1) k2 fun _ _ e => e
        have k12 : Keep (fun b => b = g) w w2 := k1.drew.trans k2.none
        by_cases hr : r < 0
        · simp only [stp, Nat.reduceAdd, Int.reduceLT, Int.reduceLE, Int.reduceEq, Int.reduceNe, ne_eq, bne_self_eq_false, beq_self_eq_true, hr]
          exact hJ ((i + j) / 2 - i) _ _ _ (by omega) ⟨i, (i + j) / 2, rfl, rfl, hmi, by omega, by omega, rfl, h2, k12⟩
        · simp only [stp, Nat.reduceAdd, Int.reduceLT, Int.reduceLE, Int.reduceEq, Int.reduceNe, ne_eq, bne_self_eq_false, beq_self_eq_true, hr, hws]
          exact hJ (j - ((i + j) / 2 + 1)) _ _ _ (by omega) ⟨(i + j) / 2 + 1, j, rfl, rfl, by omega, by omega, hjb, rfl, h2, k12⟩
      · have hlt' : ¬ ((i : Int) < (j : Int)) := by omega
        simp only [stp, Nat.reduceAdd, Int.reduceLT, Int.reduceLE, Int.reduceEq, Int.reduceNe, ne_eq, bne_self_eq_false, beq_self_eq_true, hlt']
        refine lp1 (fun mm x w' => ∃ (k : Nat) (d' : List En), x = .int .i64 (k : Int) ∧ k ≤ m ∧ mm = k ∧ RowE w' B g n cap d' ∧ d'.Perm d ∧ Keep (fun b => b = g) w w') m ⟨m, d, rfl, Nat.le_refl _, rfl, h1, List.Perm.refl _, k1⟩ ?_
        rintro mm x w2 ⟨k, d2, rfl, hkm, hmm, h2, hp2, k2⟩ J1 hJ1 _j; subst mm
        by_cases hk : i < k
        · have hk' : ((i : Int) < (k : Int)) := by omega
          have hwk := wrap_pred (i := k) (by omega) (by omega)
          simp only [stp, Nat.reduceAdd, Int.reduceLT, Int.reduceLE, Int.reduceEq, Int.reduceNe, ne_eq, bne_self_eq_false, beq_self_eq_true, hk', hwk, xi k (by omega), xi (k - 1) (by omega)]
          rw [ld_en ((drw h2).en (i := k - 1) (by omega)), ld_en ((drw h2).en (i := k) (by omega))]
          refine swap_w (K := fun w4 => J1 (.int .i64 ((k - 1 : Nat) : Int)) w4) (drw h2) (i := k) (j := k - 1) (by omega) (by omega) fun w4 h4 k4 => ?_
          exact hJ1 (k - 1) _ _ (by omega) ⟨k - 1, _, rfl, by omega, rfl, h4, swp_perm.trans hp2, k2.drew.trans k4⟩
        · have hk' : ¬ ((i : Int) < (k : Int)) := by omega
          simp only [stp, Nat.reduceAdd, Int.reduceLT, Int.reduceLE, Int.reduceEq, Int.reduceNe, ne_eq, bne_self_eq_false, beq_self_eq_true, hk']
          exact hq _ d2 h2 hp2 k2
    have hC' : ¬ ((b - m : Nat) : Int) = 1 := by omega
    simp only [stp, Nat.reduceAdd, Int.reduceLT, Int.reduceLE, Int.reduceEq, Int.reduceNe, ne_eq, bne_self_eq_false, beq_self_eq_true, hw1, hw2, hA', hC', hadd a b (by omega) (by omega), hhw (a + b) (by omega), pur_half, hhi ((a + b) / 2) (by omega)]
    generalize hmid : (a + b) / 2 = mid
    have hmd : a < mid ∧ mid < b ∧ 2 * mid ≤ a + b ∧ a + b ≤ 2 * mid + 1 := by omega
    have hwn : IntKind.i64.wrap ((mid : Int) + (m : Int)) = ((mid + m : Nat) : Int) := hadd mid m (by omega) (by omega)
    simp only [stp, Nat.reduceAdd, Int.reduceLT, Int.reduceLE, Int.reduceEq, Int.reduceNe, ne_eq, bne_self_eq_false, beq_self_eq_true, hwn]
    refine jn2 (fun x y w' => ∃ s0 r0 : Nat, x = .int .i64 (s0 : Int) ∧ y = .int .i64 (r0 : Int) ∧ a ≤ s0 ∧ s0 ≤ r0 ∧ r0 ≤ mid ∧ r0 ≤ m ∧ mid + m - b ≤ s0 ∧ mid + m - s0 ≤ b ∧ (∀ c, s0 ≤ c → c < r0 → mid + m - 1 - c < b) ∧ s0 < mid + m ∧ w' = w) (fun J4 hJ4 => ?_) ?_
    · by_cases hgt : mid < m
      · have hgt' : ((mid : Int) < (m : Int)) := by omega
        have hws : IntKind.i64.wrap (((mid + m : Nat) : Int) - (b : Int)) = ((mid + m - b : Nat) : Int) := by rw [wrap_id (by omega) (by omega)]; omega
        simp only [stp, Nat.reduceAdd, Int.reduceLT, Int.reduceLE, Int.reduceEq, Int.reduceNe, ne_eq, bne_self_eq_false, beq_self_eq_true, hgt', hws]
        exact hJ4 _ _ _ ⟨mid + m - b, mid, rfl, rfl, by omega, by omega, Nat.le_refl _, by omega, Nat.le_refl _, by omega, fun c h1 h2 => by omega, by omega, rfl⟩
      · have hgt' : ¬ ((mid : Int) < (m : Int)) := by omega
        simp only [stp, Nat.reduceAdd, Int.reduceLT, Int.reduceLE, Int.reduceEq, Int.reduceNe, ne_eq, bne_self_eq_false, beq_self_eq_true, hgt']
        exact hJ4 _ _ _ ⟨a, m, rfl, rfl, Nat.le_refl _, by omega, by omega, Nat.le_refl _, by omega, by omega, fun c h1 h2 => by omega, by omega, rfl⟩
    · rintro x y w0 ⟨s0, r0, rfl, rfl, hs1, hs2, hs3, hs4, hs5, hs6, hs7, hs8, rfl⟩ _j
      have hwp : IntKind.i64.wrap (((mid + m : Nat) : Int) - 1) = ((mid + m - 1 : Nat) : Int) := wrap_pred (by omega) (by omega)
      simp only [stp, Nat.reduceAdd, Int.reduceLT, Int.reduceLE, Int.reduceEq, Int.reduceNe, ne_eq, bne_self_eq_false, beq_self_eq_true, hwp]
      refine lp2 (fun mm x y w' => ∃ i j : Nat, x = .int .i64 (i : Int) ∧ y = .int .i64 (j : Int) ∧ s0 ≤ i ∧ i ≤ j ∧ j ≤ r0 ∧ mm = j - i ∧ RowE w' B g n cap d ∧ Keep (fun b => b = g) w0 w') (r0 - s0) ⟨s0, r0, rfl, rfl, Nat.le_refl _, hs2, Nat.le_refl _, rfl, h, Keep.refl _ _⟩ ?_
      rintro mm x y w1 ⟨i, j, rfl, rfl, hsi, hij, hjr, rfl, h1, k1⟩ J hJ _j
      by_cases hlt : i < j
      · have hlt' : ((i : Int) < (j : Int)) := by omega
        have hhn : (i + j) / 2 < n := by omega
        have hpc := hs7 ((i + j) / 2) (by omega) (by omega)
        have hws := wrap_succ (i := (i + j) / 2) (by omega)
        have hwc : IntKind.i64.wrap (((mid + m - 1 : Nat) : Int) - (((i + j) / 2 : Nat) : Int)) = ((mid + m - 1 - (i + j) / 2 : Nat) : Int) := by rw [wrap_id (by omega) (by omega)]; omega
        simp only [stp, Nat.reduceAdd, Int.reduceLT, Int.reduceLE, Int.reduceEq, Int.reduceNe, ne_eq, bne_self_eq_false, beq_self_eq_true, hlt', hadd i j (by omega) (by omega), hhw (i + j) (by omega), pur_half, hhi ((i + j) / 2) (by omega), hwc, xi _ hhn, xi (mid + m - 1 - (i + j) / 2) (by omega)]
        rw [ld_en ((drw h1).en (i := mid + m - 1 - (i + j) / 2) (by omega)), ld_en ((drw h1).en hhn)]
        refine hf _ _ _ _ fun w2 r _ k2 => ?_
        have h2 := Sh.Own.keep (drw h1) k2 fun _ _ e => e
        have k12 : Keep (fun b => b = g) w0 w2 := k1.drew.trans k2.none
        by_cases hr : r < 0
        · simp only [stp, Nat.reduceAdd, Int.reduceLT, Int.reduceLE, Int.reduceEq, Int.reduceNe, ne_eq, bne_self_eq_false, beq_self_eq_true, hr]
          exact hJ ((i + j) / 2 - i) _ _ _ (by omega) ⟨i, (i + j) / 2, rfl, rfl, hsi, by omega, by omega, rfl, h2, k12⟩
        · simp only [stp, Nat.reduceAdd, Int.reduceLT, Int.reduceLE, Int.reduceEq, Int.reduceNe, ne_eq, bne_self_eq_false, beq_self_eq_true, hr, hws]
          exact hJ (j - ((i + j) / 2 + 1)) _ _ _ (by omega) ⟨(i + j) / 2 + 1, j, rfl, rfl, by omega, by omega, hjr, rfl, h2, k12⟩
      · have hlt' : ¬ ((i : Int) < (j : Int)) := by omega
        have hwe : IntKind.i64.wrap (((mid + m : Nat) : Int) - (i : Int)) = ((mid + m - i : Nat) : Int) := by rw [wrap_id (by omega) (by omega)]; omega
        simp only [stp, Nat.reduceAdd, Int.reduceLT, Int.reduceLE, Int.reduceEq, Int.reduceNe, ne_eq, bne_self_eq_false, beq_self_eq_true, hlt', hwe]
        refine jn0 (fun w' => ∃ d', RowE w' B g n cap d' ∧ d'.Perm d ∧ Keep (fun b => b = g) w0 w') (fun J6 hJ6 => ?_) ?_
        · by_cases c1 : i < m
          · have c1' : ((i : Int) < (m : Int)) := by omega
            by_cases c2 : m < mid + m - i
            · have c2' : ((m : Int) < ((mid + m - i : Nat) : Int)) := by omega
              simp only [stp, Nat.reduceAdd, Int.reduceLT, Int.reduceLE, Int.reduceEq, Int.reduceNe, ne_eq, bne_self_eq_false, beq_self_eq_true, c1', c2']
              exact rotate_c h1 c1 c2 (by omega) hn fun w2 d2 h2 hp2 k2 => hJ6 _ ⟨d2, h2, hp2, k1.trans k2⟩
            · have c2' : ¬ ((m : Int) < ((mid + m - i : Nat) : Int)) := by omega
              simp only [stp, Nat.reduceAdd, Int.reduceLT, Int.reduceLE, Int.reduceEq, Int.reduceNe, ne_eq, bne_self_eq_false, beq_self_eq_true, c1', c2']
              exact hJ6 _ ⟨d, h1, List.Perm.refl _, k1⟩
          · have c1' : ¬ ((i : Int) < (m : Int)) := by omega
            simp only [stp, Nat.reduceAdd, Int.reduceLT, Int.reduceLE, Int.reduceEq, Int.reduceNe, ne_eq, bne_self_eq_false, beq_self_eq_true, c1']
            exact hJ6 _ ⟨d, h1, List.Perm.refl _, k1⟩
        · rintro w2 ⟨d2, h2, hp2, k2⟩ _j
          refine jn0 (fun w' => ∃ d', RowE w' B g n cap d' ∧ d'.Perm d ∧ Keep (fun b => b = g) w0 w') (fun J7 hJ7 => ?_) ?_
          · by_cases c1 : a < i
            · have c1' : ((a : Int) < (i : Int)) := by omega
              by_cases c2 : i < mid
              · have c2' : ((i : Int) < (mid : Int)) := by omega
                simp only [stp, Nat.reduceAdd, Int.reduceLT, Int.reduceLE, Int.reduceEq, Int.reduceNe, ne_eq, bne_self_eq_false, beq_self_eq_true, c1', c2']
                exact symMerge_c hf hn s h2 c1 c2 (by omega) (by omega) fun w3 d3 h3 hp3 k3 => hJ7 _ ⟨d3, h3, hp3.trans hp2, k2.trans k3⟩
              · have c2' : ¬ ((i : Int) < (mid : Int)) := by omega
                simp only [stp, Nat.reduceAdd, Int.reduceLT, Int.reduceLE, Int.reduceEq, Int.reduceNe, ne_eq, bne_self_eq_false, beq_self_eq_true, c1', c2']
                exact hJ7 _ ⟨d2, h2, hp2, k2⟩
            · have c1' : ¬ ((a : Int) < (i : Int)) := by omega
              simp only [stp, Nat.reduceAdd, Int.reduceLT, Int.reduceLE, Int.reduceEq, Int.reduceNe, ne_eq, bne_self_eq_false, beq_self_eq_true, c1']
              exact hJ7 _ ⟨d2, h2, hp2, k2⟩
          · rintro w3 ⟨d3, h3, hp3, k3⟩ _j
            by_cases c1 : mid < mid + m - i
            · have c1' : ((mid : Int) < ((mid + m - i : Nat) : Int)) := by omega
              by_cases c2 : mid + m - i < b
              · have c2' : (((mid + m - i : Nat) : Int) < (b : Int)) := by omega
                simp only [stp, Nat.reduceAdd, Int.reduceLT, Int.reduceLE, Int.reduceEq, Int.reduceNe, ne_eq, bne_self_eq_false, beq_self_eq_true, c1', c2']
                exact symMerge_c hf hn s h3 c1 c2 hb (by omega) fun w4 d4 h4 hp4 k4 => hq _ d4 h4 (hp4.trans hp3) (k3.trans k4)
              · have c2' : ¬ (((mid + m - i : Nat) : Int) < (b : Int)) := by omega
                simp only [stp, Nat.reduceAdd, Int.reduceLT, Int.reduceLE, Int.reduceEq, Int.reduceNe, ne_eq, bne_self_eq_false, beq_self_eq_true, c1', c2']
                exact hq _ d3 h3 hp3 k3
            · have c1' : ¬ ((mid : Int) < ((mid + m - i : Nat) : Int)) := by omega
              simp only [stp, Nat.reduceAdd, Int.reduceLT, Int.reduceLE, Int.reduceEq, Int.reduceNe, ne_eq, bne_self_eq_false, beq_self_eq_true, c1']
              exact hq _ d3 h3 hp3 k3
end
end Go.Proofs.Ytjfookddoaemfaa
