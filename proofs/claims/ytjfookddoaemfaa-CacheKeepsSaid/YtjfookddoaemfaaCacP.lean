/- The stable sort of entries, whole: sorted where there are at most 20, else the same entries. Conditions: as each says. -/
import Derived.Test.YtjfookddoaemfaaCacO
set_option linter.unusedSimpArgs false
set_option linter.unusedVariables false
namespace Go.Proofs.Ytjfookddoaemfaa
open Go.Sh Go.Sh.Lrv Go.Proofs.Ytjfookddoaemfaa.Lv
set_option maxRecDepth 100000
section
variable {w w' : World} {Q : Value → World → Prop} {B g n cap : Nat} {d : List En}
theorem SrtD.pre {d d' : List En} {a : Nat} (h : SrtD d 0 a) (e : ∀ k, k < a → ky d' k = ky d k) : SrtD d' 0 a := fun p q h1 h2 h3 => by
  rw [e p (by omega), e q h3]; exact h p q h1 h2 h3
theorem stable_c {f : Value} (hf : Cmp f) (hn : n ≤ 1000000) (h : RowE w B g n cap d)
    (hq : ∀ w' d', RowE w' B g n cap d' → d'.Perm d → (n ≤ 20 → SrtD d' 0 n) → Keep (fun b => b = g) w w' → Q (.tuple #[]) w') :
    callS Try.prog 53 #[.slice (some ⟨g, 0, none⟩) n cap, .int .i64 (n : Int), f] Q w := by
  refine ref53 ?_
  unfold S53
  refine lp2 (fun mm x y w' => ∃ (a : Nat) (d' : List En), x = .int .i64 (a : Int) ∧ y = .int .i64 ((a + 20 : Nat) : Int) ∧ a ≤ n ∧ mm = n - a ∧ (a = 0 ∨ 20 ≤ a) ∧ RowE w' B g n cap d' ∧ d'.Perm d ∧ (n ≤ 20 → SrtD d' 0 a) ∧ Keep (fun b => b = g) w w') n
    ⟨0, d, rfl, rfl, Nat.zero_le _, rfl, .inl rfl, h, List.Perm.refl _, fun _ p q h1 h2 h3 => by omega, Keep.refl _ _⟩ ?_
  rintro mm x y w1 ⟨a, d1, rfl, rfl, han, hmm, ha0, h1, hp1, hs1, k1⟩ J hJ _j
  subst mm
  by_cases hb : a + 20 ≤ n
  · have hb' : (((a + 20 : Nat) : Int) ≤ (n : Int)) := by omega
    have hw : IntKind.i64.wrap (((a + 20 : Nat) : Int) + 20) = ((a + 20 + 20 : Nat) : Int) := by rw [wrap_id (by omega) (by omega)]; omega
    simp only [stp, Nat.reduceAdd, Int.reduceLT, Int.reduceLE, Int.reduceEq, Int.reduceNe, ne_eq, bne_self_eq_false, beq_self_eq_true, hb']
    refine ins_c hf h1 (a := a) (b := a + 20) (by omega) hn (by omega) fun w2 d2 h2 hp2 hs2 hl2 k2 => ?_
    simp only [stp, Nat.reduceAdd, Int.reduceLT, Int.reduceLE, Int.reduceEq, Int.reduceNe, ne_eq, bne_self_eq_false, beq_self_eq_true, hw]
    refine hJ (n - (a + 20)) _ _ _ (by omega) ⟨a + 20, d2, rfl, rfl, hb, rfl, .inr (by omega), h2, hp2.trans hp1, fun hle => ?_, k1.trans k2⟩
    have : a = 0 := by omega
    subst this
    exact hs2
  · have hb' : ¬ (((a + 20 : Nat) : Int) ≤ (n : Int)) := by omega
    simp only [stp, Nat.reduceAdd, Int.reduceLT, Int.reduceLE, Int.reduceEq, Int.reduceNe, ne_eq, bne_self_eq_false, beq_self_eq_true, hb']
    refine ins_c hf h1 (a := a) (b := n) (Nat.le_refl _) hn (by omega) fun w2 d2 h2 hp2 hs2 hl2 k2 => ?_
    have hsn : n ≤ 20 → SrtD d2 0 n := fun hle => by
      rcases ha0 with rfl | h20
      · exact hs2
      · have : a = n := by omega
        subst this
        exact (hs1 hle).pre hl2
    refine lp1 (fun mm x w' => ∃ (bs : Nat) (d' : List En), x = .int .i64 (bs : Int) ∧ 20 ≤ bs ∧ bs ≤ 2000000 ∧ mm = n - bs ∧ RowE w' B g n cap d' ∧ d'.Perm d ∧ (n ≤ 20 → SrtD d' 0 n) ∧ Keep (fun b => b = g) w w') (n - 20)
      ⟨20, d2, rfl, by omega, by omega, rfl, h2, hp2.trans hp1, hsn, k1.trans k2⟩ ?_
    rintro mm x w3 ⟨bs, d3, rfl, hb20, hbB, hmm, h3, hp3, hs3, k3⟩ J hJ _j
    subst mm
    by_cases hbn : bs < n
    case neg =>
      have hbn' : ¬ ((bs : Int) < (n : Int)) := by omega
      simp only [stp, Nat.reduceAdd, Int.reduceLT, Int.reduceLE, Int.reduceEq, Int.reduceNe, ne_eq, bne_self_eq_false, beq_self_eq_true, hbn']
      exact hq _ d3 h3 hp3 hs3 k3
    have hbn' : ((bs : Int) < (n : Int)) := by omega
    have hw2 : IntKind.i64.wrap (2 * (bs : Int)) = ((2 * bs : Nat) : Int) := by rw [wrap_id (by omega) (by omega)]; omega
    have hw2' : IntKind.i64.wrap ((bs : Int) * 2) = ((2 * bs : Nat) : Int) := by rw [wrap_id (by omega) (by omega)]; omega
    simp only [stp, Nat.reduceAdd, Int.reduceLT, Int.reduceLE, Int.reduceEq, Int.reduceNe, ne_eq, bne_self_eq_false, beq_self_eq_true, hbn', hw2]
    refine lp2 (fun mm x y w' => ∃ (a : Nat) (d' : List En), x = .int .i64 (a : Int) ∧ y = .int .i64 ((a + 2 * bs : Nat) : Int) ∧ a ≤ n ∧ mm = n - a ∧ RowE w' B g n cap d' ∧ d'.Perm d ∧ Keep (fun b => b = g) w w') n
      ⟨0, d3, rfl, by rw [Nat.zero_add], Nat.zero_le _, rfl, h3, hp3, k3⟩ ?_
    rintro mm x y w4 ⟨a, d4, rfl, rfl, han4, hmm, h4, hp4, k4⟩ J4 hJ4 _j
    subst mm
    have hwa : IntKind.i64.wrap ((a : Int) + (bs : Int)) = ((a + bs : Nat) : Int) := by rw [wrap_id (by omega) (by omega)]; omega
    have hwb : IntKind.i64.wrap (((a + 2 * bs : Nat) : Int) + ((2 * bs : Nat) : Int)) = ((a + 2 * bs + 2 * bs : Nat) : Int) := by rw [wrap_id (by omega) (by omega)]; omega
    by_cases hc : a + 2 * bs ≤ n
    · have hc' : (((a + 2 * bs : Nat) : Int) ≤ (n : Int)) := by omega
      simp only [stp, Nat.reduceAdd, Int.reduceLT, Int.reduceLE, Int.reduceEq, Int.reduceNe, ne_eq, bne_self_eq_false, beq_self_eq_true, hc', hwa]
      refine symMerge_c hf hn n h4 (a := a) (m := a + bs) (b := a + 2 * bs) (by omega) (by omega) hc (by omega) fun w5 d5 h5 hp5 k5 => ?_
      simp only [stp, Nat.reduceAdd, Int.reduceLT, Int.reduceLE, Int.reduceEq, Int.reduceNe, ne_eq, bne_self_eq_false, beq_self_eq_true, hw2, hwb]
      exact hJ4 (n - (a + 2 * bs)) _ _ _ (by omega) ⟨a + 2 * bs, d5, rfl, rfl, hc, rfl, h5, hp5.trans hp4, k4.trans k5⟩
    · have hc' : ¬ (((a + 2 * bs : Nat) : Int) ≤ (n : Int)) := by omega
      simp only [stp, Nat.reduceAdd, Int.reduceLT, Int.reduceLE, Int.reduceEq, Int.reduceNe, ne_eq, bne_self_eq_false, beq_self_eq_true, hc']
      have fin : ∀ w6 d6, RowE w6 B g n cap d6 → d6.Perm d → Keep (fun b => b = g) w w6 → J (.int .i64 ((2 * bs : Nat) : Int)) w6 := fun w6 d6 h6 hp6 k6 =>
        hJ (n - 2 * bs) _ _ (by omega) ⟨2 * bs, d6, rfl, by omega, by omega, rfl, h6, hp6, fun hle => by omega, k6⟩
      refine jn0 (fun w' => ∃ d', RowE w' B g n cap d' ∧ d'.Perm d ∧ Keep (fun b => b = g) w w') (fun J7 hJ7 => ?_) ?_
      · simp only [stp, Nat.reduceAdd, Int.reduceLT, Int.reduceLE, Int.reduceEq, Int.reduceNe, ne_eq, bne_self_eq_false, beq_self_eq_true, hwa]
        by_cases hd : a + bs < n
        · have hd' : (((a + bs : Nat) : Int) < (n : Int)) := by omega
          simp only [stp, Nat.reduceAdd, Int.reduceLT, Int.reduceLE, Int.reduceEq, Int.reduceNe, ne_eq, bne_self_eq_false, beq_self_eq_true, hd']
          exact symMerge_c hf hn n h4 (a := a) (m := a + bs) (b := n) (by omega) hd (Nat.le_refl _) (by omega) fun w5 d5 h5 hp5 k5 => hJ7 _ ⟨d5, h5, hp5.trans hp4, k4.trans k5⟩
        · have hd' : ¬ (((a + bs : Nat) : Int) < (n : Int)) := by omega
          simp only [stp, Nat.reduceAdd, Int.reduceLT, Int.reduceLE, Int.reduceEq, Int.reduceNe, ne_eq, bne_self_eq_false, beq_self_eq_true, hd']
          exact hJ7 _ ⟨d4, h4, hp4, k4⟩
      · rintro w6 ⟨d6, h6, hp6, k6⟩ _j
        simp only [stp, Nat.reduceAdd, Int.reduceLT, Int.reduceLE, Int.reduceEq, Int.reduceNe, ne_eq, bne_self_eq_false, beq_self_eq_true, hw2']
        exact fin w6 d6 h6 hp6 k6
theorem stableN_c {f : Value} (hq : Q (.tuple #[]) w) : callS Try.prog 53 #[.slice none 0 0, .int .i64 0, f] Q w := by
  refine ref53 ?_
  unfold S53
  refine lp2 (fun mm x y w' => x = .int .i64 0 ∧ y = .int .i64 20 ∧ w' = w) 0 ⟨rfl, rfl, rfl⟩ ?_
  rintro mm x y w1 ⟨rfl, rfl, rfl⟩ J hJ _j
  simp only [stp, Nat.reduceAdd, Int.reduceLT, Int.reduceLE, Int.reduceEq, Int.reduceNe, ne_eq, bne_self_eq_false, beq_self_eq_true]
  refine ref60 ?_
  unfold S60
  simp only [stp, Nat.reduceAdd, Int.reduceLT, Int.reduceLE, Int.reduceEq, Int.reduceNe, ne_eq, bne_self_eq_false, beq_self_eq_true]
  refine lp1 (fun mm x w' => x = .int .i64 1 ∧ w' = w1) 0 ⟨rfl, rfl⟩ ?_
  rintro mm x w2 ⟨rfl, rfl⟩ J hJ _j
  simp only [stp, Nat.reduceAdd, Int.reduceLT, Int.reduceLE, Int.reduceEq, Int.reduceNe, ne_eq, bne_self_eq_false, beq_self_eq_true]
  refine lp1 (fun mm x w' => x = .int .i64 20 ∧ w' = w2) 0 ⟨rfl, rfl⟩ ?_
  rintro mm x w2 ⟨rfl, rfl⟩ J hJ _j
  simp only [stp, Nat.reduceAdd, Int.reduceLT, Int.reduceLE, Int.reduceEq, Int.reduceNe, ne_eq, bne_self_eq_false, beq_self_eq_true]
  exact hq
/-- SortStableFunc over a row of one's own. -/
theorem sstable_c {v : Value} (hn : n ≤ 1000000) (h : Sh.Own w B 49 5 v n (flat encE d))
    (hq : ∀ w' d', Sh.Own w' B 49 5 v n (flat encE d') → d'.Perm d → (n ≤ 20 → SrtD d' 0 n) → Keep (fun b => v.ownBlock = some b) w w' → Q (.tuple #[]) w') :
    callS Try.prog 35 #[v, .func (.func 36) #[] #[]] Q w := by
  refine ref35 ?_
  unfold S35
  rcases h.2 with ⟨rfl, hn0⟩ | ⟨g, cap, cur, rfl, _⟩
  · subst hn0
    simp only [stp, Nat.reduceAdd, Int.reduceLT, Int.reduceLE, Int.reduceEq, Int.reduceNe, ne_eq, bne_self_eq_false, beq_self_eq_true]
    refine stableN_c ?_
    exact hq _ d h (List.Perm.refl _) (fun _ p q h1 h2 h3 => by omega) (Keep.refl _ _)
  · simp only [stp, Nat.reduceAdd, Int.reduceLT, Int.reduceLE, Int.reduceEq, Int.reduceNe, ne_eq, bne_self_eq_false, beq_self_eq_true]
    refine stable_c dirty2_cmp hn h fun w' d' h' hp hs k => ?_
    exact hq _ d' h' hp hs (k.mono fun b _ e => by rw [e]; rfl)
end
end Go.Proofs.Ytjfookddoaemfaa
