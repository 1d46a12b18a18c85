/- A transaction: how it lies in memory; shapes, rooms. Conditions: as each says. -/
import Derived.Test.YtdnbegjamoeahaaGreatUModeC0
import Derived.Test.YtdnbegjamoeahaaGreatUKeep
set_option linter.unusedSimpArgs false
set_option linter.unusedVariables false
namespace Go.Proofs.YtdnbegjamoeahaaGreatU
open Go.Sh Go.Proofs.YtdnbegjamoeahaaGreatU.Mi
set_option maxRecDepth 100000
section
variable {w w' : World} {Q : Value → World → Prop}
/-- A shape: nodes, blocks, log, cache, lease. -/
structure Sh5 where
  nodes : Int
  blocks : Int
  log : Int
  cache : Int
  lease : Int
def Sh5.vals (s : Sh5) : List Value := [.int .i64 s.nodes, .int .i64 s.blocks, .int .i64 s.log, .int .i64 s.cache, .int .i64 s.lease]
structure Sh5.ok (s : Sh5) : Prop where
  n : 1 ≤ s.nodes ∧ s.nodes ≤ 16
  b : 1 ≤ s.blocks ∧ s.blocks ≤ 4096
  l : 8 ≤ s.log ∧ s.log ≤ 256
  c : 2 ≤ s.cache ∧ s.cache ≤ 1000
  t : 32 ≤ s.lease ∧ s.lease ≤ 1000
theorem sin_c {n a b : Int} (h1 : a ≤ n ∧ n ≤ b → Q (.bool true) w) (h0 : ¬ (a ≤ n ∧ n ≤ b) → Q (.bool false) w) :
    callS Tryz.prog 260 #[.int .i64 n, .int .i64 a, .int .i64 b] Q w := by
  refine ref260 ?_
  unfold S260
  by_cases ha : a ≤ n
  · by_cases hb : n ≤ b
    · simp only [stp, Nat.reduceAdd, Int.reduceLT, Int.reduceLE, Int.reduceEq, Int.reduceNe, ne_eq, bne_self_eq_false, beq_self_eq_true, stm, ha, hb]; exact h1 ⟨ha, hb⟩
    · simp only [stp, Nat.reduceAdd, Int.reduceLT, Int.reduceLE, Int.reduceEq, Int.reduceNe, ne_eq, bne_self_eq_false, beq_self_eq_true, stm, ha, hb]; exact h0 (fun h => hb h.2)
  · simp only [stp, Nat.reduceAdd, Int.reduceLT, Int.reduceLE, Int.reduceEq, Int.reduceNe, ne_eq, bne_self_eq_false, beq_self_eq_true, stm, ha]; exact h0 (fun h => ha h.1)
theorem svalid_c {s : Sh5} (h1 : ∀ w', s.ok → K0 w w' → Q (.bool true) w') (h0 : ∀ w', ¬ s.ok → K0 w w' → Q (.bool false) w') :
    callS Tryz.prog 215 #[.agg s.vals.toArray] Q w := by
  refine ref215 ?_
  unfold S215
  rw [act_box]
  generalize hw1 : w.alloc _ = w1
  have b1 : blk w1 (siz w) = some (.cells s.vals.toArray 142) := by rw [← hw1]; exact blk_alloc_new
  have k1 : K0 w w1 := by rw [← hw1]; exact (K0.refl w).alloc _
  have e0 : cel w1 (siz w) 0 = some (.int .i64 s.nodes) := cel_b b1 0
  have e1 : cel w1 (siz w) 1 = some (.int .i64 s.blocks) := cel_b b1 1
  have e2 : cel w1 (siz w) 2 = some (.int .i64 s.log) := cel_b b1 2
  have e3 : cel w1 (siz w) 3 = some (.int .i64 s.cache) := cel_b b1 3
  have e4 : cel w1 (siz w) 4 = some (.int .i64 s.lease) := cel_b b1 4
  simp only [stp, Nat.reduceAdd, Int.reduceLT, Int.reduceLE, Int.reduceEq, Int.reduceNe, ne_eq, bne_self_eq_false, beq_self_eq_true, e0, Option.isSome_some, Option.getD_some]
  refine sin_c (fun a => ?_) (fun a => ?_)
  rotate_left
  · simp only [stp, Nat.reduceAdd, Int.reduceLT, Int.reduceLE, Int.reduceEq, Int.reduceNe, ne_eq, bne_self_eq_false, beq_self_eq_true, stm]
    exact h0 _ (fun h => a h.n) k1
  simp only [stp, Nat.reduceAdd, Int.reduceLT, Int.reduceLE, Int.reduceEq, Int.reduceNe, ne_eq, bne_self_eq_false, beq_self_eq_true, stm, e1, Option.isSome_some, Option.getD_some]
  refine sin_c (fun b => ?_) (fun b => ?_)
  rotate_left
  · simp only [stp, Nat.reduceAdd, Int.reduceLT, Int.reduceLE, Int.reduceEq, Int.reduceNe, ne_eq, bne_self_eq_false, beq_self_eq_true, stm]
    exact h0 _ (fun h => b h.b) k1
  simp only [stp, Nat.reduceAdd, Int.reduceLT, Int.reduceLE, Int.reduceEq, Int.reduceNe, ne_eq, bne_self_eq_false, beq_self_eq_true, stm, e2, Option.isSome_some, Option.getD_some]
  refine sin_c (fun c => ?_) (fun c => ?_)
  rotate_left
  · simp only [stp, Nat.reduceAdd, Int.reduceLT, Int.reduceLE, Int.reduceEq, Int.reduceNe, ne_eq, bne_self_eq_false, beq_self_eq_true, stm]
    exact h0 _ (fun h => c h.l) k1
  simp only [stp, Nat.reduceAdd, Int.reduceLT, Int.reduceLE, Int.reduceEq, Int.reduceNe, ne_eq, bne_self_eq_false, beq_self_eq_true, stm, e3, Option.isSome_some, Option.getD_some]
  refine sin_c (fun d => ?_) (fun d => ?_)
  rotate_left
  · simp only [stp, Nat.reduceAdd, Int.reduceLT, Int.reduceLE, Int.reduceEq, Int.reduceNe, ne_eq, bne_self_eq_false, beq_self_eq_true, stm]
    exact h0 _ (fun h => d h.c) k1
  simp only [stp, Nat.reduceAdd, Int.reduceLT, Int.reduceLE, Int.reduceEq, Int.reduceNe, ne_eq, bne_self_eq_false, beq_self_eq_true, stm, e4, Option.isSome_some, Option.getD_some]
  refine sin_c (fun e => ?_) (fun e => ?_)
  rotate_left
  · exact h0 _ (fun h => e h.t) k1
  exact h1 _ ⟨a, b, c, d, e⟩ k1
theorem secs_c {n : Int} (h1 : 1 ≤ n) (h2 : n ≤ 60) (hq : Q (.int .i64 ((108 * n + 41) / 42)) w) : callS Tryz.prog 256 #[.int .i64 n] Q w := by
  refine ref256 ?_
  unfold S256
  have a1 : ¬ n < 1 := by omega
  have a2 : ¬ (60 < n) := by omega
  have e1 : IntKind.i64.wrap (108 * n) = 108 * n := wrap_id (by omega) (by omega)
  have e2 : IntKind.i64.wrap (108 * n + 42) = 108 * n + 42 := wrap_id (by omega) (by omega)
  have e3 : IntKind.i64.wrap (108 * n + 42 - 1) = 108 * n + 41 := by rw [wrap_id (by omega) (by omega)]; omega
  have e4 : IntKind.i64.wrap ((108 * n + 41).tdiv 42) = (108 * n + 41) / 42 := by rw [Int.tdiv_eq_ediv_of_nonneg (by omega), wrap_id (by omega) (by omega)]
  simp only [stp, Nat.reduceAdd, Int.reduceLT, Int.reduceLE, Int.reduceEq, Int.reduceNe, ne_eq, bne_self_eq_false, beq_self_eq_true, stm, a1, a2, e1, e2, e3]
  rw [pur_quo (by decide), e4]
  exact hq
/-- How many images a record of a log may have. -/
def mostF (log : Int) : Int := min 60 (7 * ((log - 1) / 2) / 18)
theorem most_c {log : Int} (h1 : 1 ≤ log) (h2 : log ≤ 100000) (hq : Q (.int .i64 (mostF log)) w) : callS Tryz.prog 210 #[.int .i64 log] Q w := by
  refine ref210 ?_
  unfold S210
  have a1 : ¬ log < 1 := by omega
  have a2 : ¬ (100000 < log) := by omega
  simp only [stp, Nat.reduceAdd, Int.reduceLT, Int.reduceLE, Int.reduceEq, Int.reduceNe, ne_eq, bne_self_eq_false, beq_self_eq_true, stm, a1, a2]
  refine lp1 (fun mm x w' => w' = w ∧ ∃ n : Nat, x = .int .i64 (n : Int) ∧ n ≤ 60 ∧ 18 * (n : Int) ≤ 7 * ((log - 1) / 2) ∧ mm = 60 - n) 60 ⟨rfl, 0, rfl, by omega, by omega, rfl⟩ ?_
  rintro mm x w1 ⟨rfl, n, rfl, hn, hs, rfl⟩ J hJ _j
  have e1 : IntKind.i64.wrap ((n : Int) + 1) = ((n + 1 : Nat) : Int) := wrap_succ (by omega)
  have e2 : IntKind.i64.wrap (log - 1) = log - 1 := wrap_id (by omega) (by omega)
  have e3 : IntKind.i64.wrap ((log - 1).tdiv 2) = (log - 1) / 2 := by rw [Int.tdiv_eq_ediv_of_nonneg (by omega), wrap_id (by omega) (by omega)]
  by_cases hlt : n < 60
  · have hlt' : (n : Int) < 60 := by omega
    simp only [stp, Nat.reduceAdd, Int.reduceLT, Int.reduceLE, Int.reduceEq, Int.reduceNe, ne_eq, bne_self_eq_false, beq_self_eq_true, stm, hlt', e1]
    refine secs_c (by omega) (by omega) ?_
    simp only [stp, Nat.reduceAdd, Int.reduceLT, Int.reduceLE, Int.reduceEq, Int.reduceNe, ne_eq, bne_self_eq_false, beq_self_eq_true, stm, e2]
    rw [pur_quo (by decide), e3]
    by_cases hle : (108 * ((n + 1 : Nat) : Int) + 41) / 42 ≤ (log - 1) / 2
    · simp only [stp, Nat.reduceAdd, Int.reduceLT, Int.reduceLE, Int.reduceEq, Int.reduceNe, ne_eq, bne_self_eq_false, beq_self_eq_true, stm, hle, e1]
      exact hJ (60 - (n + 1)) _ _ (by omega) ⟨rfl, n + 1, rfl, by omega, by omega, rfl⟩
    · simp only [stp, Nat.reduceAdd, Int.reduceLT, Int.reduceLE, Int.reduceEq, Int.reduceNe, ne_eq, bne_self_eq_false, beq_self_eq_true, stm, hle]
      have : (n : Int) = mostF log := by unfold mostF; omega
      rw [this]; exact hq
  · have hlt' : ¬ (n : Int) < 60 := by omega
    simp only [stp, Nat.reduceAdd, Int.reduceLT, Int.reduceLE, Int.reduceEq, Int.reduceNe, ne_eq, bne_self_eq_false, beq_self_eq_true, stm, hlt']
    have : (n : Int) = mostF log := by unfold mostF; omega
    rw [this]; exact hq
/-! ### what a transaction knows -/
structure TS where
  sh : Sh5
  l : List (Pt Int)
  wr : List (Int × ByteArray)
  rd : List (Int × ByteArray)
def kvP (p : Int × ByteArray) : Value × Value := (.int .i64 p.1, .string p.2)
def TS.cells (s : TS) (m a b : Nat) : Array Value := 
  #[.int .i64 s.sh.nodes, .int .i64 s.sh.blocks, .int .i64 s.sh.log, .int .i64 s.sh.cache, .int .i64 s.sh.lease, .pointer (some ⟨m, 0, none⟩), .map (some a), .map (some b)]
/-- A map of texts. -/
structure TM (w : World) (a : Nat) (l : List (Int × ByteArray)) : Prop where
  mp : mp w a = some (l.map kvP)
  st : Go.Sh.stp w a
structure TXr (w : World) (B t : Nat) (s : TS) (m a b : Nat) : Prop where
  ct : blk w t = some (.cells (s.cells m a b) 179)
  im : IM w m s.l
  ma : TM w a s.wr
  mb : TM w b s.rd
  ab : a ≠ b
  Bt : B ≤ t
  Bm : B ≤ m
  Ba : B ≤ a
  Bb : B ≤ b
  ok : s.sh.ok
  ll : s.l.length ≤ 100000
def TX (w : World) (B t : Nat) (s : TS) : Prop := ∃ m a b, TXr w B t s m a b
theorem tm_blk {a : Nat} {l : List (Int × ByteArray)} (h : TM w a l) : ∃ es c, blk w a = some (.map es c) := by
  obtain ⟨es, c, h, _⟩ := mp_blk h.mp
  exact ⟨es, c, h⟩
theorem TM.lt {a : Nat} {l : List (Int × ByteArray)} (h : TM w a l) : a < siz w := mp_lt h.mp
theorem TM.keep {F : Nat → Prop} {a : Nat} {l : List (Int × ByteArray)} (h : TM w a l) (k : Keep F w w') (hF : ¬ F a) : TM w' a l := by
  have e := k.block a h.lt hF
  refine ⟨by rw [Sh.mp, e]; exact h.mp, ?_⟩
  obtain ⟨es, c, hb, hs⟩ := h.st
  exact ⟨es, c, by rw [e]; exact hb, hs⟩
theorem im_blk' {m : Nat} {l : List (Pt Int)} (h : IM w m l) : ∃ cs, blk w m = some (.cells cs 115) := by obtain ⟨sl, h, _⟩ := h; exact ⟨_, h⟩
theorem im_keepM {F : Nat → Prop} {m : Nat} {l : List (Pt Int)} (h : IM w m l) (k : Keep F w w') (hF : ∀ g cs t, blk w g = some (.cells cs t) → t = 115 ∨ t = 230 → ¬ F g) : IM w' m l := by
  obtain ⟨sl, hb, ho, hc⟩ := h
  refine ⟨sl, k.blk hb (hF _ _ _ hb (.inl rfl)), ho.keep k fun g hg e => ?_, hc⟩
  rcases ho.2 with ⟨rfl, _⟩ | ⟨g', cap, cur, rfl, _, hh, _⟩
  · cases hg
  · injection hg with hg
    subst hg
    exact hF _ _ _ hh (.inr rfl) e
theorem TXr.keep0 {B t m a b : Nat} {s : TS} (h : TXr w B t s m a b) (k : K0 w w') : TXr w' B t s m a b :=
  { h with ct := k.blk h.ct id, im := im_keepM h.im k (fun _ _ _ _ _ => id), ma := h.ma.keep k id, mb := h.mb.keep k id }
theorem TX.keep0 {B t : Nat} {s : TS} (h : TX w B t s) (k : K0 w w') : TX w' B t s := by obtain ⟨m, a, b, h⟩ := h; exact ⟨m, a, b, h.keep0 k⟩
/-- What a transaction turns. -/
def tp : Obj → Bool := tysM [179, 115]
end
end Go.Proofs.YtdnbegjamoeahaaGreatU
