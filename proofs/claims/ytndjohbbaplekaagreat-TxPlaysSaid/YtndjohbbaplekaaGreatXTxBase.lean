/- A transaction: how it lies in memory; shapes, rooms. Conditions: as each says. -/
import Derived.Test.YtndjohbbaplekaaGreatXModeC0
import Derived.Test.YtndjohbbaplekaaGreatXKeep
import Derived.Test.YtndjohbbaplekaaGreatXLayR
set_option linter.unusedSimpArgs false
set_option linter.unusedVariables false
namespace Go.Proofs.YtndjohbbaplekaaGreatX
open Go.Sh Go.Proofs.YtndjohbbaplekaaGreatX.Mi
set_option maxRecDepth 100000
section
variable {w w' : World} {Q : Value → World → Prop}
/-- A shape: nodes, blocks, log, cache, lease. -/
structure Sh5 where
  nodes : Int
  blocks : Int
  log : Int
  cache : Int
  lease : Int
def Sh5.vals (s : Sh5) : List Value := [.int .i64 s.nodes, .int .i64 s.blocks, .int .i64 s.log, .int .i64 s.cache, .int .i64 s.lease]
structure Sh5.ok (s : Sh5) : Prop where
  n : 1 ≤ s.nodes ∧ s.nodes ≤ 16
  b : 1 ≤ s.blocks ∧ s.blocks ≤ 4096
  l : 8 ≤ s.log ∧ s.log ≤ 256
  c : 2 ≤ s.cache ∧ s.cache ≤ 1000
  t : 32 ≤ s.lease ∧ s.lease ≤ 1000
theorem sin_c {n a b : Int} (h1 : a ≤ n ∧ n ≤ b → Q (.bool true) w) (h0 : ¬ (a ≤ n ∧ n ≤ b) → Q (.bool false) w) :
    callS Tryz.prog 230 #[.int .i64 n, .int .i64 a, .int .i64 b] Q w := by
  refine ref230 ?_
  unfold S230
  by_cases ha : a ≤ n
  · by_cases hb : n ≤ b
    · simp only [stp, Nat.reduceAdd, Int.reduceLT, Int.reduceLE, Int.reduceEq, Int.reduceNe, ne_eq, bne_self_eq_false, beq_self_eq_true, stm, ha, hb]; exact h1 ⟨ha, hb⟩
    · simp only [stp, Nat.reduceAdd, Int.reduceLT, Int.reduceLE, Int.reduceEq, Int.reduceNe, ne_eq, bne_self_eq_false, beq_self_eq_true, stm, ha, hb]; exact h0 (fun h => hb h.2)
  · simp only [stp, Nat.reduceAdd, Int.reduceLT, Int.reduceLE, Int.reduceEq, Int.reduceNe, ne_eq, bne_self_eq_false, beq_self_eq_true, stm, ha]; exact h0 (fun h => ha h.1)
theorem svalid_c {s : Sh5} (h1 : ∀ w', s.ok → K0 w w' → Q (.bool true) w') (h0 : ∀ w', ¬ s.ok → K0 w w' → Q (.bool false) w') :
    callS Tryz.prog 184 #[.agg s.vals.toArray] Q w := by
  refine ref184 ?_
  unfold S184
  rw [act_box]
  generalize hw1 : w.alloc _ = w1
  have b1 : blk w1 (siz w) = some (.cells s.vals.toArray 122) := by rw [← hw1]; exact blk_alloc_new
  have k1 : K0 w w1 := by rw [← hw1]; exact (K0.refl w).alloc _
  have e0 : cel w1 (siz w) 0 = some (.int .i64 s.nodes) := cel_b b1 0
  have e1 : cel w1 (siz w) 1 = some (.int .i64 s.blocks) := cel_b b1 1
  have e2 : cel w1 (siz w) 2 = some (.int .i64 s.log) := cel_b b1 2
  have e3 : cel w1 (siz w) 3 = some (.int .i64 s.cache) := cel_b b1 3
  have e4 : cel w1 (siz w) 4 = some (.int .i64 s.lease) := cel_b b1 4
  simp only [stp, Nat.reduceAdd, Int.reduceLT, Int.reduceLE, Int.reduceEq, Int.reduceNe, ne_eq, bne_self_eq_false, beq_self_eq_true, e0, Option.isSome_some, Option.getD_some]
  refine sin_c (fun a => ?_) (fun a => ?_)
  rotate_left
  · simp only [stp, Nat.reduceAdd, Int.reduceLT, Int.reduceLE, Int.reduceEq, Int.reduceNe, ne_eq, bne_self_eq_false, beq_self_eq_true, stm]
    exact h0 _ (fun h => a h.n) k1
  simp only [stp, Nat.reduceAdd, Int.reduceLT, Int.reduceLE, Int.reduceEq, Int.reduceNe, ne_eq, bne_self_eq_false, beq_self_eq_true, stm, e1, Option.isSome_some, Option.getD_some]
  refine sin_c (fun b => ?_) (fun b => ?_)
  rotate_left
  · simp only [stp, Nat.reduceAdd, Int.reduceLT, Int.reduceLE, Int.reduceEq, Int.reduceNe, ne_eq, bne_self_eq_false, beq_self_eq_true, stm]
    exact h0 _ (fun h => b h.b) k1
  simp only [stp, Nat.reduceAdd, Int.reduceLT, Int.reduceLE, Int.reduceEq, Int.reduceNe, ne_eq, bne_self_eq_false, beq_self_eq_true, stm, e2, Option.isSome_some, Option.getD_some]
  refine sin_c (fun c => ?_) (fun c => ?_)
  rotate_left
  · simp only [stp, Nat.reduceAdd, Int.reduceLT, Int.reduceLE, Int.reduceEq, Int.reduceNe, ne_eq, bne_self_eq_false, beq_self_eq_true, stm]
    exact h0 _ (fun h => c h.l) k1
  simp only [stp, Nat.reduceAdd, Int.reduceLT, Int.reduceLE, Int.reduceEq, Int.reduceNe, ne_eq, bne_self_eq_false, beq_self_eq_true, stm, e3, Option.isSome_some, Option.getD_some]
  refine sin_c (fun d => ?_) (fun d => ?_)
  rotate_left
  · simp only [stp, Nat.reduceAdd, Int.reduceLT, Int.reduceLE, Int.reduceEq, Int.reduceNe, ne_eq, bne_self_eq_false, beq_self_eq_true, stm]
    exact h0 _ (fun h => d h.c) k1
  simp only [stp, Nat.reduceAdd, Int.reduceLT, Int.reduceLE, Int.reduceEq, Int.reduceNe, ne_eq, bne_self_eq_false, beq_self_eq_true, stm, e4, Option.isSome_some, Option.getD_some]
  refine sin_c (fun e => ?_) (fun e => ?_)
  rotate_left
  · exact h0 _ (fun h => e h.t) k1
  exact h1 _ ⟨a, b, c, d, e⟩ k1
theorem secs_c {n : Int} (h1 : 1 ≤ n) (h2 : n ≤ 60) (hq : Q (.int .i64 ((108 * n + 41) / 42)) w) : callS Tryz.prog 232 #[.int .i64 n] Q w := by
  refine ref232 ?_
  unfold S232
  have a1 : ¬ n < 1 := by omega
  have a2 : ¬ (60 < n) := by omega
  have e1 : IntKind.i64.wrap (108 * n) = 108 * n := wrap_id (by omega) (by omega)
  have e2 : IntKind.i64.wrap (108 * n + 42) = 108 * n + 42 := wrap_id (by omega) (by omega)
  have e3 : IntKind.i64.wrap (108 * n + 42 - 1) = 108 * n + 41 := by rw [wrap_id (by omega) (by omega)]; omega
  have e4 : IntKind.i64.wrap ((108 * n + 41).tdiv 42) = (108 * n + 41) / 42 := by rw [Int.tdiv_eq_ediv_of_nonneg (by omega), wrap_id (by omega) (by omega)]
  simp only [stp, Nat.reduceAdd, Int.reduceLT, Int.reduceLE, Int.reduceEq, Int.reduceNe, ne_eq, bne_self_eq_false, beq_self_eq_true, stm, a1, a2, e1, e2, e3]
  rw [pur_quo (by decide), e4]
  exact hq
/-- How many images a record of a log may have. -/
def mostF (log : Int) : Int := min 60 (7 * ((log - 1) / 2) / 18)
theorem most_c {log : Int} (h1 : 1 ≤ log) (h2 : log ≤ 100000) (hq : Q (.int .i64 (mostF log)) w) : callS Tryz.prog 187 #[.int .i64 log] Q w := by
  refine ref187 ?_
  unfold S187
  have a1 : ¬ log < 1 := by omega
  have a2 : ¬ (100000 < log) := by omega
  simp only [stp, Nat.reduceAdd, Int.reduceLT, Int.reduceLE, Int.reduceEq, Int.reduceNe, ne_eq, bne_self_eq_false, beq_self_eq_true, stm, a1, a2]
  refine lp1 (fun mm x w' => w' = w ∧ ∃ n : Nat, x = .int .i64 (n : Int) ∧ n ≤ 60 ∧ 18 * (n : Int) ≤ 7 * ((log - 1) / 2) ∧ mm = 60 - n) 60 ⟨rfl, 0, rfl, by omega, by omega, rfl⟩ ?_
  rintro mm x w1 ⟨rfl, n, rfl, hn, hs, rfl⟩ J hJ _j
  have e1 : IntKind.i64.wrap ((n : Int) + 1) = ((n + 1 : Nat) : Int) := wrap_succ (by omega)
  have e2 : IntKind.i64.wrap (log - 1) = log - 1 := wrap_id (by omega) (by omega)
  have e3 : IntKind.i64.wrap ((log - 1).tdiv 2) = (log - 1) / 2 := by rw [Int.tdiv_eq_ediv_of_nonneg (by omega), wrap_id (by omega) (by omega)]
  by_cases hlt : n < 60
  · have hlt' : (n : Int) < 60 := by omega
    simp only [stp, Nat.reduceAdd, Int.reduceLT, Int.reduceLE, Int.reduceEq, Int.reduceNe, ne_eq, bne_self_eq_false, beq_self_eq_true, stm, hlt', e1]
    refine secs_c (by omega) (by omega) ?_
    simp only [stp, Nat.reduceAdd, Int.reduceLT, Int.reduceLE, Int.reduceEq, Int.reduceNe, ne_eq, bne_self_eq_false, beq_self_eq_true, stm, e2]
    rw [pur_quo (by decide), e3]
    by_cases hle : (108 * ((n + 1 : Nat) : Int) + 41) / 42 ≤ (log - 1) / 2
    · simp only [stp, Nat.reduceAdd, Int.reduceLT, Int.reduceLE, Int.reduceEq, Int.reduceNe, ne_eq, bne_self_eq_false, beq_self_eq_true, stm, hle, e1]
      exact hJ (60 - (n + 1)) _ _ (by omega) ⟨rfl, n + 1, rfl, by omega, by omega, rfl⟩
    · simp only [stp, Nat.reduceAdd, Int.reduceLT, Int.reduceLE, Int.reduceEq, Int.reduceNe, ne_eq, bne_self_eq_false, beq_self_eq_true, stm, hle]
      have : (n : Int) = mostF log := by unfold mostF; omega
      rw [this]; exact hq
  · have hlt' : ¬ (n : Int) < 60 := by omega
    simp only [stp, Nat.reduceAdd, Int.reduceLT, Int.reduceLE, Int.reduceEq, Int.reduceNe, ne_eq, bne_self_eq_false, beq_self_eq_true, stm, hlt']
    have : (n : Int) = mostF log := by unfold mostF; omega
    rw [this]; exact hq
/-! ### what a transaction knows -/
structure TS where
  sh : Sh5
  l : List (Pt Int)
  wr : List (Int × ByteArray)
  rd : List (Int × ByteArray)
def kvP (p : Int × ByteArray) : Value × Value := (.int .i64 p.1, .string p.2)
def TS.cells (s : TS) (m a b : Nat) : Array Value := 
  #[.int .i64 s.sh.nodes, .int .i64 s.sh.blocks, .int .i64 s.sh.log, .int .i64 s.sh.cache, .int .i64 s.sh.lease, .pointer (some ⟨m, 0, none⟩), .map (some a), .map (some b)]
/-- A map of texts. -/
structure TM (w : World) (a : Nat) (l : List (Int × ByteArray)) : Prop where
  mp : mp w a = some (l.map kvP)
  st : Go.Sh.stp w a
structure TXr (w : World) (B t : Nat) (s : TS) (m a b : Nat) : Prop where
  ct : blk w t = some (.cells (s.cells m a b) 210)
  im : IM w m s.l
  ma : TM w a s.wr
  mb : TM w b s.rd
  ab : a ≠ b
  Bt : B ≤ t
  Bm : B ≤ m
  Ba : B ≤ a
  Bb : B ≤ b
  ok : s.sh.ok
  ll : s.l.length ≤ 100000
def TX (w : World) (B t : Nat) (s : TS) : Prop := ∃ m a b, TXr w B t s m a b
theorem tm_blk {a : Nat} {l : List (Int × ByteArray)} (h : TM w a l) : ∃ es c, blk w a = some (.map es c) := by
  obtain ⟨es, c, h, _⟩ := mp_blk h.mp
  exact ⟨es, c, h⟩
theorem TM.lt {a : Nat} {l : List (Int × ByteArray)} (h : TM w a l) : a < siz w := mp_lt h.mp
theorem TM.keep {F : Nat → Prop} {a : Nat} {l : List (Int × ByteArray)} (h : TM w a l) (k : Keep F w w') (hF : ¬ F a) : TM w' a l := by
  have e := k.block a h.lt hF
  refine ⟨by rw [Sh.mp, e]; exact h.mp, ?_⟩
  obtain ⟨es, c, hb, hs⟩ := h.st
  exact ⟨es, c, by rw [e]; exact hb, hs⟩
theorem im_blk' {m : Nat} {l : List (Pt Int)} (h : IM w m l) : ∃ cs, blk w m = some (.cells cs 95) := by obtain ⟨sl, h, _⟩ := h; exact ⟨_, h⟩
theorem im_keepM {F : Nat → Prop} {m : Nat} {l : List (Pt Int)} (h : IM w m l) (k : Keep F w w') (hF : ∀ g cs t, blk w g = some (.cells cs t) → t = 95 ∨ t = 201 → ¬ F g) : IM w' m l := by
  obtain ⟨sl, hb, ho, hc⟩ := h
  refine ⟨sl, k.blk hb (hF _ _ _ hb (.inl rfl)), ho.keep k fun g hg e => ?_, hc⟩
  rcases ho.2 with ⟨rfl, _⟩ | ⟨g', cap, cur, rfl, _, hh, _⟩
  · cases hg
  · injection hg with hg
    subst hg
    exact hF _ _ _ hh (.inr rfl) e
theorem TXr.keep0 {B t m a b : Nat} {s : TS} (h : TXr w B t s m a b) (k : K0 w w') : TXr w' B t s m a b :=
  { h with ct := k.blk h.ct id, im := im_keepM h.im k (fun _ _ _ _ _ => id), ma := h.ma.keep k id, mb := h.mb.keep k id }
theorem TX.keep0 {B t : Nat} {s : TS} (h : TX w B t s) (k : K0 w w') : TX w' B t s := by obtain ⟨m, a, b, h⟩ := h; exact ⟨m, a, b, h.keep0 k⟩
/-- What a transaction turns. -/
def tp : Obj → Bool := tysM [210, 95]
end
end Go.Proofs.YtndjohbbaplekaaGreatX
/- A transaction: what its functions compute. Conditions: as each says. -/
set_option linter.unusedSimpArgs false
set_option linter.unusedVariables false
namespace Go.Proofs.YtndjohbbaplekaaGreatX
open Go.Sh Go.Proofs.YtndjohbbaplekaaGreatX.Mi
set_option maxRecDepth 100000
section
variable {w w' : World} {Q : Value → World → Prop} {B t m a b : Nat} {s : TS}
theorem TXr.cel (h : TXr w B t s m a b) (o : Nat) : cel w t o = (s.cells m a b)[o]? := cel_b h.ct o
theorem TXr.tm (h : TXr w B t s m a b) : t ≠ m := fun e => by
  obtain ⟨cs, hb⟩ := im_blk' h.im
  rw [← e, h.ct] at hb; injection hb with hb; injection hb with _ hb; cases hb
theorem map_ne {cs : Array Value} {ty : TypeId} {l : List (Int × ByteArray)} (h : TM w a l) (hb : blk w b = some (.cells cs ty)) : a ≠ b := fun e => by
  obtain ⟨es, c, h⟩ := tm_blk h
  rw [e, hb] at h; cases h
theorem tnone_c (h : TX w B t s) (hq : Q (.bool false) w) : callS Tryz.prog 188 #[.pointer (some ⟨t, 0, none⟩)] Q w := by
  refine ref188 ?_
  unfold S188
  obtain ⟨m, a, b, h⟩ := h
  have c5 : Sh.cel w t 5 = some (.pointer (some ⟨m, 0, none⟩)) := h.cel 5
  simp only [stp, Nat.reduceAdd, Int.reduceLT, Int.reduceLE, Int.reduceEq, Int.reduceNe, ne_eq, bne_self_eq_false, beq_self_eq_true, stm, c5, Option.isSome_some, Option.getD_some, Option.isNone_some]
  exact hq
def mdV (v : Option Int) : Int := v.getD 0
theorem tget_c {x : Int} (h : IM w m s.l) (hl : s.l.length ≤ 100000) (hq : ∀ w', K0 w w' → Q (.tuple #[.int .i64 (mdV (valB s.l x)), .bool (valB s.l x).isSome]) w') :
    callS Tryz.prog 57 #[.pointer (some ⟨m, 0, none⟩), .int .i64 x] Q w := by
  refine get_c h (by omega) fun w1 k1 => ?_
  have := hq w1 k1
  cases hv : valB s.l x with
  | none => rw [hv] at this; exact this
  | some v => rw [hv] at this; exact this
theorem mayread_c {x : Int} (h : TX w B t s) (hq : ∀ w', K0 w w' → Q (.int .i64 (if (valB s.l x).isSome then 0 else 30)) w') :
    callS Tryz.prog 92 #[.pointer (some ⟨t, 0, none⟩), .int .i64 x] Q w := by
  refine ref92 ?_
  unfold S92
  refine tnone_c h ?_
  obtain ⟨m, a, b, h⟩ := h
  have c5 : Sh.cel w t 5 = some (.pointer (some ⟨m, 0, none⟩)) := h.cel 5
  simp only [stp, Nat.reduceAdd, Int.reduceLT, Int.reduceLE, Int.reduceEq, Int.reduceNe, ne_eq, bne_self_eq_false, beq_self_eq_true, stm, c5, Option.isSome_some, Option.getD_some]
  refine tget_c h.im h.ll fun w1 k1 => ?_
  have hq := hq w1 k1
  cases hv : (valB s.l x).isSome <;> rw [hv] at hq <;> simp only [stp, Nat.reduceAdd, Int.reduceLT, Int.reduceLE, Int.reduceEq, Int.reduceNe, ne_eq, bne_self_eq_false, beq_self_eq_true, stm] <;> exact hq
theorem tneeds_c {x : Int} (h : TX w B t s) (hx : valB s.l x = some 1 → x < 9223372036854775807) (hlo : -9223372036854775808 ≤ x)
    (hq1 : ∀ w', valB s.l x = some 1 → K0 w w' → Q (.tuple #[.agg #[.int .i64 x, .int .i64 (x + 1), .int .i64 2], .bool true]) w')
    (hq0 : ∀ w', valB s.l x ≠ some 1 → K0 w w' → Q (.tuple #[.agg #[.int .i64 0, .int .i64 0, .int .i64 0], .bool false]) w') :
    callS Tryz.prog 84 #[.pointer (some ⟨t, 0, none⟩), .int .i64 x] Q w := by
  refine ref84 ?_
  unfold S84
  rw [al_143]
  generalize hw1 : w.alloc _ = w1
  have b1 : blk w1 (siz w) = some (.cells #[.int .i64 0, .int .i64 0, .int .i64 0] 143) := by rw [← hw1]; exact blk_alloc_new
  have k1 : K0 w w1 := by rw [← hw1]; exact (K0.refl w).alloc _
  have h1 := h.keep0 k1
  refine tnone_c h1 ?_
  obtain ⟨m, a, b, h1⟩ := h1
  have c5 : Sh.cel w1 t 5 = some (.pointer (some ⟨m, 0, none⟩)) := h1.cel 5
  simp only [stp, Nat.reduceAdd, Int.reduceLT, Int.reduceLE, Int.reduceEq, Int.reduceNe, ne_eq, bne_self_eq_false, beq_self_eq_true, stm, c5, Option.isSome_some, Option.getD_some]
  refine tget_c h1.im h1.ll fun w2 k2 => ?_
  have b2 := k2.blk b1 (fun e => e)
  have e0 : ∀ o, Sh.cel w2 (siz w) o = (#[.int .i64 0, .int .i64 0, .int .i64 0] : Array Value)[o]? := fun o => cel_b b2 o
  have f2 := fre_b b2
  have i0 : (Sh.cel w2 (siz w) 0).isSome = true := by rw [e0]; rfl
  have i1 : (Sh.cel w2 (siz w) 1).isSome = true := by rw [e0]; rfl
  have i2 : (Sh.cel w2 (siz w) 2).isSome = true := by rw [e0]; rfl
  have kk := k1.trans k2
  have fin : ∀ (y0 y1 y2 : Int), K0 w (stoL w2 (siz w) 0 [.int .i64 y0, .int .i64 y1, .int .i64 y2]) ∧ blk (stoL w2 (siz w) 0 [.int .i64 y0, .int .i64 y1, .int .i64 y2]) (siz w) = some (.cells #[.int .i64 y0, .int .i64 y1, .int .i64 y2] 143) := fun y0 y1 y2 =>
    ⟨kk.stoL _ 0 (.inr (Nat.le_refl _)), blk_stoL_all (zs := [.int .i64 0, .int .i64 0, .int .i64 0]) (xs := [.int .i64 y0, .int .i64 y1, .int .i64 y2]) rfl b2⟩
  by_cases hv : valB s.l x = some 1
  · have e1 : mdV (valB s.l x) = 1 := by rw [hv]; rfl
    have e2 : IntKind.i64.wrap (x + 1) = x + 1 := wrap_id (by omega) (by have := hx hv; omega)
    simp only [stp, Nat.reduceAdd, Int.reduceLT, Int.reduceLE, Int.reduceEq, Int.reduceNe, ne_eq, bne_self_eq_false, beq_self_eq_true, stm, e1, e2, i0, i1, i2, f2]
    obtain ⟨kF, bF⟩ := fin x (x + 1) 2
    generalize stoL w2 (siz w) 0 _ = w3 at kF bF
    have d0 : Sh.cel w3 (siz w) 0 = some (.int .i64 x) := cel_b bF 0
    have d1 : Sh.cel w3 (siz w) 1 = some (.int .i64 (x + 1)) := cel_b bF 1
    have d2 : Sh.cel w3 (siz w) 2 = some (.int .i64 2) := cel_b bF 2
    simp only [stp, Nat.reduceAdd, Int.reduceLT, Int.reduceLE, Int.reduceEq, Int.reduceNe, ne_eq, bne_self_eq_false, beq_self_eq_true, d0, d1, d2, Option.isSome_some, Option.getD_some]
    exact hq1 _ hv kF
  · have e1 : ¬ mdV (valB s.l x) = 1 := by
      unfold mdV
      cases hh : valB s.l x with
      | none => simp
      | some v => intro e; exact hv (by rw [hh]; simp at e; rw [e])
    simp only [stp, Nat.reduceAdd, Int.reduceLT, Int.reduceLE, Int.reduceEq, Int.reduceNe, ne_eq, bne_self_eq_false, beq_self_eq_true, stm, e1, i0, i1, i2, f2]
    obtain ⟨kF, bF⟩ := fin 0 0 0
    generalize stoL w2 (siz w) 0 _ = w3 at kF bF
    have d0 : Sh.cel w3 (siz w) 0 = some (.int .i64 0) := cel_b bF 0
    have d1 : Sh.cel w3 (siz w) 1 = some (.int .i64 0) := cel_b bF 1
    have d2 : Sh.cel w3 (siz w) 2 = some (.int .i64 0) := cel_b bF 2
    simp only [stp, Nat.reduceAdd, Int.reduceLT, Int.reduceLE, Int.reduceEq, Int.reduceNe, ne_eq, bne_self_eq_false, beq_self_eq_true, d0, d1, d2, Option.isSome_some, Option.getD_some]
    exact hq0 _ hv kF
/-- The locks of a transaction are others. -/
theorem TXr.setL {l' : List (Pt Int)} (h : TXr w B t s m a b) (k : Keep (fun g => g = m) w w') (hi : IM w' m l') (hl : l'.length ≤ 100000) : TXr w' B t { s with l := l' } m a b := by
  obtain ⟨cs, hm⟩ := im_blk' h.im
  exact { h with ct := k.blk h.ct h.tm, im := hi, ma := h.ma.keep k (map_ne h.ma hm), mb := h.mb.keep k (map_ne h.mb hm), ll := hl }
theorem TXr.kd (h : TXr w B t s m a b) (k : Keep (fun g => g = m) w w') : KO B tp w w' := KO.ofB k fun g e => by
  obtain ⟨cs, hm⟩ := im_blk' h.im
  have e : g = m := e
  subst e
  exact ⟨h.Bm, _, hm, rfl⟩
theorem tgrow_c {x : Int} (h : TX w B t s) (hc : ∀ x v, valB s.l x = some v → 0 ≤ x ∧ x < 4096) (hlo : -9223372036854775808 ≤ x)
    (hq1 : ∀ w' l', valB s.l x = some 1 → (∀ y, valB l' y = if y = x then some 2 else valB s.l y) → TX w' B t { s with l := l' } → KO B tp w w' → Q (.bool true) w')
    (hq0 : ∀ w', valB s.l x ≠ some 1 → K0 w w' → Q (.bool false) w') (hlen : s.l.length ≤ 90000) :
    callS Tryz.prog 85 #[.pointer (some ⟨t, 0, none⟩), .int .i64 x] Q w := by
  refine ref85 ?_
  unfold S85
  refine tneeds_c h (fun e => by have := (hc _ _ e).2; omega) hlo (fun w1 hv k1 => ?_) (fun w1 hv k1 => ?_)
  · have h1 := h.keep0 k1
    simp only [stp, Nat.reduceAdd, Int.reduceLT, Int.reduceLE, Int.reduceEq, Int.reduceNe, ne_eq, bne_self_eq_false, beq_self_eq_true, stm]
    generalize hw2 : w1.alloc _ = w2
    have b2 : blk w2 (siz w1) = some (.cells #[.int .i64 x, .int .i64 (x + 1), .int .i64 2] 143) := by rw [← hw2]; exact blk_alloc_new
    have k2 : K0 w1 w2 := by rw [← hw2]; exact (K0.refl w1).alloc _
    have d0 : Sh.cel w2 (siz w1) 0 = some (.int .i64 x) := cel_b b2 0
    have d1 : Sh.cel w2 (siz w1) 1 = some (.int .i64 (x + 1)) := cel_b b2 1
    have d2 : Sh.cel w2 (siz w1) 2 = some (.int .i64 2) := cel_b b2 2
    obtain ⟨m, a, b, h2⟩ := h1.keep0 k2
    have c5 : Sh.cel w2 t 5 = some (.pointer (some ⟨m, 0, none⟩)) := h2.cel 5
    simp only [stp, Nat.reduceAdd, Int.reduceLT, Int.reduceLE, Int.reduceEq, Int.reduceNe, ne_eq, bne_self_eq_false, beq_self_eq_true, stm, cel_drew, d0, d1, d2, c5, Option.isSome_some, Option.getD_some]
    have k3 : K0 w w2.drew := (k1.trans k2).drew
    have h3 : TXr w2.drew B t s m a b := h2.keep0 ((K0.refl w2).drew)
    have hx := hc _ _ hv
    refine set_ok (v := 2) h3.im ⟨by omega, by show x < x + 1; omega⟩ (by omega) fun w4 l' m4 hv4 hl4 k4 => ?_
    refine hq1 _ l' hv (fun y => ?_) ⟨m, a, b, h3.setL k4 m4 (by omega)⟩ ((KO.of0 k3).trans (h3.kd k4))
    rw [hv4]
    by_cases hy : y = x
    · rw [if_pos hy, if_pos ⟨⟨by omega, by show x < x + 1; omega⟩, by show x ≤ y; omega, by show y < x + 1; omega⟩]
    · rw [if_neg hy, if_neg]
      rintro ⟨_, h1, h2⟩
      have h1 : x ≤ y := h1
      have h2 : y < x + 1 := h2
      omega
  · simp only [stp, Nat.reduceAdd, Int.reduceLT, Int.reduceLE, Int.reduceEq, Int.reduceNe, ne_eq, bne_self_eq_false, beq_self_eq_true, stm]
    exact hq0 _ hv (k1.alloc _).drew
theorem twrote_c {x : Int} (h : TX w B t s) (hq : Q (.tuple #[(aget (.int .i64 x) (s.wr.map kvP)).getD (.string ⟨#[]⟩), .bool (aget (.int .i64 x) (s.wr.map kvP)).isSome]) w) :
    callS Tryz.prog 91 #[.pointer (some ⟨t, 0, none⟩), .int .i64 x] Q w := by
  refine ref91 ?_
  unfold S91
  refine tnone_c h ?_
  obtain ⟨m, a, b, h⟩ := h
  have c6 : Sh.cel w t 6 = some (.map (some a)) := h.cel 6
  simp only [stp, Nat.reduceAdd, Int.reduceLT, Int.reduceLE, Int.reduceEq, Int.reduceNe, ne_eq, bne_self_eq_false, beq_self_eq_true, stm, c6, Option.isSome_some, Option.getD_some]
  rw [rd_eq (lu_208 h.ma.mp (fun p hp => by obtain ⟨q, _, rfl⟩ := List.mem_map.1 hp; exact ⟨_, rfl⟩) ⟨x, rfl⟩ true)]
  simp only [stp, Nat.reduceAdd, Int.reduceLT, Int.reduceLE, Int.reduceEq, Int.reduceNe, ne_eq, bne_self_eq_false, beq_self_eq_true, stm, if_true]
  exact hq
end
end Go.Proofs.YtndjohbbaplekaaGreatX
/- A transaction: check, making, writing. Conditions: as each says. -/
set_option linter.unusedSimpArgs false
set_option linter.unusedVariables false
namespace Go.Proofs.YtndjohbbaplekaaGreatX
open Go.Sh Go.Proofs.YtndjohbbaplekaaGreatX.Mi
set_option maxRecDepth 100000
section
variable {w w' : World} {Q : Value → World → Prop} {B t m a b : Nat} {s : TS}
abbrev mdOk (k : I3) : Prop := k.2.2 = 1 ∨ k.2.2 = 2
abbrev spOk (s : Sh5) (k : I3) : Prop := ok (k.1, k.2.1) ∧ k.2.1 ≤ s.blocks
/-- What a check tells. -/
def CkIs (s : Sh5) (L : List I3) (e : Int) : Prop :=
  (¬ s.ok ∧ e = 1) ∨ s.ok ∧ ((L.length = 0 ∨ 16 < L.length) ∧ e = 2 ∨ (0 < L.length ∧ L.length ≤ 16) ∧
    ((¬ (∀ k ∈ L, mdOk k) ∧ e = 1) ∨ (∀ k ∈ L, mdOk k) ∧ ((¬ (∀ k ∈ L, spOk s k) ∧ e = 30) ∨ (∀ k ∈ L, spOk s k) ∧ e = 0)))
theorem all_take {α : Type} {P : α → Prop} {L : List α} (h : ∀ j (hj : j < L.length), P L[j]) : ∀ k ∈ L, P k := fun k hk => by
  obtain ⟨j, hj, rfl⟩ := List.getElem_of_mem hk
  exact h j hj
theorem row_at {v : Value} {L : List I3} {i : Nat} (h : Rd 3 w v L.length (flat enc3 L)) (hi : i < L.length) : ∃ g o c, v = .slice (some ⟨g, o, none⟩) L.length c ∧
    Sh.cel w g (o + i * 3) = some (.int .i64 L[i].1) ∧ Sh.cel w g (o + i * 3 + 1) = some (.int .i64 L[i].2.1) ∧ Sh.cel w g (o + i * 3 + 2) = some (.int .i64 L[i].2.2) := by
  obtain ⟨g, o, c, e, _, hc⟩ := h.at (by omega)
  exact ⟨g, o, c, e, locks_at hc (List.getElem?_eq_getElem hi)⟩
theorem tcheck_c {s : Sh5} {v : Value} {L : List I3} (hL : Rd 3 w v L.length (flat enc3 L)) (hlen : L.length ≤ 1000000) (hq : ∀ w' e, CkIs s L e → K0 w w' → Q (.int .i64 e) w') :
    callS Tryz.prog 78 #[.agg s.vals.toArray, v] Q w := by
  refine ref78 ?_
  unfold S78
  rw [act_box]
  generalize hw1 : w.alloc _ = w1
  have b1 : blk w1 (siz w) = some (.cells s.vals.toArray 122) := by rw [← hw1]; exact blk_alloc_new
  have k1 : K0 w w1 := by rw [← hw1]; exact (K0.refl w).alloc _
  have e0 : Sh.cel w1 (siz w) 0 = some (.int .i64 s.nodes) := cel_b b1 0
  have e1 : Sh.cel w1 (siz w) 1 = some (.int .i64 s.blocks) := cel_b b1 1
  have e2 : Sh.cel w1 (siz w) 2 = some (.int .i64 s.log) := cel_b b1 2
  have e3 : Sh.cel w1 (siz w) 3 = some (.int .i64 s.cache) := cel_b b1 3
  have e4 : Sh.cel w1 (siz w) 4 = some (.int .i64 s.lease) := cel_b b1 4
  simp only [stp, Nat.reduceAdd, Int.reduceLT, Int.reduceLE, Int.reduceEq, Int.reduceNe, ne_eq, bne_self_eq_false, beq_self_eq_true, stm, e0, e1, e2, e3, e4, Option.isSome_some, Option.getD_some]
  refine svalid_c (s := s) (fun w2 hok k2 => ?_) (fun w2 hno k2 => ?_)
  rotate_left
  · simp only [stp, Nat.reduceAdd, Int.reduceLT, Int.reduceLE, Int.reduceEq, Int.reduceNe, ne_eq, bne_self_eq_false, beq_self_eq_true, stm]
    exact hq _ _ (.inl ⟨hno, rfl⟩) (k1.trans k2)
  have hL2 := hL.keep0 (k1.trans k2)
  obtain ⟨pa, ca, rfl⟩ := hL.form
  have k02 := k1.trans k2
  by_cases h0 : L.length = 0
  · have h0' : (L.length : Int) = 0 := by omega
    simp only [stp, Nat.reduceAdd, Int.reduceLT, Int.reduceLE, Int.reduceEq, Int.reduceNe, ne_eq, bne_self_eq_false, beq_self_eq_true, stm, h0']
    exact hq _ _ (.inr ⟨hok, .inl ⟨.inl h0, rfl⟩⟩) k02
  have h0' : ¬ (L.length : Int) = 0 := by omega
  by_cases h16 : (16 : Int) < (L.length : Int)
  · simp only [stp, Nat.reduceAdd, Int.reduceLT, Int.reduceLE, Int.reduceEq, Int.reduceNe, ne_eq, bne_self_eq_false, beq_self_eq_true, stm, h0', h16]
    exact hq _ _ (.inr ⟨hok, .inl ⟨.inr (by omega), rfl⟩⟩) k02
  simp only [stp, Nat.reduceAdd, Int.reduceLT, Int.reduceLE, Int.reduceEq, Int.reduceNe, ne_eq, bne_self_eq_false, beq_self_eq_true, stm, h0', h16]
  have hl16 : 0 < L.length ∧ L.length ≤ 16 := by omega
  refine lpc1 L.length (by omega) (fun i w' => K0 w2 w' ∧ ∀ j (hj : j < L.length), j < i → mdOk L[j]) ⟨K0.refl _, fun j _ h => by omega⟩ (fun i w3 hi ⟨k3, hI⟩ J hJ => ?_) (fun w3 ⟨k3, hI⟩ J => ?_)
  · intro _j
    have hi' : ((i : Int) < (L.length : Int)) := by omega
    obtain ⟨g, o, c, e, p0, p1, p2⟩ := row_at (hL2.keep0 k3) hi
    injection e with eA _ eC
    subst eA eC
    simp only [stp, Nat.reduceAdd, Int.reduceLT, Int.reduceLE, Int.reduceEq, Int.reduceNe, ne_eq, bne_self_eq_false, beq_self_eq_true, hi']
    rw [ix_109 hi]
    simp only [stp, Nat.reduceAdd, Int.reduceLT, Int.reduceLE, Int.reduceEq, Int.reduceNe, ne_eq, bne_self_eq_false, beq_self_eq_true, stm, p0, p1, p2, Option.isSome_some, Option.getD_some]
    generalize hw4 : w3.alloc _ = w4
    have b4 : blk w4 (siz w3) = some (.cells #[.int .i64 L[i].1, .int .i64 L[i].2.1, .int .i64 L[i].2.2] 143) := by rw [← hw4]; exact blk_alloc_new
    have k4 : K0 w3 w4 := by rw [← hw4]; exact (K0.refl w3).alloc _
    have d2 : Sh.cel w4 (siz w3) 2 = some (.int .i64 L[i].2.2) := cel_b b4 2
    have nxt : mdOk L[i] → ∀ j (hj : j < L.length), j < i + 1 → mdOk L[j] := fun hm j hj hji => by
      by_cases e : j = i
      · subst e; exact hm
      · exact hI j hj (by omega)
    by_cases m1 : L[i].2.2 = 1
    · simp only [stp, Nat.reduceAdd, Int.reduceLT, Int.reduceLE, Int.reduceEq, Int.reduceNe, ne_eq, bne_self_eq_false, beq_self_eq_true, stm, d2, Option.isSome_some, Option.getD_some, m1]
      exact hJ _ ⟨k3.trans k4, nxt (.inl m1)⟩
    by_cases m2 : L[i].2.2 = 2
    · simp only [stp, Nat.reduceAdd, Int.reduceLT, Int.reduceLE, Int.reduceEq, Int.reduceNe, ne_eq, bne_self_eq_false, beq_self_eq_true, stm, d2, Option.isSome_some, Option.getD_some, m2]
      exact hJ _ ⟨k3.trans k4, nxt (.inr m2)⟩
    simp only [stp, Nat.reduceAdd, Int.reduceLT, Int.reduceLE, Int.reduceEq, Int.reduceNe, ne_eq, bne_self_eq_false, beq_self_eq_true, stm, d2, Option.isSome_some, Option.getD_some, m1, m2]
    refine hq _ _ (.inr ⟨hok, .inr ⟨hl16, .inl ⟨fun h => ?_, rfl⟩⟩⟩) ((k02.trans k3).trans k4)
    exact (h _ (List.getElem_mem hi)).elim m1 m2
  · intro _j
    have hi' : ¬ ((L.length : Int) < (L.length : Int)) := by omega
    simp only [stp, Nat.reduceAdd, Int.reduceLT, Int.reduceLE, Int.reduceEq, Int.reduceNe, ne_eq, bne_self_eq_false, beq_self_eq_true, hi']
    have hmd : ∀ k ∈ L, mdOk k := all_take fun j hj => hI j hj hj
    refine lpc1 L.length (by omega) (fun i w' => K0 w3 w' ∧ ∀ j (hj : j < L.length), j < i → spOk s L[j]) ⟨K0.refl _, fun j _ h => by omega⟩ (fun i w4 hi ⟨k4, hI'⟩ J' hJ => ?_) (fun w4 ⟨k4, hI'⟩ J' => ?_)
    · intro _j
      have hi' : ((i : Int) < (L.length : Int)) := by omega
      obtain ⟨g, o, c, e, p0, p1, p2⟩ := row_at ((hL2.keep0 k3).keep0 k4) hi
      injection e with eA _ eC
      subst eA eC
      simp only [stp, Nat.reduceAdd, Int.reduceLT, Int.reduceLE, Int.reduceEq, Int.reduceNe, ne_eq, bne_self_eq_false, beq_self_eq_true, hi']
      rw [ix_109 hi]
      simp only [stp, Nat.reduceAdd, Int.reduceLT, Int.reduceLE, Int.reduceEq, Int.reduceNe, ne_eq, bne_self_eq_false, beq_self_eq_true, stm, p0, p1, p2, Option.isSome_some, Option.getD_some]
      generalize hw5 : w4.alloc _ = w5
      have b5 : blk w5 (siz w4) = some (.cells #[.int .i64 L[i].1, .int .i64 L[i].2.1, .int .i64 L[i].2.2] 143) := by rw [← hw5]; exact blk_alloc_new
      have k5 : K0 w4 w5 := by rw [← hw5]; exact (K0.refl w4).alloc _
      have d0 : Sh.cel w5 (siz w4) 0 = some (.int .i64 L[i].1) := cel_b b5 0
      have d1 : Sh.cel w5 (siz w4) 1 = some (.int .i64 L[i].2.1) := cel_b b5 1

      try simp only [stp, Nat.reduceAdd, Int.reduceLT, Int.reduceLE, Int.reduceEq, Int.reduceNe, ne_eq, bne_self_eq_false, beq_self_eq_true, stm, d0, d1, Option.isSome_some, Option.getD_some]
      refine valid_c fun w6 g6 => ?_
      have k6 : K0 w5 w6 := g6.1
      have kk := ((k3.trans k4).trans k5).trans k6
      have d1' : Sh.cel w6 (siz w4) 1 = some (.int .i64 L[i].2.1) := k6.cel d1 id
      have e1' : Sh.cel w6 (siz w) 1 = some (.int .i64 s.blocks) := (k2.trans kk).cel e1 id
      have nxt : spOk s L[i] → ∀ j (hj : j < L.length), j < i + 1 → spOk s L[j] := fun hm j hj hji => by
        by_cases e : j = i
        · subst e; exact hm
        · exact hI' j hj (by omega)
      have bad : ¬ spOk s L[i] → CkIs s L 30 := fun hb => .inr ⟨hok, .inr ⟨hl16, .inr ⟨hmd, .inl ⟨fun h => hb (h _ (List.getElem_mem hi)), rfl⟩⟩⟩⟩
      by_cases hv : ok (L[i].1, L[i].2.1)
      · by_cases hr : s.blocks < L[i].2.1
        · simp only [stp, Nat.reduceAdd, Int.reduceLT, Int.reduceLE, Int.reduceEq, Int.reduceNe, ne_eq, bne_self_eq_false, beq_self_eq_true, stm, hv, hr, d1', e1', Option.isSome_some, Option.getD_some, decide_true]
          exact hq _ _ (bad fun h => by have := h.2; omega) (k02.trans kk)
        · simp only [stp, Nat.reduceAdd, Int.reduceLT, Int.reduceLE, Int.reduceEq, Int.reduceNe, ne_eq, bne_self_eq_false, beq_self_eq_true, stm, hv, hr, d1', e1', Option.isSome_some, Option.getD_some, decide_true]
          exact hJ _ ⟨(k4.trans k5).trans k6, nxt ⟨hv, by omega⟩⟩
      · simp only [stp, Nat.reduceAdd, Int.reduceLT, Int.reduceLE, Int.reduceEq, Int.reduceNe, ne_eq, bne_self_eq_false, beq_self_eq_true, stm, hv, decide_false]
        exact hq _ _ (bad fun h => hv h.1) (k02.trans kk)
    · intro _j
      simp only [stp, Nat.reduceAdd, Int.reduceLT, Int.reduceLE, Int.reduceEq, Int.reduceNe, ne_eq, bne_self_eq_false, beq_self_eq_true, hi']
      exact hq _ _ (.inr ⟨hok, .inr ⟨hl16, .inr ⟨hmd, .inr ⟨all_take fun j hj => hI' j hj hj, rfl⟩⟩⟩⟩) ((k02.trans k3).trans k4)
end
end Go.Proofs.YtndjohbbaplekaaGreatX
/- A transaction: making it; a block's bytes; writing. Conditions: as each says. -/
set_option linter.unusedSimpArgs false
set_option linter.unusedVariables false
namespace Go.Proofs.YtndjohbbaplekaaGreatX
open Go.Sh Go.Proofs.YtndjohbbaplekaaGreatX.Mi
set_option maxRecDepth 100000
section
variable {w w' : World} {Q : Value → World → Prop} {B t m a b : Nat} {s : TS}
theorem tm_new : TM (w.alloc (.map #[] 0)) (siz w) [] :=
  ⟨by rw [Sh.mp, blk_alloc_new]; rfl, #[], 0, blk_alloc_new, by constructor <;> simp⟩
theorem TXr.le {A : Nat} (h : TXr w B t s m a b) (hA : A ≤ B) : TXr w A t s m a b :=
  { h with Bt := Nat.le_trans hA h.Bt, Bm := Nat.le_trans hA h.Bm, Ba := Nat.le_trans hA h.Ba, Bb := Nat.le_trans hA h.Bb }
theorem TX.le {A : Nat} (h : TX w B t s) (hA : A ≤ B) : TX w A t s := by obtain ⟨m, a, b, h⟩ := h; exact ⟨m, a, b, h.le hA⟩
theorem tnew_c {s : Sh5} {v : Value} {L : List I3} (hL : Rd 3 w v L.length (flat enc3 L)) (hlen : L.length ≤ 1000000)
    (hq0 : ∀ w' e, CkIs s L e → e ≠ 0 → K0 w w' → Q (.tuple #[.pointer none, .int .i64 e]) w')
    (hq1 : ∀ w' t l, CkIs s L 0 → siz w ≤ t → (∀ x, valB l x = askF L x) → l.length ≤ 4 * L.length → TX w' (siz w) t ⟨s, l, [], []⟩ → K0 w w' → Q (.tuple #[.pointer (some ⟨t, 0, none⟩), .int .i64 0]) w') :
    callS Tryz.prog 76 #[.agg s.vals.toArray, v] Q w := by
  refine ref76 ?_
  unfold S76
  rw [act_box]
  generalize hw1 : w.alloc _ = w1
  have b1 : blk w1 (siz w) = some (.cells s.vals.toArray 122) := by rw [← hw1]; exact blk_alloc_new
  have k1 : K0 w w1 := by rw [← hw1]; exact (K0.refl w).alloc _
  have s1 : siz w1 = siz w + 1 := by rw [← hw1, siz_alloc]
  have e0 : Sh.cel w1 (siz w) 0 = some (.int .i64 s.nodes) := cel_b b1 0
  have e1 : Sh.cel w1 (siz w) 1 = some (.int .i64 s.blocks) := cel_b b1 1
  have e2 : Sh.cel w1 (siz w) 2 = some (.int .i64 s.log) := cel_b b1 2
  have e3 : Sh.cel w1 (siz w) 3 = some (.int .i64 s.cache) := cel_b b1 3
  have e4 : Sh.cel w1 (siz w) 4 = some (.int .i64 s.lease) := cel_b b1 4
  simp only [stp, Nat.reduceAdd, Int.reduceLT, Int.reduceLE, Int.reduceEq, Int.reduceNe, ne_eq, bne_self_eq_false, beq_self_eq_true, e0, e1, e2, e3, e4, Option.isSome_some, Option.getD_some]
  refine tcheck_c (s := s) (hL.keep0 k1) hlen fun w2 e he k2 => ?_
  have k02 := k1.trans k2
  have s2 := k2.size
  by_cases hne : e = 0
  rotate_left
  · simp only [stp, Nat.reduceAdd, Int.reduceLT, Int.reduceLE, Int.reduceEq, Int.reduceNe, ne_eq, bne_self_eq_false, beq_self_eq_true, hne, decide_true]
    exact hq0 _ _ he hne k02
  subst hne
  simp only [stp, Nat.reduceAdd, Int.reduceLT, Int.reduceLE, Int.reduceEq, Int.reduceNe, ne_eq, bne_self_eq_false, beq_self_eq_true]
  have hok : s.ok := by
    rcases he with ⟨_, h⟩ | ⟨h, _⟩
    · cases h
    · exact h
  refine jn1 (fun x w' => ∃ t, x = .pointer (some ⟨t, 0, none⟩) ∧ siz w ≤ t ∧ TX w' (siz w) t ⟨s, [], [], []⟩ ∧ K0 w2 w') (fun J hJ => ?_) ?_
  · have bS : blk w2.drew (siz w) = some (.cells s.vals.toArray 122) := k2.blk b1 id
    refine ⟨fun w' => blk w' (siz w) = some (.cells s.vals.toArray 122), bS, ?_⟩
    refine hld_of (.agg s.vals.toArray) (fun w' hw => run_loadN (n := 5) (fun w => Tryz.isAgg122 w) (fun w => Tryz.sizeOf122 w) (fun j => s.vals.toArray[j]?.getD undef) fun j hj => ?_) ?_
    · have hw : blk w' (siz w) = some (.cells s.vals.toArray 122) := hw
      rw [Nat.zero_add, cel_b hw]
      match j, hj with
      | 0, _ => rfl
      | 1, _ => rfl
      | 2, _ => rfl
      | 3, _ => rfl
      | 4, _ => rfl
    have fin : ∀ {w5 : World} {m a b : Nat}, K0 w2.drew w5 → IM w5 m [] → TM w5 a [] → TM w5 b [] → a ≠ b → siz w ≤ m → siz w ≤ a → siz w ≤ b → blk w5 (siz w) = some (.cells s.vals.toArray 122) ∧
        pur Tryz.prog (Instr.build 210 #[(0, .agg s.vals.toArray), (1, .pointer (some ⟨m, 0, none⟩)), (2, .map (some a)), (3, .map (some b))]) fun t20 => blk (w5.alloc (.cells t20.cells 210)) (siz w) = some (.cells s.vals.toArray 122) ∧ J (.pointer (some ⟨siz w5, 0, none⟩)) (w5.alloc (.cells t20.cells 210)) := fun {w5 m a b} k hm ha hb hne h1 h2 h3 => by
      have bS5 := k.blk bS id
      have hs : (Value.agg s.vals.toArray) = .agg #[.int .i64 s.nodes, .int .i64 s.blocks, .int .i64 s.log, .int .i64 s.cache, .int .i64 s.lease] := rfl
      refine ⟨bS5, ?_⟩
      rw [hs]
      simp only [stp, Nat.reduceAdd, Int.reduceLT, Int.reduceLE, Int.reduceEq, Int.reduceNe, ne_eq, bne_self_eq_false, beq_self_eq_true]
      have k6 : K0 w5 (w5.alloc (.cells (TS.cells ⟨s, [], [], []⟩ m a b) 210)) := (K0.refl w5).alloc _
      have s5 := k.size
      have s5' : siz w2.drew = siz w2 := rfl
      refine ⟨k6.blk bS5 id, hJ _ _ ⟨siz w5, rfl, by omega, ⟨m, a, b, blk_alloc_new, im_keepM hm k6 (fun _ _ _ _ _ => id), ha.keep k6 id, hb.keep k6 id, hne, by omega, h1, h2, h3, hok, by simp⟩, ((K0.refl w2).drew.trans k).trans k6⟩⟩
    have st : ∀ {w5 : World}, K0 w2.drew w5 → blk w5 (siz w) = some (.cells s.vals.toArray 122) := fun {w5} k => k.blk bS id
    have sd : siz w2.drew = siz w2 := rfl
    have ka : ∀ {u : World}, K0 u (u.alloc (.map #[] 0)) := fun {u} => (K0.refl u).alloc _
    have sa : ∀ {u : World}, siz (u.alloc (.map #[] 0)) = siz u + 1 := siz_alloc
    have hi : ∀ {u : World}, K0 w2.drew u → siz w ≤ siz u := fun {u} k => by have := k.size; omega
    refine ⟨?_, ?_, ?_⟩
    · refine new_c fun w3 m3 k3 => ⟨st k3, ?_, ?_⟩
      · refine ⟨st (k3.trans ka), ?_⟩
        have := hi k3
        exact fin ((k3.trans ka).trans ka) ((m3.keep0 ka).keep0 ka) (tm_new.keep ka id) tm_new (by rw [sa]; omega) (by omega) (by omega) (by rw [sa]; omega)
      · refine ⟨st (k3.trans ka), ?_⟩
        have := hi k3
        exact fin ((k3.trans ka).trans ka) ((m3.keep0 ka).keep0 ka) tm_new (tm_new.keep ka id) (by rw [sa]; omega) (by omega) (by rw [sa]; omega) (by omega)
    · refine ⟨st ka, ?_, ?_⟩
      · refine new_c fun w3 m3 k3 => ⟨st (ka.trans k3), ?_⟩
        have h1 := hi (ka.trans k3)
        have h2 := k3.size
        rw [sa] at h2
        exact fin ((ka.trans k3).trans ka) (m3.keep0 ka) ((tm_new.keep k3 id).keep ka id) tm_new (by omega) (by rw [sa]; omega) (by omega) (by omega)
      · refine ⟨st (ka.trans ka), ?_⟩
        refine new_c fun w3 m3 k3 => ?_
        have h2 := k3.size
        rw [sa, sa] at h2
        exact fin ((ka.trans ka).trans k3) m3 ((tm_new.keep ka id).keep k3 id) (tm_new.keep k3 id) (by rw [sa]; omega) (by rw [sa, sa]; omega) (by omega) (by rw [sa]; omega)
    · refine ⟨st ka, ?_, ?_⟩
      · refine new_c fun w3 m3 k3 => ⟨st (ka.trans k3), ?_⟩
        have h1 := hi (ka.trans k3)
        have h2 := k3.size
        rw [sa] at h2
        exact fin ((ka.trans k3).trans ka) (m3.keep0 ka) tm_new ((tm_new.keep k3 id).keep ka id) (by omega) (by rw [sa]; omega) (by omega) (by omega)
      · refine ⟨st (ka.trans ka), ?_⟩
        refine new_c fun w3 m3 k3 => ?_
        have h2 := k3.size
        rw [sa, sa] at h2
        exact fin ((ka.trans ka).trans k3) m3 (tm_new.keep k3 id) ((tm_new.keep ka id).keep k3 id) (by rw [sa]; omega) (by rw [sa, sa]; omega) (by rw [sa]; omega) (by omega)
  · rintro x w3 ⟨t, rfl, ht, h3, k3⟩ _j
    have k03 := k02.trans k3
    refine mnorm_c (hL.keep0 k03) (by have := he; rcases he with ⟨_, h⟩ | ⟨_, ⟨_, h⟩ | ⟨h, _⟩⟩ <;> omega) fun w4 v4 l' hc4 hv4 hl4 o4 k4 => ?_
    have k4 := k4.old'
    have lenA := asLocks_len l'
    have hL16 : L.length ≤ 16 := by rcases he with ⟨_, h⟩ | ⟨_, ⟨_, h⟩ | ⟨h, _⟩⟩ <;> omega
    obtain ⟨m, a, b, h3⟩ := h3
    have h4 := h3.keep0 k4
    have hm3 := h3.im.lt
    have ag : ∀ i (hi : i < l'.length), (asLocks l')[i]? = some (l'[i].1.1, l'[i].1.2, l'[i].2) := fun i hi => by
      unfold asLocks; rw [List.getElem?_map, List.getElem?_eq_getElem hi]; rfl
    obtain ⟨pa, ca, rfl⟩ := o4.form
    have lnv : ∀ {k : Value → Prop}, pur Tryz.prog (Builtin.len_ #[109] 3 #[.slice pa (asLocks l').length ca]) k = k (.int .i64 (l'.length : Int)) := by intro k; rw [ln_109, lenA]
    rw [lnv]
    refine lpc1 l'.length (by omega) (fun i w' => K0 w w' ∧ Sh.Own w' (siz w3) 143 3 (.slice pa (asLocks l').length ca) (asLocks l').length (flat enc3 (asLocks l')) ∧ ∃ l, (∀ x, valB l x = valB (l'.take i) x) ∧ l.length ≤ 2 * i ∧ TXr w' (siz w) t ⟨s, l, [], []⟩ m a b) ⟨k03.trans k4, o4, [], fun x => by simp [valB], by simp, h4⟩ (fun i w5 hi ⟨k5, o5, l, hvl, hll, h5⟩ J hJ => ?_) (fun w5 ⟨k5, o5, l, hvl, hll, h5⟩ J => ?_)
    · intro _j
      have hi' : ((i : Int) < (l'.length : Int)) := by omega
      obtain ⟨g, cg, e, _, _, _, _, _, hcel⟩ := o5.at (by omega)
      injection e with e1' _ e2'
      subst e1' e2'
      obtain ⟨p0, p1, p2⟩ := locks_at (b := g) (o := 0) (L := asLocks l') (fun j hj => by rw [Nat.zero_add]; exact hcel j hj) (ag i hi)
      rw [Nat.zero_add] at p0 p1 p2
      simp only [stp, Nat.reduceAdd, Int.reduceLT, Int.reduceLE, Int.reduceEq, Int.reduceNe, ne_eq, bne_self_eq_false, beq_self_eq_true, hi']
      rw [ix_109 (show i < (asLocks l').length by omega)]
      simp only [stp, Nat.reduceAdd, Int.reduceLT, Int.reduceLE, Int.reduceEq, Int.reduceNe, ne_eq, bne_self_eq_false, beq_self_eq_true, stm, p0, p1, p2, Option.isSome_some, Option.getD_some]
      generalize hw6 : w5.alloc _ = w6
      have b6 : blk w6 (siz w5) = some (.cells #[.int .i64 l'[i].1.1, .int .i64 l'[i].1.2, .int .i64 l'[i].2] 143) := by rw [← hw6]; exact blk_alloc_new
      have k6 : K0 w5 w6 := by rw [← hw6]; exact (K0.refl w5).alloc _
      have d0 : Sh.cel w6 (siz w5) 0 = some (.int .i64 l'[i].1.1) := cel_b b6 0
      have d1 : Sh.cel w6 (siz w5) 1 = some (.int .i64 l'[i].1.2) := cel_b b6 1
      have d2 : Sh.cel w6 (siz w5) 2 = some (.int .i64 l'[i].2) := cel_b b6 2
      have h6 := h5.keep0 k6
      have c5 : Sh.cel w6 t 5 = some (.pointer (some ⟨m, 0, none⟩)) := h6.cel 5
      simp only [stp, Nat.reduceAdd, Int.reduceLT, Int.reduceLE, Int.reduceEq, Int.reduceNe, ne_eq, bne_self_eq_false, beq_self_eq_true, stm, cel_drew, d0, d1, d2, c5, Option.isSome_some, Option.getD_some]
      have h6' : TXr w6.drew (siz w) t ⟨s, l, [], []⟩ m a b := h6.keep0 ((K0.refl w6).drew)
      have hok' := hc4.1 _ (List.getElem_mem hi)
      refine set_ok (v := l'[i].2) h6'.im hok' (by show l.length ≤ _; omega) fun w7 l7 m7 hv7 hl7 k7 => ?_
      refine hJ _ ⟨?_, ?_, l7, fun x => ?_, ?_, h6'.setL k7 m7 ?_⟩
      · have hBm := h5.Bm
        exact ((k5.trans k6).drew).trans' k7 fun q hq e => by
          have e : q = m := e
          omega
      · refine (o5.keep (k6.drew) fun _ _ => id).keep k7 fun q hq e => ?_
        have e : q = m := e
        have := (o5.lt hq).1
        omega
      · rw [hv7, (take_val hc4.apart hi x).1]
        split
        · rfl
        · exact hvl x
      · have hl7 : l7.length ≤ l.length + 2 := hl7
        omega
      · have hl7 : l7.length ≤ l.length + 2 := hl7
        omega
    · intro _j
      have hi' : ¬ ((l'.length : Int) < (l'.length : Int)) := by omega
      simp only [stp, Nat.reduceAdd, Int.reduceLT, Int.reduceLE, Int.reduceEq, Int.reduceNe, ne_eq, bne_self_eq_false, beq_self_eq_true, hi']
      refine hq1 _ t l he ht (fun x => ?_) (by omega) ⟨m, a, b, h5⟩ k5
      rw [hvl, List.take_length, hv4]
end
end Go.Proofs.YtndjohbbaplekaaGreatX
/- A transaction: a block's bytes; writing; the law's shape. Conditions: as each says. -/
set_option linter.unusedSimpArgs false
set_option linter.unusedVariables false
namespace Go.Proofs.YtndjohbbaplekaaGreatX
open Go.Sh Go.Proofs.YtndjohbbaplekaaGreatX.Mi
set_option maxRecDepth 100000
section
variable {w w' : World} {Q : Value → World → Prop} {B t m a b : Nat} {s : TS}
theorem pur_sadd {P : Program} {ty : TypeId} {x y : Bool} {s u : ByteArray} {k : Value → Prop} (h : s.size + u.size ≤ 9223372036854775807) : pur P (binS .add ty x y (.string s) (.string u)) k = k (.string (s ++ u)) := pur_eq fun w => by
  have h' : (s.size : Int) + (u.size : Int) ≤ 9223372036854775807 := by omega
  simp [binS, eqG_str, binOp, Op.stringOp, h']
def zeros (n : Nat) : ByteArray := ⟨(Lib.repeatL [0] n).toArray⟩
theorem zeros_size (n : Nat) : (zeros n).size = n := by
  have := Lib.repeatL_length [0] n
  show (Lib.repeatL [0] n).toArray.size = n
  rw [List.size_toArray, this]; simp
theorem k0_below (h : RowKit.Below w.heap.size w w') : K0 w w' := ⟨h.os, h.tape, h.output, h.size, fun b hb _ => h.block b hb⟩
theorem repeat0_c {n : Nat} (hn : n ≤ 1000000) (hq : ∀ w', K0 w w' → Q (.string (zeros n)) w') : callS Tryz.prog 252 #[.string ⟨#[0]⟩, .int .i64 (n : Int)] Q w := by
  have X : Builder.Extra Tryz.prog YtndjohbbaplekaaGreatX.repeatS_ren := { sizeBuilder := by kernel_rfl, liesBuilder := by kernel_rfl, t5 := by kernel_rfl, a5 := fun w => Tryz.isAgg5 w, z5 := fun w => Tryz.sizeOf5 w, v5 := fun w => Tryz.zeroValue5 w, infoByte := by kernel_rfl, cellsByte := by kernel_rfl, sizeByte := by kernel_rfl, neB5 := by decide }
  refine ⟨fun a w => Tryz.call252 a w, (Any.strings_Repeat YtndjohbbaplekaaGreatX.repeatS X ⟨#[0]⟩ n w (by omega) (by show 1 * n ≤ _; omega)).mono fun e w' hb => ⟨_, hb.1, ?_⟩⟩
  exact hq w' (k0_below hb.2)
def padF (d : ByteArray) : ByteArray := d ++ zeros (96 - d.size)
theorem padF_size {d : ByteArray} (h : d.size ≤ 96) : (padF d).size = 96 := by
  unfold padF; rw [ByteArray.size_append, zeros_size]; omega
theorem pad_c {d : ByteArray} (hd : d.size ≤ 9223372036854775807) (hq0 : 96 < d.size → Q (.tuple #[.string ⟨#[]⟩, .int .i64 2]) w) (hq1 : ∀ w', d.size ≤ 96 → K0 w w' → Q (.tuple #[.string (padF d), .int .i64 0]) w') :
    callS Tryz.prog 186 #[.string d] Q w := by
  refine ref186 ?_
  unfold S186
  by_cases h : (96 : Int) < (d.size : Int)
  · simp only [stp, Nat.reduceAdd, Int.reduceLT, Int.reduceLE, Int.reduceEq, Int.reduceNe, ne_eq, bne_self_eq_false, beq_self_eq_true, stm, h]
    exact hq0 (by omega)
  · have e1 : IntKind.i64.wrap (96 - (d.size : Int)) = ((96 - d.size : Nat) : Int) := by rw [wrap_id (by omega) (by omega)]; omega
    simp only [stp, Nat.reduceAdd, Int.reduceLT, Int.reduceLE, Int.reduceEq, Int.reduceNe, ne_eq, bne_self_eq_false, beq_self_eq_true, stm, h, e1]
    refine ref231 ?_
    unfold S231
    refine repeat0_c (by omega) fun w1 k1 => ?_
    try simp only [stp, Nat.reduceAdd, Int.reduceLT, Int.reduceLE, Int.reduceEq, Int.reduceNe, ne_eq, bne_self_eq_false, beq_self_eq_true, stm]
    rw [pur_sadd (by rw [zeros_size]; omega)]
    exact hq1 _ (by omega) k1
/-! ### maps of texts, in plain words -/
def lkp (x : Int) : List (Int × ByteArray) → Option ByteArray
  | [] => none
  | p :: l => if p.1 = x then some p.2 else lkp x l
def puA (x : Int) (v : ByteArray) : List (Int × ByteArray) → List (Int × ByteArray)
  | [] => [(x, v)]
  | p :: l => if p.1 = x then (x, v) :: l else p :: puA x v l
theorem aget_lkp (x : Int) : ∀ l : List (Int × ByteArray), aget (.int .i64 x) (l.map kvP) = (lkp x l).map .string
  | [] => rfl
  | p :: l => by
    by_cases h : p.1 = x
    · simp [aget, lkp, kvP, h]
    · have : ¬ x = p.1 := fun e => h e.symm
      simp [aget, lkp, kvP, h, this, ← aget_lkp x l]
theorem aput_puA (x : Int) (v : ByteArray) : ∀ l : List (Int × ByteArray), aput (.int .i64 x) (.string v) (l.map kvP) = (puA x v l).map kvP
  | [] => rfl
  | p :: l => by
    by_cases h : p.1 = x
    · simp [aput, puA, kvP, h]
    · have : ¬ x = p.1 := fun e => h e.symm
      have ih := aput_puA x v l
      simp [aput, puA, kvP, h, this]
      exact ih
theorem lkp_puA (x y : Int) (v : ByteArray) : ∀ l : List (Int × ByteArray), lkp y (puA x v l) = if y = x then some v else lkp y l
  | [] => by
    by_cases h : y = x
    · simp [lkp, puA, h]
    · have : ¬ x = y := fun e => h e.symm
      simp [lkp, puA, h, this]
  | p :: l => by
    have ih := lkp_puA x y v l
    by_cases h : p.1 = x
    · by_cases h' : y = x
      · simp [lkp, puA, h, h']
      · have : ¬ x = y := fun e => h' e.symm
        simp [lkp, puA, h, h', this]
    · by_cases h' : p.1 = y
      · have : ¬ y = x := fun e => h (h'.trans e)
        simp [lkp, puA, h', this]
      · simp [lkp, puA, h, h', ih]
theorem puA_len (x : Int) (v : ByteArray) : ∀ l : List (Int × ByteArray), (puA x v l).length = if (lkp x l).isSome then l.length else l.length + 1
  | [] => rfl
  | p :: l => by
    have ih := puA_len x v l
    by_cases h : p.1 = x
    · simp [lkp, puA, h]
    · simp [lkp, puA, h, ih]; split <;> rfl
theorem kv_ok (l : List (Int × ByteArray)) : okKeys isI64 (l.map kvP) := fun p hp => by obtain ⟨q, _, rfl⟩ := List.mem_map.1 hp; exact ⟨_, rfl⟩
theorem twrote_c' {x : Int} (h : TX w B t s) (hq : Q (.tuple #[.string ((lkp x s.wr).getD ⟨#[]⟩), .bool (lkp x s.wr).isSome]) w) :
    callS Tryz.prog 91 #[.pointer (some ⟨t, 0, none⟩), .int .i64 x] Q w := by
  refine twrote_c h ?_
  rw [aget_lkp]
  cases hh : lkp x s.wr <;> rw [hh] at hq <;> exact hq
/-! ### writing -/
/-- What a write tells. -/
def wrC (s : TS) (x : Int) (d : ByteArray) : Int :=
  if valB s.l x = none then 30 else if 96 < d.size then 2 else if valB s.l x ≠ some 2 then 13
  else if (lkp x s.wr).isNone ∧ min (mostF s.sh.log) s.sh.cache ≤ s.wr.length then 31 else 0
def wrS (s : TS) (x : Int) (d : ByteArray) : TS := if wrC s x d = 0 then { s with wr := puA x (padF d) s.wr } else s
theorem TXr.cells_ne (h : TXr w B t s m a b) : t ≠ a ∧ t ≠ b := ⟨fun e => map_ne h.ma h.ct e.symm, fun e => map_ne h.mb h.ct e.symm⟩
theorem TXr.setW {l' : List (Int × ByteArray)} (h : TXr w B t s m a b) (k : Keep (fun g => g = a) w w') (hw : TM w' a l') : TXr w' B t { s with wr := l' } m a b := by
  obtain ⟨es, c, hb⟩ := tm_blk h.ma
  exact { h with ct := k.blk h.ct h.cells_ne.1, im := im_keepM h.im k (fun g cs ty hg _ e => by
      have e : g = a := e
      subst e; rw [hb] at hg; cases hg), ma := hw, mb := h.mb.keep k (Ne.symm h.ab) }
theorem TXr.kdA (h : TXr w B t s m a b) (k : Keep (fun g => g = a) w w') : KO B tp w w' := KO.ofB k fun g e => by
  obtain ⟨es, c, hb⟩ := tm_blk h.ma
  have e : g = a := e
  subst e
  exact ⟨h.Ba, _, hb, rfl⟩
theorem mapTo_tm {r : Nat} {l : List (Int × ByteArray)} {x : Int} {v : ByteArray} {w0 : World} (hm : MapTo w0 w' r (aput (.int .i64 x) (.string v) (l.map kvP))) (hs : Go.Sh.stp w' r) : TM w' r (puA x v l) :=
  ⟨by rw [hm.map, aput_puA], hs⟩
theorem twrite_c {x : Int} {d : ByteArray} (h : TX w B t s) (hd : d.size ≤ 9223372036854775807) (hn : s.wr.length ≤ 1000000) (hq : ∀ w', TX w' B t (wrS s x d) → KO B tp w w' → Q (.int .i64 (wrC s x d)) w') :
    callS Tryz.prog 81 #[.pointer (some ⟨t, 0, none⟩), .int .i64 x, .string d] Q w := by
  refine ref81 ?_
  unfold S81
  refine mayread_c h fun w1 k1 => ?_
  have h1 := h.keep0 k1
  cases hv : valB s.l x with
  | none =>
    have e : wrC s x d = 30 := by unfold wrC; rw [if_pos hv]
    simp only [stp, Nat.reduceAdd, Int.reduceLT, Int.reduceLE, Int.reduceEq, Int.reduceNe, ne_eq, bne_self_eq_false, beq_self_eq_true, stm, Option.isSome_none, Bool.false_eq_true, if_false]
    have e' : wrS s x d = s := by unfold wrS; rw [e]; rfl
    have := hq w1 (by rw [e']; exact h1) (KO.of0 k1)
    rw [e] at this; exact this
  | some md =>
    simp only [stp, Nat.reduceAdd, Int.reduceLT, Int.reduceLE, Int.reduceEq, Int.reduceNe, ne_eq, bne_self_eq_false, beq_self_eq_true, stm, Option.isSome_some, if_true]
    have hv0 : ¬ valB s.l x = none := by rw [hv]; simp
    refine pad_c hd (fun hbig => ?_) (fun w2 hsm k2 => ?_)
    · have e : wrC s x d = 2 := by unfold wrC; rw [if_neg hv0, if_pos hbig]
      simp only [stp, Nat.reduceAdd, Int.reduceLT, Int.reduceLE, Int.reduceEq, Int.reduceNe, ne_eq, bne_self_eq_false, beq_self_eq_true, stm]
      have e' : wrS s x d = s := by unfold wrS; rw [e]; rfl
      have := hq w1 (by rw [e']; exact h1) (KO.of0 k1)
      rw [e] at this; exact this
    · have k02 := k1.trans k2
      obtain ⟨m, a, b, h2⟩ := h1.keep0 k2
      have c5 : Sh.cel w2 t 5 = some (.pointer (some ⟨m, 0, none⟩)) := h2.cel 5
      simp only [stp, Nat.reduceAdd, Int.reduceLT, Int.reduceLE, Int.reduceEq, Int.reduceNe, ne_eq, bne_self_eq_false, beq_self_eq_true, stm, c5, Option.isSome_some, Option.getD_some]
      refine tget_c h2.im h2.ll fun w3 k3 => ?_
      have k03 := k02.trans k3
      have h3 := h2.keep0 k3
      have hbig : ¬ 96 < d.size := by omega
      by_cases h2' : md = 2
      rotate_left
      · have e : wrC s x d = 13 := by unfold wrC; rw [if_neg hv0, if_neg hbig, if_pos (by rw [hv]; intro e; injection e with e; exact h2' e)]
        have em : ¬ mdV (valB s.l x) = 2 := by rw [hv]; exact h2'
        simp only [stp, Nat.reduceAdd, Int.reduceLT, Int.reduceLE, Int.reduceEq, Int.reduceNe, ne_eq, bne_self_eq_false, beq_self_eq_true, stm, em]
        have e' : wrS s x d = s := by unfold wrS; rw [e]; rfl
        have := hq w3 (by rw [e']; exact ⟨m, a, b, h3⟩) (KO.of0 k03)
        rw [e] at this; exact this
      subst h2'
      have em : mdV (valB s.l x) = 2 := by rw [hv]; rfl
      have c6 : Sh.cel w3 t 6 = some (.map (some a)) := h3.cel 6
      simp only [stp, Nat.reduceAdd, Int.reduceLT, Int.reduceLE, Int.reduceEq, Int.reduceNe, ne_eq, bne_self_eq_false, beq_self_eq_true, stm, em, c6, Option.isSome_some, Option.getD_some]
      rw [rd_eq (lu_208 h3.ma.mp (kv_ok _) ⟨x, rfl⟩ true)]
      have hv2 : ¬ valB s.l x ≠ some 2 := by rw [hv]; simp
      rw [aget_lkp]
      simp only [stp, Nat.reduceAdd, Int.reduceLT, Int.reduceLE, Int.reduceEq, Int.reduceNe, ne_eq, bne_self_eq_false, beq_self_eq_true, stm, if_true, Option.isSome_map]
      have h4 : TXr w3.drew B t s m a b := h3.keep0 ((K0.refl w3).drew)
      have k04 : K0 w w3.drew := k03.drew
      have c6' : Sh.cel w3.drew t 6 = some (.map (some a)) := h4.cel 6
      have c2' : Sh.cel w3.drew t 2 = some (.int .i64 s.sh.log) := h4.cel 2
      have c3' : Sh.cel w3.drew t 3 = some (.int .i64 s.sh.cache) := h4.cel 3
      refine ⟨fun w' => w' = w3.drew, rfl, ?_⟩
      have put : wrC s x d = 0 → act Tryz.prog (thenU (Instr.mapUpdate 208 (.map (some a)) (.int .i64 x) (.string (padF d)))) (fun _ w_41 => Q (.int .i64 0) w_41) w3.drew := fun e => by
        refine act_mapUpdateS ky_3 (fun w => Tryz.runUnderlying208 w) h4.ma.mp (kv_ok _) ⟨x, rfl⟩ fun w5 hm hs => ?_
        have hs5 := hs h4.ma.st
        have hT := mapTo_tm hm hs5
        have e' : wrS s x d = { s with wr := puA x (padF d) s.wr } := by unfold wrS; rw [if_pos e]
        have := hq w5 (by rw [e']; exact ⟨m, a, b, h4.setW hm.keep hT⟩) ((KO.of0 k04).trans (h4.kdA hm.keep))
        rw [e] at this; exact this
      cases hl : lkp x s.wr with
      | some u =>
        have e : wrC s x d = 0 := by unfold wrC; rw [if_neg hv0, if_neg hbig, if_neg hv2, if_neg (by rw [hl]; simp)]
        simp only [stp, Nat.reduceAdd, Int.reduceLT, Int.reduceLE, Int.reduceEq, Int.reduceNe, ne_eq, bne_self_eq_false, beq_self_eq_true, stm, Option.isSome_some, Bool.not_true, c6', Option.getD_some, cel_drew, c6]
        exact put e
      | none =>
        simp only [stp, Nat.reduceAdd, Int.reduceLT, Int.reduceLE, Int.reduceEq, Int.reduceNe, ne_eq, bne_self_eq_false, beq_self_eq_true, stm, Option.isSome_none, Bool.not_false]
        refine hld_of (.map (some a)) (fun w' hw => by subst hw; exact rl_208 c6') ?_
        refine hld_of (.int .i64 (s.wr.length : Int)) (fun w' hw => by subst hw; have := lm_208 (w := w3.drew) h4.ma.mp; rw [List.length_map] at this; exact this) ?_
        try simp only [stp, Nat.reduceAdd, Int.reduceLT, Int.reduceLE, Int.reduceEq, Int.reduceNe, ne_eq, bne_self_eq_false, beq_self_eq_true, stm]
        refine hld_of (.int .i64 s.sh.log) (fun w' hw => by subst hw; exact rl_3 c2') ?_
        refine most_c (by have := h4.ok.l; omega) (by have := h4.ok.l; omega) ⟨rfl, ?_⟩
        try simp only [stp, Nat.reduceAdd, Int.reduceLT, Int.reduceLE, Int.reduceEq, Int.reduceNe, ne_eq, bne_self_eq_false, beq_self_eq_true, stm]
        refine hld_of (.int .i64 s.sh.cache) (fun w' hw => by subst hw; exact rl_3 c3') ?_
        by_cases hf : min (mostF s.sh.log) s.sh.cache ≤ (s.wr.length : Int)
        · have e : wrC s x d = 31 := by unfold wrC; rw [if_neg hv0, if_neg hbig, if_neg hv2, if_pos ⟨by rw [hl]; rfl, hf⟩]
          simp only [stp, Nat.reduceAdd, Int.reduceLT, Int.reduceLE, Int.reduceEq, Int.reduceNe, ne_eq, bne_self_eq_false, beq_self_eq_true, stm, hf]
          have e' : wrS s x d = s := by unfold wrS; rw [e]; rfl
          have := hq w3.drew (by rw [e']; exact ⟨m, a, b, h4⟩) (KO.of0 k04)
          rw [e] at this; exact this
        · have e : wrC s x d = 0 := by unfold wrC; rw [if_neg hv0, if_neg hbig, if_neg hv2, if_neg (fun h => hf h.2)]
          simp only [stp, Nat.reduceAdd, Int.reduceLT, Int.reduceLE, Int.reduceEq, Int.reduceNe, ne_eq, bne_self_eq_false, beq_self_eq_true, stm, hf, cel_drew, c6, Option.isSome_some, Option.getD_some]
          exact put e
end
end Go.Proofs.YtndjohbbaplekaaGreatX
/- A transaction: the first call whose answer the document fixes. Conditions: none. -/
set_option linter.unusedSimpArgs false
set_option linter.unusedVariables false
namespace Go.Proofs.YtndjohbbaplekaaGreatX
open Go.Sh Go.Proofs.YtndjohbbaplekaaGreatX.Mi
set_option maxRecDepth 100000
section
variable {w w' : World} {Q : Value → World → Prop} {B t m a b : Nat} {s : TS}
abbrev shp : Sh5 := ⟨2, 10, 8, 4, 32⟩
theorem shp_ok : shp.ok := ⟨by decide, by decide, by decide, by decide, by decide⟩
theorem shape_c (hq : ∀ w', K0 w w' → Q (.agg shp.vals.toArray) w') : callS Tryz.prog 75 #[] Q w := by
  refine ref75 ?_
  unfold S75
  rw [al_122]
  generalize hw1 : w.alloc _ = w1
  have b1 : blk w1 (siz w) = some (.cells #[.int .i64 0, .int .i64 0, .int .i64 0, .int .i64 0, .int .i64 0] 122) := by rw [← hw1]; exact blk_alloc_new
  have k1 : K0 w w1 := by rw [← hw1]; exact (K0.refl w).alloc _
  have e0 : ∀ o, Sh.cel w1 (siz w) o = (#[.int .i64 0, .int .i64 0, .int .i64 0, .int .i64 0, .int .i64 0] : Array Value)[o]? := fun o => cel_b b1 o
  have i0 : (Sh.cel w1 (siz w) 0).isSome = true := by rw [e0]; rfl
  have i1 : (Sh.cel w1 (siz w) 1).isSome = true := by rw [e0]; rfl
  have i2 : (Sh.cel w1 (siz w) 2).isSome = true := by rw [e0]; rfl
  have i3 : (Sh.cel w1 (siz w) 3).isSome = true := by rw [e0]; rfl
  have i4 : (Sh.cel w1 (siz w) 4).isSome = true := by rw [e0]; rfl
  simp only [stp, Nat.reduceAdd, Int.reduceLT, Int.reduceLE, Int.reduceEq, Int.reduceNe, ne_eq, bne_self_eq_false, beq_self_eq_true, stm, i0, i1, i2, i3, i4, fre_b b1]
  have kF : K0 w (stoL w1 (siz w) 0 shp.vals) := k1.stoL _ 0 (.inr (Nat.le_refl _))
  have bF : blk (stoL w1 (siz w) 0 shp.vals) (siz w) = some (.cells shp.vals.toArray 122) := blk_stoL_all (zs := [.int .i64 0, .int .i64 0, .int .i64 0, .int .i64 0, .int .i64 0]) (xs := shp.vals) rfl b1
  rw [show ([Value.int .i64 2, .int .i64 10, .int .i64 8, .int .i64 4, .int .i64 32]) = shp.vals from rfl]
  generalize stoL w1 (siz w) 0 shp.vals = w3 at kF bF
  have d0 : Sh.cel w3 (siz w) 0 = some (.int .i64 2) := cel_b bF 0
  have d1 : Sh.cel w3 (siz w) 1 = some (.int .i64 10) := cel_b bF 1
  have d2 : Sh.cel w3 (siz w) 2 = some (.int .i64 8) := cel_b bF 2
  have d3 : Sh.cel w3 (siz w) 3 = some (.int .i64 4) := cel_b bF 3
  have d4 : Sh.cel w3 (siz w) 4 = some (.int .i64 32) := cel_b bF 4
  simp only [stp, Nat.reduceAdd, Int.reduceLT, Int.reduceLE, Int.reduceEq, Int.reduceNe, ne_eq, bne_self_eq_false, beq_self_eq_true, d0, d1, d2, d3, d4, Option.isSome_some, Option.getD_some]
  exact hq _ kF
theorem ask_in {L : List I3} {x v : Int} (h : askF L x = some v) : ∃ k ∈ L, 0 ≤ k.1 ∧ k.1 ≤ x ∧ x < k.2.1 ∧ k.2.2 = v := by
  have := askF_is L x
  rw [h] at this
  obtain ⟨⟨k, hk, ⟨_, h1, h2, h3⟩, hv⟩, _⟩ := this
  exact ⟨k, hk, h1.1, h2, h3, hv⟩
theorem ck_ok {s : Sh5} {L : List I3} (h : CkIs s L 0) : s.ok ∧ 0 < L.length ∧ L.length ≤ 16 ∧ (∀ k ∈ L, mdOk k) ∧ ∀ k ∈ L, spOk s k := by
  rcases h with ⟨_, h⟩ | ⟨h0, ⟨_, h⟩ | ⟨h1, ⟨_, h⟩ | ⟨h2, ⟨_, h⟩ | ⟨h3, _⟩⟩⟩⟩
  · cases h
  · cases h
  · cases h
  · cases h
  · exact ⟨h0, h1.1, h1.2, h2, h3⟩
theorem ck_in {s : Sh5} {L : List I3} {x v : Int} (h : CkIs s L 0) (hv : askF L x = some v) : 0 ≤ x ∧ x < s.blocks ∧ s.blocks ≤ 4096 ∧ (v = 1 ∨ v = 2) := by
  obtain ⟨h0, _, _, _, h3⟩ := ck_ok h
  obtain ⟨k, hk, h1, h2, h4, _⟩ := ask_in hv
  have := (h3 k hk).2
  have := h0.b
  exact ⟨by omega, by omega, by omega, askF_mode hv⟩
theorem _root_.Go.Sh.Keep.ko {A : Nat} {p : Obj → Bool} {w'' : World} (h : Keep (fun _ => False) w w') (k : KO A p w' w'') (hA : siz w ≤ A) : K0 w w'' := h.trans' k fun b hb hk => by have := hk.1; omega
theorem mostF_8 : mostF 8 = 1 := by decide
theorem run_padx : (padF ⟨#[120]⟩)[0]? = some 120 := by decide +kernel
/-- The first call. -/
theorem alive_c (hq : ∀ w', K0 w w' → Q (.bool true) w') : callS Tryz.prog 74 #[] Q w := by
  refine ref74 ?_
  unfold S74
  refine shape_c fun w1 k1 => ?_
  simp only [stp, Nat.reduceAdd, Int.reduceLT, Int.reduceLE, Int.reduceEq, Int.reduceNe, ne_eq, bne_self_eq_false, beq_self_eq_true]
  have k2 := (K0.refl w1).alloc (.cells #[.int .i64 0, .int .i64 5, .int .i64 1] 143)
  have r2 : Rd 3 (w1.alloc (.cells #[.int .i64 0, .int .i64 5, .int .i64 1] 143)) (.slice (some ⟨siz w1, 0, none⟩) 1 1) [((0, 5, 1) : I3)].length (flat enc3 [((0, 5, 1) : I3)]) :=
    ⟨rfl, .inr ⟨siz w1, 0, 1, rfl, by simp, fun j hj => by rw [Nat.zero_add, cel_alloc_new, List.getElem?_toArray]; rfl⟩⟩
  generalize w1.alloc (.cells #[.int .i64 0, .int .i64 5, .int .i64 1] 143) = w2 at k2 r2
  have hck : ∀ e, CkIs shp [((0, 5, 1) : I3)] e → e = 0 := fun e he => by
    have hm : ∀ k ∈ [((0, 5, 1) : I3)], mdOk k := fun k hk => by rw [List.mem_singleton.1 hk]; exact .inl rfl
    have hs : ∀ k ∈ [((0, 5, 1) : I3)], spOk shp k := fun k hk => by rw [List.mem_singleton.1 hk]; exact ⟨by decide, by decide⟩
    rcases he with ⟨h, _⟩ | ⟨_, ⟨h, _⟩ | ⟨_, ⟨h, _⟩ | ⟨_, ⟨h, _⟩ | ⟨_, h⟩⟩⟩⟩
    · exact absurd shp_ok h
    · simp at h
    · exact absurd hm h
    · exact absurd hs h
    · exact h
  refine tnew_c (s := shp) r2 (by simp) (fun w3 e he hne _ => absurd (hck e he) hne) fun w3 t l _ ht hvl hll h3 k3 => ?_
  have k03 := (k1.trans k2).trans k3
  have s1 := k1.size
  have s2 := k2.size
  have v3 : valB l 3 = some 1 := by rw [hvl]; decide +kernel
  have hck0 : CkIs shp [((0, 5, 1) : I3)] 0 := by assumption
  have hin : ∀ x v, valB l x = some v → 0 ≤ x ∧ x < 4096 := fun x v hv => by
    rw [hvl] at hv
    have := ck_in hck0 hv
    have h10 : x < 10 := this.2.1
    exact ⟨this.1, by omega⟩
  simp only [stp, Nat.reduceAdd, Int.reduceLT, Int.reduceLE, Int.reduceEq, Int.reduceNe, ne_eq, bne_self_eq_false, beq_self_eq_true, stm]
  have hd : (⟨#[120]⟩ : ByteArray).size ≤ 9223372036854775807 := by decide
  refine twrite_c h3 hd (by simp) fun w4 h4 k4 => ?_
  have e4 : wrC ⟨shp, l, [], []⟩ 3 ⟨#[120]⟩ = 13 := by unfold wrC; rw [if_neg (by rw [v3]; simp), if_neg (by decide), if_pos (by rw [v3]; decide)]
  have e4' : wrS ⟨shp, l, [], []⟩ 3 ⟨#[120]⟩ = ⟨shp, l, [], []⟩ := by unfold wrS; rw [e4]; rfl
  rw [e4'] at h4
  rw [e4]
  simp only [stp, Nat.reduceAdd, Int.reduceLT, Int.reduceLE, Int.reduceEq, Int.reduceNe, ne_eq, bne_self_eq_false, beq_self_eq_true, stm]
  refine tneeds_c h4 (fun _ => by decide) (by decide) (fun w5 _ k5 => ?_) (fun w5 hno _ => absurd v3 hno)
  simp only [stp, Nat.reduceAdd, Int.reduceLT, Int.reduceLE, Int.reduceEq, Int.reduceNe, ne_eq, bne_self_eq_false, beq_self_eq_true, stm]
  generalize hw6 : w5.alloc _ = w6
  have b6 : blk w6 (siz w5) = some (.cells #[.int .i64 3, .int .i64 (3 + 1), .int .i64 2] 143) := by rw [← hw6]; exact blk_alloc_new
  have k6 : K0 w5 w6 := by rw [← hw6]; exact (K0.refl w5).alloc _
  have h6 := (h4.keep0 k5).keep0 k6
  refine tgrow_c h6 hin (by decide) (fun w7 l7 _ hv7 h7 k7 => ?_) (fun w7 hno _ => absurd v3 hno) (by show l.length ≤ _; have : [((0, 5, 1) : I3)].length = 1 := rfl; omega)
  refine twrite_c h7 hd (by simp) fun w8 h8 k8 => ?_
  have v7 : valB l7 3 = some 2 := by rw [hv7, if_pos rfl]
  have e8 : wrC ⟨shp, l7, [], []⟩ 3 ⟨#[120]⟩ = 0 := by
    unfold wrC; rw [if_neg (by rw [v7]; simp), if_neg (by decide), if_neg (by rw [v7]; simp), if_neg]
    rintro ⟨_, h⟩
    rw [mostF_8] at h
    exact absurd h (show ¬ (min (1 : Int) 4 ≤ ((0 : Nat) : Int)) by decide)
  have e8' : wrS ⟨shp, l7, [], []⟩ 3 ⟨#[120]⟩ = ⟨shp, l7, [(3, padF ⟨#[120]⟩)], []⟩ := by unfold wrS; rw [if_pos e8]; rfl
  rw [e8'] at h8
  have e8 : wrC { sh := shp, l := l7, wr := [], rd := [] } 3 ⟨#[120]⟩ = 0 := e8
  simp only [e8]
  refine twrote_c' h8 ?_
  have b8 := k8.blk (k7.blk b6 rfl) rfl
  have d0 : Sh.cel w8 (siz w5) 0 = some (.int .i64 3) := cel_b b8 0
  have d1 : Sh.cel w8 (siz w5) 1 = some (.int .i64 4) := cel_b b8 1
  have d2 : Sh.cel w8 (siz w5) 2 = some (.int .i64 2) := cel_b b8 2
  have hl : lkp 3 [(3, padF ⟨#[120]⟩)] = some (padF ⟨#[120]⟩) := rfl
  have hsz : (padF ⟨#[120]⟩).size = 96 := padF_size (by decide)
  have six : ∀ {k : Value → Prop}, pur Tryz.prog (Instr.index 9 (.string (padF ⟨#[120]⟩)) (.int .i64 0)) k = k (.int .u8 120) := fun {k} => pur_eq fun w => run_strIndex (i := 0) (fun w => Tryz.runUnderlying9 w) run_padx w
  simp only [stp, Nat.reduceAdd, Int.reduceLT, Int.reduceLE, Int.reduceEq, Int.reduceNe, ne_eq, bne_self_eq_false, beq_self_eq_true, stm, d0, d1, d2, hl, hsz, six, Option.isSome_some, Option.getD_some, decide_true, Bool.and_self, Int.reduceAdd, Int.cast_ofNat_Int]
  have hB : siz w ≤ siz w2 := by omega
  exact hq _ ((((((k03.ko k4 hB).trans k5).trans k6).ko k7 hB).ko k8 hB))
end
end Go.Proofs.YtndjohbbaplekaaGreatX
/- A transaction: how many blocks; how many have room. Conditions: as each says. -/
set_option linter.unusedSimpArgs false
set_option linter.unusedVariables false
namespace Go.Proofs.YtndjohbbaplekaaGreatX
open Go.Sh Go.Proofs.YtndjohbbaplekaaGreatX.Mi
set_option maxRecDepth 100000
section
variable {w w' : World} {Q : Value → World → Prop} {B t m a b : Nat} {s : TS}
theorem tblocks_c (h : TX w B t s) (hq : Q (.int .i64 (s.wr.length : Int)) w) : callS Tryz.prog 94 #[.pointer (some ⟨t, 0, none⟩)] Q w := by
  refine ref94 ?_
  unfold S94
  refine tnone_c h ?_
  obtain ⟨m, a, b, h⟩ := h
  have c6 : Sh.cel w t 6 = some (.map (some a)) := h.cel 6
  simp only [stp, Nat.reduceAdd, Int.reduceLT, Int.reduceLE, Int.reduceEq, Int.reduceNe, ne_eq, bne_self_eq_false, beq_self_eq_true, stm, c6, Option.isSome_some, Option.getD_some]
  have := lm_208 (w := w) h.ma.mp
  rw [List.length_map] at this
  rw [rd_eq this]
  exact hq
theorem rsec_c {n : Int} (h1 : 1 ≤ n) (h2 : n ≤ 60) (hq : Q (.int .i64 ((108 * n + 41) / 42)) w) : callS Tryz.prog 185 #[.int .i64 n] Q w := by
  refine ref185 ?_
  unfold S185
  have a1 : ¬ n < 1 := by omega
  have a2 : ¬ (60 < n) := by omega
  have e1 : IntKind.i64.wrap (108 * n) = 108 * n := wrap_id (by omega) (by omega)
  have e2 : IntKind.i64.wrap (108 * n + 41) = 108 * n + 41 := wrap_id (by omega) (by omega)
  have e4 : IntKind.i64.wrap ((108 * n + 41).tdiv 42) = (108 * n + 41) / 42 := by rw [Int.tdiv_eq_ediv_of_nonneg (by omega), wrap_id (by omega) (by omega)]
  simp only [stp, Nat.reduceAdd, Int.reduceLT, Int.reduceLE, Int.reduceEq, Int.reduceNe, ne_eq, bne_self_eq_false, beq_self_eq_true, stm, a1, a2, e1, e2]
  rw [pur_quo (by decide), e4]
  exact hq
theorem rmost_c {log : Int} (h1 : 1 ≤ log) (h2 : log ≤ 100000) (hq : Q (.int .i64 (mostF log)) w) : callS Tryz.prog 79 #[.int .i64 log] Q w := by
  refine ref79 ?_
  unfold S79
  refine lp2 (fun mm x y w' => w' = w ∧ ∃ n : Nat, y = .int .i64 (((n + 1 : Nat) : Int)) ∧ n ≤ 60 ∧ x = .int .i64 (min (n : Int) (7 * ((log - 1) / 2) / 18)) ∧ mm = 60 - n) 60 ⟨rfl, 0, rfl, by omega, by congr 1; omega, rfl⟩ ?_
  rintro mm x y w1 ⟨rfl, n, rfl, hn, rfl, hm⟩ J hJ _j
  have e2 : IntKind.i64.wrap (log - 1) = log - 1 := wrap_id (by omega) (by omega)
  have e3 : IntKind.i64.wrap ((log - 1).tdiv 2) = (log - 1) / 2 := by rw [Int.tdiv_eq_ediv_of_nonneg (by omega), wrap_id (by omega) (by omega)]
  have hg : (1 : Int) ≤ log := h1
  have hl : log ≤ 100000 := h2
  by_cases hlt : n < 60
  · have hlt' : ((n + 1 : Nat) : Int) ≤ 60 := by omega
    have e1 : IntKind.i64.wrap (((n + 1 : Nat) : Int) + 1) = ((n + 1 + 1 : Nat) : Int) := wrap_succ (by omega)
    simp only [stp, Nat.reduceAdd, Int.reduceLT, Int.reduceLE, Int.reduceEq, Int.reduceNe, ne_eq, bne_self_eq_false, beq_self_eq_true, stm, hlt', hg, hl]
    refine jn1 (fun z w' => w' = w1 ∧ z = .int .i64 (min ((n + 1 : Nat) : Int) (7 * ((log - 1) / 2) / 18))) (fun J1 hJ1 => ?_) ?_
    · refine rsec_c (by omega) (by omega) ?_
      simp only [stp, Nat.reduceAdd, Int.reduceLT, Int.reduceLE, Int.reduceEq, Int.reduceNe, ne_eq, bne_self_eq_false, beq_self_eq_true, stm, e2]
      rw [pur_quo (by decide), e3]
      by_cases hle : (108 * ((n + 1 : Nat) : Int) + 41) / 42 ≤ (log - 1) / 2
      · simp only [stp, Nat.reduceAdd, Int.reduceLT, Int.reduceLE, Int.reduceEq, Int.reduceNe, ne_eq, bne_self_eq_false, beq_self_eq_true, stm, hle]
        exact hJ1 _ _ ⟨rfl, by congr 1; omega⟩
      · simp only [stp, Nat.reduceAdd, Int.reduceLT, Int.reduceLE, Int.reduceEq, Int.reduceNe, ne_eq, bne_self_eq_false, beq_self_eq_true, stm, hle]
        exact hJ1 _ _ ⟨rfl, by congr 1; omega⟩
    · rintro z w2 ⟨rfl, rfl⟩ _j
      simp only [stp, Nat.reduceAdd, Int.reduceLT, Int.reduceLE, Int.reduceEq, Int.reduceNe, ne_eq, bne_self_eq_false, beq_self_eq_true, stm, e1]
      exact hJ (60 - (n + 1)) _ _ _ (by omega) ⟨rfl, n + 1, rfl, by omega, rfl, rfl⟩
  · have hlt' : ¬ ((n + 1 : Nat) : Int) ≤ 60 := by omega
    simp only [stp, Nat.reduceAdd, Int.reduceLT, Int.reduceLE, Int.reduceEq, Int.reduceNe, ne_eq, bne_self_eq_false, beq_self_eq_true, stm, hlt']
    have : min (n : Int) (7 * ((log - 1) / 2) / 18) = mostF log := by unfold mostF; omega
    rw [this]; exact hq
end
end Go.Proofs.YtndjohbbaplekaaGreatX
