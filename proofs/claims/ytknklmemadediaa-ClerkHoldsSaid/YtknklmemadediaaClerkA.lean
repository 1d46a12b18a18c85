/- A node's side of the locks: how it lies in memory; what its first functions compute. Conditions: as each says. -/
import Derived.Test.YtknklmemadediaaModeC0
import Derived.Test.YtknklmemadediaaKeep
set_option linter.unusedSimpArgs false
set_option linter.unusedVariables false
namespace Go.Proofs.Ytknklmemadediaa
open Go.Sh Go.Proofs.Ytknklmemadediaa.Mi
set_option maxRecDepth 100000
theorem slm_1 {b o n c : Nat} {k : Value → Prop} (h : 1 ≤ c) : pur Try.prog (Instr.sliceAt 27 (.slice (some ⟨b, o, none⟩) n c) none (some (.int .i64 1)) (some (.int .i64 1))) k = k (.slice (some ⟨b, o, none⟩) 1 1) := pur_eq fun w => by
  have h' : (1 : Int) ≤ (c : Int) := by omega
  simp [Instr.sliceAt, Try.runUnderlying27, Instr.slice, Instr.sliceBounds, Instr.sliceBound, asIntOf, h', Try.sizeOf25, Addr.add]
/-- What a clerk knows. -/
structure CS where
  node : Int
  epoch : Int
  gen : Int
  lh : List (Pt Int)
  lu : List (Pt Int)
  lo : List (Pt Int)
  lw : List (Pt Int)
  id : Nat
  out : Bool
  quit : Bool
  grants : Nat
  denied : Int
  /-- A block that is not the one of its wants. -/
  av : Option Nat
def CS.cells (s : CS) (mh mu mo : Nat) (wv : Value) : Array Value :=
  #[.int .i64 s.node, .int .u64 s.epoch, .int .i64 s.gen, .pointer (some ⟨mh, 0, none⟩), .pointer (some ⟨mu, 0, none⟩), .pointer (some ⟨mo, 0, none⟩), wv, .int .i64 (s.id : Int), .bool s.out, .bool s.quit, .int .i64 (s.grants : Int), .int .i64 s.denied]
/-- A row that reads so, in a block that is not the one named. -/
def WR (w : World) (B : Nat) (av : Option Nat) (e : TypeId) (z : Nat) (v : Value) (n : Nat) (xs : List Value) : Prop := TRd w B e z v n xs ∧ ∀ u, av = some u → u < siz w ∧ v.ownBlock ≠ some u
theorem WR.keep {F : Nat → Prop} {w w' : World} {B z n : Nat} {av : Option Nat} {e : TypeId} {v : Value} {xs : List Value} (h : WR w B av e z v n xs) (k : Keep F w w') (hF : ∀ g cs, blk w g = some (.cells cs e) → ¬ F g) : WR w' B av e z v n xs :=
  ⟨h.1.keep k hF, fun u hu => ⟨Nat.lt_of_lt_of_le (h.2 u hu).1 k.size, (h.2 u hu).2⟩⟩
theorem WR.keep0 {w w' : World} {B z n : Nat} {av : Option Nat} {e : TypeId} {v : Value} {xs : List Value} (h : WR w B av e z v n xs) (k : K0 w w') : WR w' B av e z v n xs := h.keep k fun _ _ _ => id
theorem WR.ko {A : Nat} {p : Obj → Bool} {w w' : World} {B z n : Nat} {av : Option Nat} {e : TypeId} {v : Value} {xs : List Value} (h : WR w B av e z v n xs) (k : KO A p w w') (hp : ∀ cs, p (.cells cs e) = false) : WR w' B av e z v n xs :=
  ⟨h.1.ko k hp, fun u hu => ⟨Nat.lt_of_lt_of_le (h.2 u hu).1 k.size, (h.2 u hu).2⟩⟩
theorem WR.nil {w : World} {B : Nat} {av : Option Nat} {e : TypeId} {z : Nat} (h : ∀ u, av = some u → u < siz w) : WR w B av e z (.slice none 0 0) 0 [] := ⟨TRd.nil _ _ _ _, fun u hu => ⟨h u hu, fun e => by cases e⟩⟩
/-- A clerk in memory, its blocks by name. -/
structure CLr (w : World) (B c : Nat) (s : CS) (mh mu mo : Nat) (wv : Value) : Prop where
  b : blk w c = some (.cells (s.cells mh mu mo wv) 65)
  h : IM w mh s.lh
  u : IM w mu s.lu
  o : IM w mo s.lo
  nhu : mh ≠ mu
  nho : mh ≠ mo
  nuo : mu ≠ mo
  Bc : B ≤ c
  Bh : B ≤ mh
  Bu : B ≤ mu
  Bo : B ≤ mo
  wr : WR w B s.av 25 3 wv (asLocks s.lw).length (flat enc3 (asLocks s.lw))
  w1 : Go.Sh.one wv = true
  cw : Canon s.lw
  mw : okM s.lw
  dh : Bd 4096 s.lh
  du : Bd 4096 s.lu
  do_ : Bd 4096 s.lo
  dw : Bd 4096 s.lw
def CL (w : World) (B c : Nat) (s : CS) : Prop := ∃ mh mu mo wv, CLr w B c s mh mu mo wv
/-- What a clerk turns. -/
abbrev cp : Obj → Bool := tys [65, 89]
section
variable {w w' : World} {Q : Value → World → Prop} {B c : Nat} {s : CS} {mh mu mo : Nat} {wv : Value}
theorem im_blk {m : Nat} {l : List (Pt Int)} (h : IM w m l) : ∃ cs, blk w m = some (.cells cs 89) := by obtain ⟨sl, h, _⟩ := h; exact ⟨_, h⟩
theorem im_kd {m : Nat} {l : List (Pt Int)} (h : IM w m l) (hB : B ≤ m) : Kd B cp w m := by
  obtain ⟨cs, hb⟩ := im_blk h
  exact ⟨hB, _, hb, rfl⟩
theorem im_ko {m : Nat} {l : List (Pt Int)} (h : IM w m l) (hB : B ≤ m) (k : Keep (fun b => b = m) w w') : KO B cp w w' := KO.ofB k fun b e => by
  have e : b = m := e
  rw [e]; exact im_kd h hB
theorem CLr.kc (h : CLr w B c s mh mu mo wv) : Kd B cp w c := ⟨h.Bc, _, h.b, rfl⟩
theorem ne_of_ty {a b : Nat} {x y : Array Value} {t t' : TypeId} (ha : blk w a = some (.cells x t)) (hb : blk w b = some (.cells y t')) (ht : t ≠ t') : a ≠ b := fun e => by
  subst e; rw [ha] at hb; injection hb with hb; injection hb with _ hb; exact ht hb
theorem CLr.ch (h : CLr w B c s mh mu mo wv) : c ≠ mh := by obtain ⟨_, e⟩ := im_blk h.h; exact ne_of_ty h.b e (by decide)
theorem CLr.cu (h : CLr w B c s mh mu mo wv) : c ≠ mu := by obtain ⟨_, e⟩ := im_blk h.u; exact ne_of_ty h.b e (by decide)
theorem CLr.co (h : CLr w B c s mh mu mo wv) : c ≠ mo := by obtain ⟨_, e⟩ := im_blk h.o; exact ne_of_ty h.b e (by decide)
/-- A map stands while a block turns that is none of maps and rows. -/
theorem im_keepT {m n : Nat} {l : List (Pt Int)} {x : Array Value} {t : TypeId} (h : IM w m l) (hn : blk w n = some (.cells x t)) (h1 : t ≠ 89) (h2 : t ≠ 75) (k : Keep (fun b => b = n) w w') : IM w' m l := by
  obtain ⟨sl, hb, ho, hc⟩ := h
  refine ⟨sl, k.blk hb fun e => ne_of_ty hb hn (Ne.symm h1) e, ho.keep k fun g hg e => ?_, hc⟩
  subst e
  rcases ho.2 with ⟨rfl, _⟩ | ⟨g', cap, cur, rfl, _, hh, _⟩
  · cases hg
  · injection hg with hg
    subst hg
    exact ne_of_ty hn hh h2 rfl
theorem CLr.keep0 (h : CLr w B c s mh mu mo wv) (k : K0 w w') : CLr w' B c s mh mu mo wv :=
  { h with b := k.blk h.b id, h := h.h.keep0 k, u := h.u.keep0 k, o := h.o.keep0 k, wr := h.wr.keep0 k }
/-- The clerk's own block turns. -/
theorem CLr.set {s' : CS} {wv' : Value} (h : CLr w B c s mh mu mo wv) (k : Keep (fun b => b = c) w w') (hb : blk w' c = some (.cells (s'.cells mh mu mo wv') 65)) (eh : s'.lh = s.lh) (eu : s'.lu = s.lu) (eo : s'.lo = s.lo)
    (wr : WR w' B s'.av 25 3 wv' (asLocks s'.lw).length (flat enc3 (asLocks s'.lw))) (w1 : Go.Sh.one wv' = true) (cw : Canon s'.lw) (mw : okM s'.lw) (dw : Bd 4096 s'.lw) : CLr w' B c s' mh mu mo wv' where
  b := hb
  h := by rw [eh]; exact im_keepT h.h h.b (by decide) (by decide) k
  u := by rw [eu]; exact im_keepT h.u h.b (by decide) (by decide) k
  o := by rw [eo]; exact im_keepT h.o h.b (by decide) (by decide) k
  nhu := h.nhu
  nho := h.nho
  nuo := h.nuo
  Bc := h.Bc
  Bh := h.Bh
  Bu := h.Bu
  Bo := h.Bo
  wr := wr
  w1 := w1
  cw := cw
  mw := mw
  dh := by rw [eh]; exact h.dh
  du := by rw [eu]; exact h.du
  do_ := by rw [eo]; exact h.do_
  dw := dw
theorem CLr.wrC (h : CLr w B c s mh mu mo wv) (k : Keep (fun b => b = c) w w') : WR w' B s.av 25 3 wv (asLocks s.lw).length (flat enc3 (asLocks s.lw)) :=
  h.wr.keep k fun g cs hg e => ne_of_ty hg h.b (by decide) e
/-- A cell of it, but no map and no list, turns. -/
theorem CLr.put {s' : CS} {o : Nat} {v : Value} (h : CLr w B c s mh mu mo wv) (hc : (s.cells mh mu mo wv).setIfInBounds o v = s'.cells mh mu mo wv) (eh : s'.lh = s.lh := by rfl) (eu : s'.lu = s.lu := by rfl) (eo : s'.lo = s.lo := by rfl) (ew : s'.lw = s.lw := by rfl) (ea : s'.av = s.av := by rfl) : CLr (sto w c o v) B c s' mh mu mo wv := by
  have k : Keep (fun b => b = c) w (sto w c o v) := (Keep.refl (fun b => b = c) w).sto (.inl rfl) o v
  refine h.set k (by rw [blk_sto h.b, hc]) eh eu eo ?_ h.w1 (by rw [ew]; exact h.cw) (by rw [ew]; exact h.mw) (by rw [ew]; exact h.dw)
  rw [ew, ea]; exact h.wrC k
theorem CLr.cel (h : CLr w B c s mh mu mo wv) (o : Nat) : cel w c o = (s.cells mh mu mo wv)[o]? := cel_b h.b o
theorem CLr.turnH {lh : List (Pt Int)} (h : CLr w B c s mh mu mo wv) (k : Keep (fun b => b = mh) w w') (hm : IM w' mh lh) (hd : Bd 4096 lh) : CLr w' B c { s with lh := lh } mh mu mo wv :=
  { h with b := k.blk h.b h.ch, h := hm, u := h.u.keepM h.h h.nhu.symm k, o := h.o.keepM h.h h.nho.symm k, wr := h.wr.keep k fun g cs hg e => by obtain ⟨_, e'⟩ := im_blk h.h; exact ne_of_ty hg e' (by decide) e, dh := hd }
theorem CLr.turnU {lu : List (Pt Int)} (h : CLr w B c s mh mu mo wv) (k : Keep (fun b => b = mu) w w') (hm : IM w' mu lu) (hd : Bd 4096 lu) : CLr w' B c { s with lu := lu } mh mu mo wv :=
  { h with b := k.blk h.b h.cu, u := hm, h := h.h.keepM h.u h.nhu k, o := h.o.keepM h.u h.nuo.symm k, wr := h.wr.keep k fun g cs hg e => by obtain ⟨_, e'⟩ := im_blk h.u; exact ne_of_ty hg e' (by decide) e, du := hd }
theorem CLr.turnO {lo : List (Pt Int)} (h : CLr w B c s mh mu mo wv) (k : Keep (fun b => b = mo) w w') (hm : IM w' mo lo) (hd : Bd 4096 lo) : CLr w' B c { s with lo := lo } mh mu mo wv :=
  { h with b := k.blk h.b h.co, o := hm, h := h.h.keepM h.o h.nho k, u := h.u.keepM h.o h.nuo k, wr := h.wr.keep k fun g cs hg e => by obtain ⟨_, e'⟩ := im_blk h.o; exact ne_of_ty hg e' (by decide) e, do_ := hd }
theorem CLr.koC (h : CLr w B c s mh mu mo wv) (k : Keep (fun b => b = c) w w') : KO B cp w w' := KO.ofB k fun b e => e ▸ h.kc
theorem CLr.koH (h : CLr w B c s mh mu mo wv) (k : Keep (fun b => b = mh) w w') : KO B cp w w' := KO.ofB k fun b e => e ▸ im_kd h.h h.Bh
theorem CLr.koU (h : CLr w B c s mh mu mo wv) (k : Keep (fun b => b = mu) w w') : KO B cp w w' := KO.ofB k fun b e => e ▸ im_kd h.u h.Bu
theorem CLr.koO (h : CLr w B c s mh mu mo wv) (k : Keep (fun b => b = mo) w w') : KO B cp w w' := KO.ofB k fun b e => e ▸ im_kd h.o h.Bo
theorem CL.keep0 (h : CL w B c s) (k : K0 w w') : CL w' B c s := by obtain ⟨mh, mu, mo, wv, h⟩ := h; exact ⟨mh, mu, mo, wv, h.keep0 k⟩
theorem CLr.lenH (h : CLr w B c s mh mu mo wv) : s.lh.length ≤ 4096 := canon_len (n := 4096) h.h.canon h.dh
theorem CLr.lenU (h : CLr w B c s mh mu mo wv) : s.lu.length ≤ 4096 := canon_len (n := 4096) h.u.canon h.du
theorem CLr.lenO (h : CLr w B c s mh mu mo wv) : s.lo.length ≤ 4096 := canon_len (n := 4096) h.o.canon h.do_
theorem CLr.lenW (h : CLr w B c s mh mu mo wv) : s.lw.length ≤ 4096 := canon_len (n := 4096) h.cw h.dw
theorem Bd.nil {V : Type} (n : Int) : Bd n ([] : List (Pt V)) := fun p hp => by cases hp

def CS.fresh (node : Int) : CS := ⟨node, 0, 0, [], [], [], [], 0, false, false, 0, 0, none⟩
/-- Three new maps. -/
theorem clear_c' {x : Array Value} (hx : blk w c = some (.cells x 65)) (h3 : 6 ≤ x.size)
    (hq : ∀ w' mh mu mo, IM w' mh [] → IM w' mu [] → IM w' mo [] → mh ≠ mu → mh ≠ mo → mu ≠ mo → siz w ≤ mh → siz w ≤ mu → siz w ≤ mo →
      blk w' c = some (.cells (((x.setIfInBounds 3 (.pointer (some ⟨mh, 0, none⟩))).setIfInBounds 4 (.pointer (some ⟨mu, 0, none⟩))).setIfInBounds 5 (.pointer (some ⟨mo, 0, none⟩))) 65) → Keep (fun b => b = c) w w' → Q (.tuple #[]) w') :
    callS Try.prog 29 #[.pointer (some ⟨c, 0, none⟩)] Q w := by
  refine ref29 ?_
  unfold S29
  refine new_c fun w1 m1 k1 => ?_
  refine new_c fun w2 m2 k2 => ?_
  refine new_c fun w3 m3 k3 => ?_
  have m1' := (m1.keep0 k2).keep0 k3
  have m2' := m2.keep0 k3
  have k03 := (k1.trans k2).trans k3
  have hx3 := k03.blk hx id
  have l1 := m1.lt
  have l2 := m2.lt
  have l3 := m3.lt
  have s1 := k1.size
  have s2 := k2.size
  have hc := blk_lt hx
  have b4 := blk_sto (o := 3) (v := .pointer (some ⟨siz w, 0, none⟩)) hx3
  have b5 := blk_sto (o := 4) (v := .pointer (some ⟨siz w1, 0, none⟩)) b4
  have b6 := blk_sto (o := 5) (v := .pointer (some ⟨siz w2, 0, none⟩)) b5
  have i3 : (cel w3 c 3).isSome = true := by rw [cel_b hx3, Array.getElem?_eq_getElem (by omega)]; rfl
  have i4 : (cel (sto w3 c 3 (.pointer (some ⟨siz w, 0, none⟩))) c 4).isSome = true := by rw [cel_b b4, Array.getElem?_eq_getElem (by rw [Array.size_setIfInBounds]; omega)]; rfl
  have i5 : (cel (sto (sto w3 c 3 (.pointer (some ⟨siz w, 0, none⟩))) c 4 (.pointer (some ⟨siz w1, 0, none⟩))) c 5).isSome = true := by rw [cel_b b5, Array.getElem?_eq_getElem (by rw [Array.size_setIfInBounds, Array.size_setIfInBounds]; omega)]; rfl
  simp only [stp, Nat.reduceAdd, Int.reduceLT, Int.reduceLE, Int.reduceEq, Int.reduceNe, ne_eq, bne_self_eq_false, beq_self_eq_true]
  rw [st_63 one_ptr i3 (fre_b hx3)]
  rw [st_63 one_ptr i4 (fre_b b4)]
  rw [st_63 one_ptr i5 (fre_b b5)]
  have k36 : Keep (fun b => b = c) w3 (sto (sto (sto w3 c 3 (.pointer (some ⟨siz w, 0, none⟩))) c 4 (.pointer (some ⟨siz w1, 0, none⟩))) c 5 (.pointer (some ⟨siz w2, 0, none⟩))) := (((Keep.refl (fun b => b = c) w3).sto (.inl rfl) _ _).sto (.inl rfl) _ _).sto (.inl rfl) _ _
  exact hq _ (siz w) (siz w1) (siz w2) (im_keepT m1' hx3 (by decide) (by decide) k36) (im_keepT m2' hx3 (by decide) (by decide) k36) (im_keepT m3 hx3 (by decide) (by decide) k36) (by omega) (by omega) (by omega) (Nat.le_refl _) (by omega) (by omega) b6 (k03.none.trans k36)
theorem cnew_c {node : Int} (hB : B ≤ siz w) (hq : ∀ w', CL w' B (siz w) (CS.fresh node) → K0 w w' → Q (.pointer (some ⟨siz w, 0, none⟩)) w') :
    callS Try.prog 11 #[.int .i64 node] Q w := by
  refine ref11 ?_
  unfold S11
  simp only [stp, Nat.reduceAdd, Int.reduceLT, Int.reduceLE, Int.reduceEq, Int.reduceNe, ne_eq, bne_self_eq_false, beq_self_eq_true, stm]
  refine clear_c' blk_alloc_new (by simp) fun w' mh mu mo h1 h2 h3 n1 n2 n3 b1 b2 b3 hb k => ?_
  have s1 : siz w ≤ siz (w.alloc (.cells #[.int .i64 node, .int .u64 0, .int .i64 0, .pointer none, .pointer none, .pointer none, .slice none 0 0, .int .i64 0, .bool false, .bool false, .int .i64 0, .int .i64 0] 65)) := by rw [siz_alloc]; omega
  refine hq w' ⟨mh, mu, mo, .slice none 0 0, ?_⟩ (((K0.refl w).alloc _).trans' k fun b hb e => by omega)
  exact ⟨hb, h1, h2, h3, n1, n2, n3, hB, by omega, by omega, by omega, WR.nil (fun u hu => by cases hu), one_slice, Canon.nil, (fun p hp => by cases hp), Bd.nil _, Bd.nil _, Bd.nil _, Bd.nil _⟩
theorem cnone_c (h : CL w B c s) (hq : Q (.bool false) w) : callS Try.prog 30 #[.pointer (some ⟨c, 0, none⟩)] Q w := by
  refine ref30 ?_
  unfold S30
  obtain ⟨mh, mu, mo, wv, h⟩ := h
  have h3 : cel w c 3 = some (.pointer (some ⟨mh, 0, none⟩)) := by rw [h.cel]; rfl
  simp only [stp, Nat.reduceAdd, Int.reduceLT, Int.reduceLE, Int.reduceEq, Int.reduceNe, ne_eq, bne_self_eq_false, beq_self_eq_true, stm, h3]
  exact hq
theorem cnone_nil (hq : Q (.bool true) w) : callS Try.prog 30 #[.pointer none] Q w := by
  refine ref30 ?_
  unfold S30
  simp only [stp, Nat.reduceAdd, Int.reduceLT, Int.reduceLE, Int.reduceEq, Int.reduceNe, ne_eq, bne_self_eq_false, beq_self_eq_true, stm]
  exact hq
def CS.joined (s : CS) (epoch gen : Int) : CS := ⟨s.node, epoch, gen, [], [], [], [], s.id, false, false, 0, 0, none⟩
theorem cjoin_c {epoch gen : Int} (h : CL w B c s) (hB : B ≤ siz w) (he : s.epoch < epoch) (hg : 1 ≤ gen) (hq : ∀ w', CL w' B c (s.joined epoch gen) → KO B cp w w' → Q (.bool true) w') :
    callS Try.prog 12 #[.pointer (some ⟨c, 0, none⟩), .int .u64 epoch, .int .i64 gen] Q w := by
  refine ref12 ?_
  unfold S12
  refine cnone_c h ?_
  obtain ⟨mh, mu, mo, wv, h⟩ := h
  have c0 : cel w c 0 = some (.int .i64 s.node) := by rw [h.cel]; rfl
  have c1 : cel w c 1 = some (.int .u64 s.epoch) := by rw [h.cel]; rfl
  have c7 : cel w c 7 = some (.int .i64 (s.id : Int)) := by rw [h.cel]; rfl
  have n1 : ¬ epoch ≤ s.epoch := by omega
  have n2 : ¬ gen < 1 := by omega
  have ci : ∀ o, o < 12 → (cel w.drew c o).isSome = true := fun o ho => by
    rw [cel_drew, h.cel, Array.getElem?_eq_getElem (show o < (s.cells mh mu mo wv).size from ho)]; rfl
  simp only [stp, Nat.reduceAdd, Int.reduceLT, Int.reduceLE, Int.reduceEq, Int.reduceNe, ne_eq, bne_self_eq_false, beq_self_eq_true, stm, c0, c1, c7, n1, n2]
  rw [st_65 one_int one_int one_int one_ptr one_ptr one_ptr one_slice one_int one_bool one_bool one_int one_int (ci 0 (by omega)) (by rw [Nat.zero_add]; exact ci 1 (by omega)) (by rw [Nat.zero_add]; exact ci 2 (by omega)) (by rw [Nat.zero_add]; exact ci 3 (by omega)) (by rw [Nat.zero_add]; exact ci 4 (by omega)) (by rw [Nat.zero_add]; exact ci 5 (by omega)) (by rw [Nat.zero_add]; exact ci 6 (by omega)) (by rw [Nat.zero_add]; exact ci 7 (by omega)) (by rw [Nat.zero_add]; exact ci 8 (by omega)) (by rw [Nat.zero_add]; exact ci 9 (by omega)) (by rw [Nat.zero_add]; exact ci 10 (by omega)) (by rw [Nat.zero_add]; exact ci 11 (by omega)) (fre_b (blk_drew' h.b))]
  have hb0 := blk_drew' h.b
  have kd : Keep (fun b => b = c) w w.drew := (Keep.refl _ w).drew
  generalize w.drew = w0 at hb0 kd
  have hb1 : blk (stoL w0 c 0 [.int .i64 s.node, .int .u64 epoch, .int .i64 gen, .pointer none, .pointer none, .pointer none, .slice none 0 0, .int .i64 (s.id : Int), .bool false, .bool false, .int .i64 0, .int .i64 0]) c = some (.cells #[.int .i64 s.node, .int .u64 epoch, .int .i64 gen, .pointer none, .pointer none, .pointer none, .slice none 0 0, .int .i64 (s.id : Int), .bool false, .bool false, .int .i64 0, .int .i64 0] 65) := by
    exact blk_stoL_all (zs := (s.cells mh mu mo wv).toList) rfl hb0
  have k1 : Keep (fun b => b = c) w (stoL w0 c 0 [.int .i64 s.node, .int .u64 epoch, .int .i64 gen, .pointer none, .pointer none, .pointer none, .slice none 0 0, .int .i64 (s.id : Int), .bool false, .bool false, .int .i64 0, .int .i64 0]) := Keep.stoL _ 0 kd (.inl rfl)
  generalize stoL w0 c 0 [.int .i64 s.node, .int .u64 epoch, .int .i64 gen, .pointer none, .pointer none, .pointer none, .slice none 0 0, .int .i64 (s.id : Int), .bool false, .bool false, .int .i64 0, .int .i64 0] = w1 at hb1 k1
  refine clear_c' hb1 (by simp) fun w' mh mu mo h1 h2 h3 n1 n2 n3 b1 b2 b3 hb k => ?_
  have s1 := k1.size
  try simp only [stp, Nat.reduceAdd, Int.reduceLT, Int.reduceLE, Int.reduceEq, Int.reduceNe, ne_eq, bne_self_eq_false, beq_self_eq_true]
  refine hq w' ⟨mh, mu, mo, .slice none 0 0, ?_⟩ (h.koC (k1.trans k))
  exact ⟨hb, h1, h2, h3, n1, n2, n3, h.Bc, by omega, by omega, by omega, WR.nil (fun u hu => by cases hu), one_slice, Canon.nil, (fun p hp => by cases hp), Bd.nil _, Bd.nil _, Bd.nil _, Bd.nil _⟩
/-- A message's cells. -/
def msgC (kind id node gen stamp epoch err : Int) (lv : Value) : Array Value := #[.int .i64 kind, .int .i64 id, .int .i64 node, .int .i64 gen, .int .i64 stamp, .int .u64 epoch, .int .i64 err, lv]
theorem message_c {kind id node gen stamp epoch err : Int} {lv : Value} (h : CL w B c s) (hl : Go.Sh.one lv = true) (hq : ∀ w', K0 w w' → Q (.agg (msgC kind id node s.gen stamp s.epoch err lv)) w') :
    callS Try.prog 34 #[.pointer (some ⟨c, 0, none⟩), .agg (msgC kind id node gen stamp epoch err lv)] Q w := by
  refine ref34 ?_
  unfold S34
  obtain ⟨mh, mu, mo, wv, h⟩ := h
  unfold msgC
  simp only [act_box, agg_cells]
  generalize hw1 : w.alloc (.cells #[.int .i64 kind, .int .i64 id, .int .i64 node, .int .i64 gen, .int .i64 stamp, .int .u64 epoch, .int .i64 err, lv] 39) = w1
  have b1 : blk w1 (siz w) = some (.cells #[.int .i64 kind, .int .i64 id, .int .i64 node, .int .i64 gen, .int .i64 stamp, .int .u64 epoch, .int .i64 err, lv] 39) := by rw [← hw1]; exact blk_alloc_new
  have k1 : K0 w w1 := by rw [← hw1]; exact (K0.refl w).alloc _
  have s1 : siz w1 = siz w + 1 := by rw [← hw1, siz_alloc]
  simp only [stp, Nat.reduceAdd, Int.reduceLT, Int.reduceLE, Int.reduceEq, Int.reduceNe, ne_eq, bne_self_eq_false, beq_self_eq_true]
  generalize hw2 : w1.alloc (.cells #[.int .i64 0, .int .i64 0, .int .i64 0, .int .i64 0, .int .i64 0, .int .u64 0, .int .i64 0, .slice none 0 0] 39) = w2
  have k2 : K0 w w2 := by rw [← hw2]; exact k1.alloc _
  have b2 : blk w2 (siz w) = some (.cells #[.int .i64 kind, .int .i64 id, .int .i64 node, .int .i64 gen, .int .i64 stamp, .int .u64 epoch, .int .i64 err, lv] 39) := by rw [← hw2, blk_alloc_old (by omega)]; exact b1
  have e2 : blk w2 (siz w1) = some (.cells #[.int .i64 0, .int .i64 0, .int .i64 0, .int .i64 0, .int .i64 0, .int .u64 0, .int .i64 0, .slice none 0 0] 39) := by rw [← hw2]; exact blk_alloc_new
  have h2 := h.keep0 k2
  have hcl := blk_lt h.b
  have c1 : cel w2 c 1 = some (.int .u64 s.epoch) := by rw [h2.cel]; rfl
  have c2 : cel w2 c 2 = some (.int .i64 s.gen) := by rw [h2.cel]; rfl
  refine jn0 (fun w' => K0 w w' ∧ blk w' (siz w) = some (.cells #[.int .i64 kind, .int .i64 id, .int .i64 node, .int .i64 s.gen, .int .i64 stamp, .int .u64 s.epoch, .int .i64 err, lv] 39) ∧ blk w' (siz w1) = some (.cells #[.int .i64 0, .int .i64 0, .int .i64 0, .int .i64 0, .int .i64 0, .int .u64 0, .int .i64 0, .slice none 0 0] 39)) (fun J hJ => ?_) ?_
  · have bd := blk_drew' b2
    have i5 : (cel w2.drew (siz w) 5).isSome = true := by rw [cel_b bd]; rfl
    have fin := hJ (sto (sto w2.drew (siz w) 5 (.int .u64 s.epoch)) (siz w) 3 (.int .i64 s.gen)) ⟨(k2.drew.sto (.inr (Nat.le_refl _)) _ _).sto (.inr (Nat.le_refl _)) _ _, blk_sto (blk_sto bd), by rw [blk_sto_ne (by omega), blk_sto_ne (by omega)]; exact e2⟩
    have bs := blk_sto (o := 5) (v := .int .u64 s.epoch) bd
    have i3 : (cel (sto w2.drew (siz w) 5 (.int .u64 s.epoch)) (siz w) 3).isSome = true := by rw [cel_b bs]; rfl
    have c2' : cel (sto w2.drew (siz w) 5 (.int .u64 s.epoch)) c 2 = some (.int .i64 s.gen) := by rw [cel_sto_ne (by omega)]; exact c2
    simp only [stp, Nat.reduceAdd, Int.reduceLT, Int.reduceLE, Int.reduceEq, Int.reduceNe, ne_eq, bne_self_eq_false, beq_self_eq_true, stm, c1, c2]
    refine ⟨?_, ?_⟩
    · rw [st_32 one_int i5 (fre_b bd)]
      try simp only [stp, Nat.reduceAdd, Int.reduceLT, Int.reduceLE, Int.reduceEq, Int.reduceNe, ne_eq, bne_self_eq_false, beq_self_eq_true]
      rw [st_3 one_int i3 (fre_b bs)]
      exact fin
    · rw [st_32 one_int i5 (fre_b bd)]
      try simp only [stp, Nat.reduceAdd, Int.reduceLT, Int.reduceLE, Int.reduceEq, Int.reduceNe, ne_eq, bne_self_eq_false, beq_self_eq_true]
      rw [ld_3 (by rw [c2']; rfl), c2']
      simp only [stp, Nat.reduceAdd, Int.reduceLT, Int.reduceLE, Int.reduceEq, Int.reduceNe, ne_eq, bne_self_eq_false, beq_self_eq_true, Option.getD_some]
      rw [st_3 one_int i3 (fre_b bs)]
      exact fin
  · rintro w' ⟨k', b', e'⟩ _
    have x : ∀ o, cel w' (siz w) o = #[.int .i64 kind, .int .i64 id, .int .i64 node, .int .i64 s.gen, .int .i64 stamp, .int .u64 s.epoch, .int .i64 err, lv][o]? := fun o => cel_b b' o
    have x0 := x 0
    have x1 := x 1
    have x2 := x 2
    have x3 := x 3
    have x4 := x 4
    have x5 := x 5
    have x6 := x 6
    have x7 := x 7
    have y : ∀ o, o < 8 → (cel w' (siz w1) o).isSome = true := fun o ho => by rw [cel_b e', Array.getElem?_eq_getElem ho]; rfl
    simp only [List.getElem?_toArray, List.getElem?_cons_zero, List.getElem?_cons_succ] at x0 x1 x2 x3 x4 x5 x6 x7
    simp only [stp, Nat.reduceAdd, Int.reduceLT, Int.reduceLE, Int.reduceEq, Int.reduceNe, ne_eq, bne_self_eq_false, beq_self_eq_true, stm, x0, x1, x2, x3, x4, x5, x6, x7]
    rw [st_39 one_int one_int one_int one_int one_int one_int one_int hl (y 0 (by omega)) (by rw [Nat.zero_add]; exact y 1 (by omega)) (by rw [Nat.zero_add]; exact y 2 (by omega)) (by rw [Nat.zero_add]; exact y 3 (by omega)) (by rw [Nat.zero_add]; exact y 4 (by omega)) (by rw [Nat.zero_add]; exact y 5 (by omega)) (by rw [Nat.zero_add]; exact y 6 (by omega)) (by rw [Nat.zero_add]; exact y 7 (by omega)) (fre_b e')]
    have be : blk (stoL w' (siz w1) 0 [.int .i64 kind, .int .i64 id, .int .i64 node, .int .i64 s.gen, .int .i64 stamp, .int .u64 s.epoch, .int .i64 err, lv]) (siz w1) = some (.cells #[.int .i64 kind, .int .i64 id, .int .i64 node, .int .i64 s.gen, .int .i64 stamp, .int .u64 s.epoch, .int .i64 err, lv] 39) := by
      exact blk_stoL_all (zs := [.int .i64 0, .int .i64 0, .int .i64 0, .int .i64 0, .int .i64 0, .int .u64 0, .int .i64 0, .slice none 0 0]) rfl e'
    have ke : K0 w (stoL w' (siz w1) 0 [.int .i64 kind, .int .i64 id, .int .i64 node, .int .i64 s.gen, .int .i64 stamp, .int .u64 s.epoch, .int .i64 err, lv]) := Keep.stoL _ 0 k' (.inr (by omega))
    generalize stoL w' (siz w1) 0 [.int .i64 kind, .int .i64 id, .int .i64 node, .int .i64 s.gen, .int .i64 stamp, .int .u64 s.epoch, .int .i64 err, lv] = w9 at be ke
    have z : ∀ o, cel w9 (siz w1) o = #[.int .i64 kind, .int .i64 id, .int .i64 node, .int .i64 s.gen, .int .i64 stamp, .int .u64 s.epoch, .int .i64 err, lv][o]? := fun o => cel_b be o
    have z0 := z 0
    have z1 := z 1
    have z2 := z 2
    have z3 := z 3
    have z4 := z 4
    have z5 := z 5
    have z6 := z 6
    have z7 := z 7
    simp only [List.getElem?_toArray, List.getElem?_cons_zero, List.getElem?_cons_succ] at z0 z1 z2 z3 z4 z5 z6 z7
    simp only [stp, Nat.reduceAdd, Int.reduceLT, Int.reduceLE, Int.reduceEq, Int.reduceNe, ne_eq, bne_self_eq_false, beq_self_eq_true, stm, z0, z1, z2, z3, z4, z5, z6, z7]
    exact hq _ ke
/-- What is needed still. -/
def CS.need (s : CS) : BF := fun x => needF (valB s.lw x) (valB s.lh x)
theorem cneeds_c (h : CL w B c s) (hq : ∀ w' v' l', Canon l' → (∀ x, valB l' x = s.need x) → l'.length ≤ 4096 → okM l' → Own w' (siz w) 25 3 v' (asLocks l').length (flat enc3 (asLocks l')) → K0 w w' → Q v' w') :
    callS Try.prog 32 #[.pointer (some ⟨c, 0, none⟩)] Q w := by
  refine ref32 ?_
  unfold S32
  obtain ⟨mh, mu, mo, wv, h⟩ := h
  have c3 : cel w c 3 = some (.pointer (some ⟨mh, 0, none⟩)) := by rw [h.cel]; rfl
  have c6 : cel w c 6 = some wv := by rw [h.cel]; rfl
  have kd : K0 w w.drew := (K0.refl w).drew
  simp only [stp, Nat.reduceAdd, Int.reduceLT, Int.reduceLE, Int.reduceEq, Int.reduceNe, ne_eq, bne_self_eq_false, beq_self_eq_true, stm, c3, c6]
  have h' := h.keep0 kd
  refine needs_c (.inr ⟨mh, rfl, h'.h⟩) (by have := h.lenH; omega) h'.wr.1.1 (by rw [asLocks_len]; have := h.lenW; omega) fun w1 v1 l1 hc1 hv1 hl1 o1 k1 => ?_
  have e := askF_asLocks h.cw h.mw
  have hd : Bd 4096 l1 := bd_of_val hc1 fun x hx => by
    rw [hv1, e, val_of_bd h.dw hx]; rfl
  refine hq w1 v1 l1 hc1 (fun x => by rw [hv1, e]; rfl) (canon_len (n := 4096) hc1 hd) (fun p hp => ?_) o1 (kd.trans k1.old')
  have ho := hc1.1 p hp
  have := valB_mem hc1.apart hp ⟨ho, Int.le_refl _, ho.2⟩
  rw [hv1] at this
  cases ha : askF (asLocks s.lw) p.1.1 with
  | none => rw [ha] at this; cases this
  | some md =>
    rw [ha] at this
    have hmd := askF_mode ha
    cases hh : valB s.lh p.1.1 with
    | none => rw [hh, needF_none] at this; injection this with this; omega
    | some hv =>
      rw [hh, needF_some] at this
      split at this
      · cases this
      · injection this with this; omega
end
end Go.Proofs.Ytknklmemadediaa
