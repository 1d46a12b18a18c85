/- Histories: blocks' bytes; images and events made; the first call. Conditions: as each says. -/
import Derived.Test.YtmmnifbponhhfaaGreatTHistF
set_option linter.unusedSimpArgs false
set_option linter.unusedVariables false
namespace Go.Proofs.YtmmnifbponhhfaaGreatT
open Go.Sh Go.Sh.Hi
set_option maxRecDepth 100000
section
variable {w w' : World} {Q : Value → World → Prop} {l : List Ev} {v : Value}
theorem repeatL_one (n : Nat) : Lib.repeatL [0] n = List.replicate n (0 : UInt8) := by
  induction n with
  | zero => rfl
  | succ n ih => rw [Lib.repeatL, ih]; rfl
theorem str_zeros (n : Nat) : strOfNums (List.replicate n (0 : Int)) = zeros n := by
  unfold strOfNums zeros
  rw [List.map_replicate, repeatL_one]; rfl
/-- A block's bytes: one, and then zeros. -/
def oneD (x : Int) : ByteArray := strOfNums (x :: List.replicate 95 0)
def hd (s : ByteArray) : Option UInt8 := s.data[0]?
theorem hd_zero : hd Z96 = some 0 := by
  unfold hd Z96
  rw [← str_zeros]; rfl
theorem hd_one (x : Int) : hd (oneD x) = some (UInt8.ofNat x.toNat) := rfl
theorem hd_app (c : UInt8) (t : ByteArray) : hd (⟨#[c]⟩ ++ t) = some c := by
  unfold hd
  rw [ByteArray.data_append, Array.getElem?_append_left (by simp)]
  rfl
theorem repD (n i : Nat) : (List.replicate n (0 : Int)).getD i 0 = 0 := by
  rw [List.getD_eq_getElem?_getD, List.getElem?_replicate]
  split <;> rfl
theorem oneD_size (x : Int) : (oneD x).size = 96 := by unfold oneD; rw [strOfNums_size]; rfl
theorem oneD_ne {x : Int} (h : 0 < x) (h' : x < 256) : Z96 ≠ oneD x := fun e => by
  have e1 := congrArg hd e
  rw [hd_zero, hd_one] at e1
  injection e1 with e1
  have e2 := congrArg UInt8.toNat e1
  rw [UInt8.toNat_ofNat'] at e2
  have : (0 : UInt8).toNat = 0 := rfl
  rw [this] at e2
  have h3 : x.toNat % 2 ^ 8 = x.toNat := Nat.mod_eq_of_lt (by omega)
  omega
theorem strFrom {T : TypeId} {P : Program} {s : ByteArray} {n : Nat} {k : Value → Prop} (hT : ∀ w, (underlying T).run P w = .ok .string w) (h : n ≤ s.size) :
    pur P (Instr.sliceAt T (.string s) (some (.int .i64 (n : Int))) none none) k = k (.string (s.extract n s.size)) := pur_eq fun w => by
  simp [Instr.sliceAt, hT, Instr.slice, Instr.sliceBounds, Instr.sliceBound, asIntOf, h]
theorem pur_sadd {P : Program} {ty : TypeId} {x y : Bool} {s u : ByteArray} {k : Value → Prop} (h : s.size + u.size ≤ 9223372036854775807) : pur P (binS .add ty x y (.string s) (.string u)) k = k (.string (s ++ u)) := pur_eq fun w => by
  have h' : (s.size : Int) + (u.size : Int) ≤ 9223372036854775807 := by omega
  simp [binS, eqG_str, binOp, Op.stringOp, h']
/-- Bytes that were made, as a text. -/
theorem conv_bytes {b n c : Nat} {xs : List Int} {K : Value → World → Prop} (hl : xs.length = n) (hc : ∀ i, i < n → Sh.cel w b i = some (.int .u8 (xs.getD i 0))) :
    act Tryz.prog (convert 67 9 (.slice (some ⟨b, 0, none⟩) n c)) K w = K (.string (strOfNums xs)) w :=
  act_eq (run_convert_bytes_arg _ 67 5 Tryz.underlying67 Tryz.underlying5 b 0 n c xs hl (fun i hi => by rw [cell_cel, Nat.zero_add]; exact hc i hi) 9 Tryz.underlying9)
theorem mk_zeros {K : Value → World → Prop} (hK : ∀ w' g, K0 w w' → siz w ≤ g → Sh.Own w' (siz w) 5 1 (.slice (some ⟨g, 0, none⟩) 96 96) 96 (List.replicate 96 (.int .u8 0)) → K (.slice (some ⟨g, 0, none⟩) 96 96) w') :
    act Tryz.prog (Instr.makeSlice 67 (.int .i64 96) (.int .i64 96)) K w :=
  mk_67 (n := 96) (base := siz w) (by omega) (Nat.le_refl _) fun w1 o1 k1 _ => hK w1 (siz w) k1 (Nat.le_refl _) o1
/-- The text of zeros. -/
theorem conv_zeros {g : Nat} {B : Nat} {K : Value → World → Prop} (o : Sh.Own w B 5 1 (.slice (some ⟨g, 0, none⟩) 96 96) 96 (List.replicate 96 (.int .u8 0))) (hK : K (.string Z96) w) :
    act Tryz.prog (convert 67 9 (.slice (some ⟨g, 0, none⟩) 96 96)) K w := by
  rw [conv_bytes (xs := List.replicate 96 0) (by simp) (fun i hi => by
    obtain ⟨g', c, e, _, _, _, _, _, hc⟩ := o.at (by omega)
    injection e with e1 _ e2
    injection e1 with e1
    injection e1 with e1
    subst e1
    rw [hc i (by omega), List.getElem?_replicate, if_pos (by omega), repD]), str_zeros]
  exact hK
abbrev agI (i : Im) : Value := .agg #[.int .i64 i.1, .int .u64 i.2.1, .string i.2.2]
theorem one_c {n x : Int} (hq : ∀ w', K0 w w' → Q (agI (n, x, oneD (IntKind.u8.wrap n))) w') : callS Tryz.prog 21 #[.int .i64 n, .int .u64 x] Q w := by
  refine ref21 ?_
  unfold S21
  simp only [stp, Nat.reduceAdd, Int.reduceLT, Int.reduceLE, Int.reduceEq, Int.reduceNe, ne_eq, bne_self_eq_false, beq_self_eq_true, stm]
  have k1 := (K0.refl w).alloc (.cells #[.int .i64 0, .int .u64 0, .string ⟨#[]⟩] tIm)
  have b1 : Sh.blk (w.alloc (.cells #[.int .i64 0, .int .u64 0, .string ⟨#[]⟩] tIm)) (siz w) = some (.cells #[.int .i64 0, .int .u64 0, .string ⟨#[]⟩] tIm) := blk_alloc_new
  have s1 : siz (w.alloc (.cells #[.int .i64 0, .int .u64 0, .string ⟨#[]⟩] tIm)) = siz w + 1 := siz_alloc
  generalize w.alloc (.cells #[.int .i64 0, .int .u64 0, .string ⟨#[]⟩] tIm) = w1 at k1 b1 s1
  generalize hb : siz w = bx at b1 s1
  refine mk_zeros fun w2 g k2 hg o2 => ?_
  obtain ⟨g', c, e, _, _, _, _, fg, hc⟩ := o2.at (by omega)
  injection e with e1 _ e2
  injection e1 with e1
  injection e1 with e1
  subst e1
  have ix0 : ∀ {k' : Value → Prop}, pur Tryz.prog (Instr.indexAt 67 (.slice (some ⟨g, 0, none⟩) 96 96) (.int .i64 0)) k' = k' (.pointer (some ⟨g, 0, none⟩)) := by
    intro k'
    exact ix_67 (i := 0) (b := g) (o := 0) (c := 96) (k := k') (kd := .i64) (by omega)
  have hg0 : (Sh.cel w2 g 0).isSome = true := by rw [hc 0 (by omega)]; rfl
  simp only [stp, Nat.reduceAdd, Int.reduceLT, Int.reduceLE, Int.reduceEq, Int.reduceNe, ne_eq, bne_self_eq_false, beq_self_eq_true, stm, ix0, hg0, fg]
  have o3 := o2.set (x := .int .u8 (IntKind.u8.wrap n)) (j := 0) (by omega)
  have k3 : K0 w (sto w2 g 0 (.int .u8 (IntKind.u8.wrap n))) := (k1.trans k2).sto (.inr (by omega)) _ _
  have b3 : Sh.blk (sto w2 g 0 (.int .u8 (IntKind.u8.wrap n))) bx = some (.cells #[.int .i64 0, .int .u64 0, .string ⟨#[]⟩] tIm) := by
    rw [blk_sto_ne (by omega)]; exact k2.blk b1 id
  generalize sto w2 g 0 _ = w3 at o3 k3 b3
  rw [conv_bytes (xs := IntKind.u8.wrap n :: List.replicate 95 0) (by simp) (fun i hi => by
    obtain ⟨g', c, e, _, _, _, _, _, hc⟩ := o3.at (by omega)
    injection e with e1 _ e2
    injection e1 with e1
    injection e1 with e1
    subst e1
    rw [hc i (by omega)]
    cases i with
    | zero => rfl
    | succ i => rw [List.getElem?_set_ne (by omega), List.getElem?_replicate, if_pos (by omega), List.getD_cons_succ, repD])]
  have q : ∀ o, (Sh.cel w3 bx o) = (#[.int .i64 0, .int .u64 0, .string ⟨#[]⟩] : Array Value)[o]? := fun o => cel_b b3 o
  rw [bd_69_0_1_2 one_int one_int one_str, st_69 one_int one_int one_str (by rw [q]; rfl) (by rw [q]; rfl) (by rw [q]; rfl) (fre_b b3)]
  have b4 : Sh.blk (stoL w3 bx 0 (encM (n, x, oneD (IntKind.u8.wrap n)))) bx = some (.cells (encM (n, x, oneD (IntKind.u8.wrap n))).toArray tIm) := blk_stoL_all (zs := [.int .i64 0, .int .u64 0, .string ⟨#[]⟩]) (xs := encM (n, x, oneD (IntKind.u8.wrap n))) rfl b3
  have k4 : K0 w (stoL w3 bx 0 (encM (n, x, oneD (IntKind.u8.wrap n)))) := k3.stoL _ 0 (.inr (by omega))
  have q4 : ∀ o, Sh.cel (stoL w3 bx 0 (encM (n, x, oneD (IntKind.u8.wrap n)))) bx o = (encM (n, x, oneD (IntKind.u8.wrap n)))[o]? := fun o => by rw [cel_b b4 o]; simp
  rw [show stoL w3 bx 0 [Value.int IntKind.i64 n, Value.int IntKind.u64 x, Value.string (strOfNums (IntKind.u8.wrap n :: List.replicate 95 0))] = stoL w3 bx 0 (encM (n, x, oneD (IntKind.u8.wrap n))) from rfl]
  generalize stoL w3 bx 0 (encM (n, x, oneD (IntKind.u8.wrap n))) = u4 at k4 q4 ⊢
  rw [ld_69 (by rw [q4]; rfl) (by rw [q4]; rfl) (by rw [q4]; rfl)]
  simp only [Nat.zero_add, q4, encM, List.getElem?_cons_zero, List.getElem?_cons_succ, Option.getD_some]
  exact hq u4 k4
/-! ### images and events that are made -/
theorem bld_im {i : Im} {K : Value → World → Prop} (h : ∀ u' v, K0 w u' → Rd 3 u' v 1 (flat encM [i]) → Go.Sh.one v = true → K v u') : act Tryz.prog (Instr.buildSlice 53 1 #[(0, agI i)]) K w := by
  rw [show agI i = .agg #[.int .i64 i.1, .int .u64 i.2.1, .string i.2.2] from rfl, bs_53]
  exact h _ _ ((K0.refl w).alloc _) ⟨rfl, .inr ⟨siz w, 0, 1, rfl, by omega, fun j hj => by rw [Nat.zero_add, cel_alloc_new]; simp [flat]⟩⟩ rfl
theorem bld_ev {e : Ev} {K : Value → World → Prop} (h : ∀ u' v, K0 w u' → Rd 6 u' v [e].length (flat encE [e]) → K v u') : act Tryz.prog (Instr.buildSlice 22 1 #[(0, agE e)]) K w := by
  rw [show agE e = .agg #[.int .i64 e.kind, .int .i64 e.node, .int .u64 e.epoch, .int .u64 e.lsn, e.rv, e.wv] from rfl, bs_22]
  exact h _ _ ((K0.refl w).alloc _) ⟨rfl, .inr ⟨siz w, 0, 1, rfl, by simp, fun j hj => by rw [Nat.zero_add, cel_alloc_new]; simp [flat]⟩⟩
theorem bld_ev3 {e f g : Ev} {K : Value → World → Prop} (h : ∀ u' v, K0 w u' → Rd 6 u' v [e, f, g].length (flat encE [e, f, g]) → K v u') : act Tryz.prog (Instr.buildSlice 22 3 #[(0, agE e), (1, agE f), (2, agE g)]) K w := by
  rw [show agE e = .agg #[.int .i64 e.kind, .int .i64 e.node, .int .u64 e.epoch, .int .u64 e.lsn, e.rv, e.wv] from rfl, show agE f = .agg #[.int .i64 f.kind, .int .i64 f.node, .int .u64 f.epoch, .int .u64 f.lsn, f.rv, f.wv] from rfl, show agE g = .agg #[.int .i64 g.kind, .int .i64 g.node, .int .u64 g.epoch, .int .u64 g.lsn, g.rv, g.wv] from rfl, bz_22_3]
  exact h _ _ ((K0.refl w).alloc _) ⟨rfl, .inr ⟨siz w, 0, 3, rfl, by simp, fun j hj => by rw [Nat.zero_add, cel_alloc_new]; simp [flat]⟩⟩
/-- No images. -/
theorem no_im : Rd 3 w (.slice none 0 0) ([] : List Im).length (flat encM []) := Rd.nil _ _
/-- An event of a few images. -/
theorem EvR.mk' {k n : Int} {e ls : Nat} {rv wv : Value} {rd wr : List Im} (he : e ≤ 1000000) (hls : ls ≤ 1000000) (hr : Rd 3 w rv rd.length (flat encM rd)) (hw : Rd 3 w wv wr.length (flat encM wr)) (h1 : rd.length ≤ 100) (h2 : wr.length ≤ 100)
    (hf : ∀ i ∈ wr, (0 ≤ i.1 ∧ i.1 ≤ 1000000) ∧ i.2.2.size ≤ 1000000) : EvR w ⟨k, n, (e : Int), (ls : Int), rv, wv, rd, wr⟩ where
  r := hr
  q := hw
  lr := h1
  lw := h2
  ep := ⟨by dsimp only; omega, by dsimp only; omega⟩
  ls := ⟨by dsimp only; omega, by dsimp only; omega⟩
  wf := fun i hi => ⟨by
    have := (hf i hi).1
    simp only [Lit.wf, IntKind.min, IntKind.max, IntKind.signed, IntKind.bits]
    simp
    omega, (hf i hi).2⟩
end
end Go.Proofs.YtmmnifbponhhfaaGreatT
