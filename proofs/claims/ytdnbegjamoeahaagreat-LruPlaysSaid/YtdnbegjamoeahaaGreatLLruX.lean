/- The cache and the document's own one, side by side: keys; a zero cache. Conditions: as each says. -/
import Derived.Test.YtdnbegjamoeahaaGreatLLruW
import Derived.Test.YtdnbegjamoeahaaGreatLLruIiG
import Derived.Test.YtdnbegjamoeahaaGreatLLruIiM
import Derived.Test.YtdnbegjamoeahaaGreatLLruIiD
set_option linter.unusedSimpArgs false
set_option linter.unusedVariables false
namespace Go.Proofs.YtdnbegjamoeahaaGreatL
open Go.Sh Go.Sh.Lru Go.Proofs.YtdnbegjamoeahaaGreatL.Lii
set_option maxRecDepth 100000
section
variable {w w' : World} {Q : Value → World → Prop} {B c r mb room : Nat} {sl : Value} {S A C : List Sl} {s : Sl} {x : Int} {L : List Nd}
theorem rput_hit {v : Int} (h : RL w B r sl (A ++ s :: C) room) (hB : B ≤ siz w) (hS : (A ++ s :: C).length ≤ 90000) (hs : s.1 = x) (hA : ∀ a ∈ A, a.1 ≠ x)
    (hq : ∀ w' sl', RL w' B r sl' ((x, v, s.2.2) :: (A ++ C)) room → (∀ g, sl'.ownBlock = some g → siz w ≤ g) → Keep (fun g => g = r) w w' → Q (.tuple #[.int .i64 0, .int .i64 0, .bool false, .bool true]) w') :
    callS Tryz.prog 17 #[.pointer (some ⟨r, 0, none⟩), .int .i64 x, .int .i64 v] Q w := by
  refine ref17 ?_
  unfold S17
  refine rfind_hit h (by omega) hs hA ?_
  have hlen : (A ++ s :: C).length = A.length + 1 + C.length := by simp; omega
  have hge : (0 : Int) ≤ (A.length : Int) := by omega
  have c0 : Sh.cel w r 0 = some sl := cel_b h.c 0
  simp only [pur_geq, decide_eq_true hge, condS_true, pur_nil, fa_30_0]
  rw [ld_28 (by rw [c0]; rfl), c0, Option.getD_some]
  refine rcopy h (by omega) fun w1 v1 k1 o1 => ?_
  refine rsto (h.keep0 k1) o1 hB fun w2 h2 k2 s2 => ?_
  have c02 : Sh.cel w2 r 0 = some v1 := cel_b h2.c 0
  rw [ld_28 (by rw [c02]; rfl), c02, Option.getD_some]
  obtain ⟨g, cp, rfl, hgb, _, _, _, hfg, hc⟩ := o1.at (by omega)
  rw [ix_28 (by omega)]
  have h2' := RL.setf (s' := (s.1, v, s.2.2)) (j := 1) (v := .int .i64 v) h2 (by omega) rfl
  have i2 : (Sh.cel w2 g (A.length * 3 + 1)).isSome = true := by
    obtain ⟨_, _, e, _, _, _, _, _, hc2⟩ := h2.o.at (by omega)
    injection e with e
    injection e with e
    injection e with e
    subst e
    have := (slots_at (b := g) (o := 0) (S := A ++ s :: C) (fun j hj => by rw [Nat.zero_add]; exact hc2 j hj) (i := A.length) (p := s) (by simp)).2.1
    rw [Nat.zero_add] at this
    rw [this]; rfl
  rw [fa_62_1, Nat.zero_add, st_3 one_int i2 (h2.o.fre rfl)]
  have s1 := k1.size
  refine ruse_c h2'.1 (by rw [siz_sto]; omega) (by omega) fun w4 sl4 h4 hf4 k4 => ?_
  rw [siz_sto] at hf4
  have : ((s.1, v, s.2.2) : Sl) = (x, v, s.2.2) := by rw [hs]
  rw [this] at h4
  exact hq w4 sl4 h4 (fun q hq => by have := hf4 q hq; omega) (((k1.none.trans k2).trans' h2'.2 fun q hq e => by have e : q = g := e; omega).trans k4)
/-! ### keys -/
theorem keys_c (h : Rep isI64 B w c mb room L) (hk : ∀ n ∈ L, ∃ i, n.k = .int .i64 i) (hq : ∀ w' v', Sh.Own w' (siz w) 3 1 v' L.length (L.map Nd.k) → K0 w w' → Q v' w') :
    callS Tryz.prog 25 #[.pointer (some ⟨c, 0, none⟩)] Q w := by
  refine ref25 ?_
  unfold S25
  refine len_c h ?_
  have hbig := h.big
  have hlen := h.len
  by_cases h0 : L = []
  · subst h0
    simp only [stp, Nat.reduceAdd, Int.reduceLT, Int.reduceLE, Int.reduceEq, Int.reduceNe, ne_eq, bne_self_eq_false, beq_self_eq_true, stm, List.length_nil, Int.ofNat_zero]
    exact hq _ _ (Own.nil _ _ _ _) (K0.refl _)
  have hpos : 0 < L.length := List.length_pos_iff.2 h0
  have hn0 : ¬ ((L.length : Int) = 0) := by omega
  obtain ⟨y, rr, hy⟩ := begins ((c, 1) : Pl) (L.map Nd.pl)
  have hl := (Rep.link (A := []) (C := L) (by simpa using h) (i := []) (x := (c, 1)) rfl hy).1
  simp only [ptr, Nat.reduceAdd] at hl
  simp only [stp, Nat.reduceAdd, Int.reduceLT, Int.reduceLE, Int.reduceEq, Int.reduceNe, ne_eq, bne_self_eq_false, beq_self_eq_true, stm, hn0, hl, Option.isSome_some, Option.getD_some]
  refine lp2 (fun m v z w' => K0 w w' ∧ ∃ A C y r, L = A ++ C ∧ C.length = m ∧ C.map Nd.pl ++ [((c, 1) : Pl)] = y :: r ∧ z = .pointer (some ⟨y.1, y.2, none⟩) ∧ Sh.Own w' (siz w) 3 1 v A.length (A.map Nd.k)) L.length
    ⟨K0.refl _, [], L, y, rr, rfl, rfl, hy, rfl, Own.nil _ _ _ _⟩ ?_
  rintro m v z w1 ⟨k1, A, C, y1, r1, rfl, hm, hy1, rfl, o1⟩ J hJ _j
  have h1 := h.keep k1 fun _ _ => id
  have my : y1 ∈ ((c, 1) : Pl) :: (A ++ C).map Nd.pl := by
    have : y1 ∈ C.map Nd.pl ++ [((c, 1) : Pl)] := by rw [hy1]; simp
    rw [List.mem_append, List.mem_singleton] at this
    rw [List.mem_cons, List.map_append, List.mem_append]
    rcases this with h | h
    · exact .inr (.inr h)
    · exact .inl h
  have fy := h1.pl_fre my
  have fc := h1.fc
  cases C with
  | nil =>
    have : y1 = (c, 1) := by simp at hy1; exact hy1.1.symm
    subst this
    simp only [stp, Nat.reduceAdd, Int.reduceLT, Int.reduceLE, Int.reduceEq, Int.reduceNe, ne_eq, bne_self_eq_false, beq_self_eq_true, stm, fy, fc, and_self, not_true_eq_false, decide_false]
    rw [List.append_nil] at hq
    exact hq _ _ o1 k1
  | cons n C =>
    have : y1 = n.pl := by simp at hy1; exact hy1.1.symm
    subst this
    have hnn := h1.node n (by simp)
    have hnc : ¬ (n.b = c ∧ (0 : Nat) = 1) := by omega
    obtain ⟨kk, hkk⟩ := hk n (by simp)
    have ck : Sh.cel w1 n.b 0 = some n.k := hnn.k
    have fy : Sh.fre w1 n.b = true := fy
    rw [hkk] at ck
    obtain ⟨i', x', hix'⟩ := ends ((c, 1) : Pl) (A.map Nd.pl)
    obtain ⟨z, rz, hz⟩ := begins ((c, 1) : Pl) (C.map Nd.pl)
    simp only [stp, Nat.reduceAdd, Int.reduceLT, Int.reduceLE, Int.reduceEq, Int.reduceNe, ne_eq, bne_self_eq_false, beq_self_eq_true, stm, Nd.pl, fy, fc, hnc, not_false_eq_true, decide_true, ck, Option.isSome_some, Option.getD_some]
    have hlA : (A ++ n :: C).length = A.length + 1 + C.length := by simp; omega
    refine pu_65 o1 (fun u hu => by rw [List.mem_singleton.1 hu]; rfl) (by omega) k1.size fun v' w2 o2 k2 r2 => ?_
    have k02 : K0 w w2 := k1.trans' k2 fun q hq e => by have := (Sh.Own.lt o1 e).1; omega
    have h2 := h.keep k02 fun _ _ => id
    have hl2 := (Rep.link (A := A ++ [n]) (C := C) (by simpa using h2) (i := ((c, 1) : Pl) :: A.map Nd.pl) (x := n.pl) (by simp) hz).1
    simp only [ptr, Nd.pl, Nat.zero_add] at hl2
    simp only [stp, Nat.reduceAdd, Int.reduceLT, Int.reduceLE, Int.reduceEq, Int.reduceNe, ne_eq, bne_self_eq_false, beq_self_eq_true, stm, hl2, Option.isSome_some, Option.getD_some]
    refine hJ C.length _ _ _ (by simp at hm; omega) ⟨k02, A ++ [n], C, z, rz, by simp, rfl, hz, rfl, ?_⟩
    rw [List.length_append, List.length_singleton, List.map_append, List.map_singleton, hkk]
    exact o2
/-! ### a zero cache -/
/-- A cache that nobody has made. -/
def ZC (w : World) (c : Nat) : Prop := blk w c = some (.cells #[.map none, .int .i64 0, .int .i64 0, .int .i64 0, .pointer none, .pointer none, .int .i64 0] 36)
theorem zfind_c (h : ZC w c) (hq : Q (.pointer none) w) : callS Tryz.prog 115 #[.pointer (some ⟨c, 0, none⟩), .int .i64 x] Q w := by
  refine ref115 ?_
  unfold S115
  have c0 : Sh.cel w c 0 = some (.map none) := cel_b h 0
  simp only [stp, Nat.reduceAdd, Int.reduceLT, Int.reduceLE, Int.reduceEq, Int.reduceNe, ne_eq, bne_self_eq_false, beq_self_eq_true, stm, c0, Option.isSome_some, Option.getD_some]
  rw [rd_eq (lun_31 (w := w) ⟨x, rfl⟩ false)]
  simp only [Bool.false_eq_true, if_false]
  exact hq
theorem zroom_c (h : ZC w c) (hq : Q (.int .i64 0) w) : callS Tryz.prog 29 #[.pointer (some ⟨c, 0, none⟩)] Q w := by
  refine ref29 ?_
  unfold S29
  have c6 : Sh.cel w c 6 = some (.int .i64 0) := cel_b h 6
  simp only [stp, Nat.reduceAdd, Int.reduceLT, Int.reduceLE, Int.reduceEq, Int.reduceNe, ne_eq, bne_self_eq_false, beq_self_eq_true, stm, c6, Option.isSome_some, Option.getD_some]
  exact hq
end
end Go.Proofs.YtdnbegjamoeahaaGreatL
