/- The book of lists, one kind: one more list; are they as they were; marks; what grows. Conditions: as each says. -/
import Derived.Test.YtndjohbbaplekaaGreatXBookKLocks
set_option linter.unusedSimpArgs false
set_option linter.unusedVariables false
namespace Go.Proofs.YtndjohbbaplekaaGreatX.BkLocks
open Go.Sh Go.Proofs.YtndjohbbaplekaaGreatX
set_option maxRecDepth 100000
abbrev tBk : TypeId := 51
abbrev KsX (w : World) (B : Nat) (f : Nat → Value) (ps qs : List (Value × List I3)) : Prop := KS w B 109 143 3 enc 100000 (f 8) (f 9) ps qs
section
variable {w w' : World} {Q : Value → World → Prop} {b B : Nat} {f : Nat → Value} {ps qs : List (Value × List I3)}
theorem same_get (h : ps.map (·.2) = qs.map (·.2)) {i : Nat} (hi : i < ps.length) (hi' : i < qs.length) : ps[i].2 = qs[i].2 := by
  have e : (ps.map (·.2))[i]'(by simpa using hi) = (qs.map (·.2))[i]'(by simpa using hi') := by simp only [h]
  simpa using e
theorem still_c (hb : BkC tBk w b f) (h : KsX w B f ps qs) (hq : ∀ w', K0 w w' → Q (.bool true) w') :
    callS Tryz.prog 106 #[.pointer (some ⟨b, 0, none⟩)] Q w := by
  refine ref106 ?_
  unfold S106
  have hle := h.le
  have hlen := h.len
  refine lpc1 ps.length (by omega) (fun i w' => K0 w w') (K0.refl _) (fun i w1 hi k1 J hJ => ?_) (fun w1 k1 J => ?_)
  · intro _j
    have hi' : ((i : Int) < (ps.length : Int)) := by omega
    have hb1 := hb.keep k1.drew id
    have h1 := h.keep0 k1.drew
    obtain ⟨g, o, c, e, hc⟩ := h1.p.rd.at hi
    obtain ⟨g', o', c', e', hc'⟩ := h1.q.rd.at (show i < qs.length by omega)
    have cF : Sh.cel w1 b 8 = some (.slice (some ⟨g, o, none⟩) ps.length c) := by have := hb1.cel (o := 8) (by decide); rw [e] at this; exact this
    have cG : Sh.cel w1 b 9 = some (.slice (some ⟨g', o', none⟩) qs.length c') := by have := hb1.cel (o := 9) (by decide); rw [e'] at this; exact this
    have hc : Sh.cel w1 g (o + i) = some ps[i].1 := hc
    have hc' : Sh.cel w1 g' (o' + i) = some qs[i].1 := hc'
    simp only [stp, Nat.reduceAdd, Int.reduceLT, Int.reduceLE, Int.reduceEq, Int.reduceNe, ne_eq, bne_self_eq_false, beq_self_eq_true, stm, cel_drew, cF, cG, hi', Option.isSome_some, Option.getD_some]
    rw [ix_39 hi]
    simp only [stp, Nat.reduceAdd, Int.reduceLT, Int.reduceLE, Int.reduceEq, Int.reduceNe, ne_eq, bne_self_eq_false, beq_self_eq_true, stm, cel_drew, hc, cF, cG, Option.isSome_some, Option.getD_some]
    rw [ix_39 (show i < qs.length by omega)]
    simp only [stp, Nat.reduceAdd, Int.reduceLT, Int.reduceLE, Int.reduceEq, Int.reduceNe, ne_eq, bne_self_eq_false, beq_self_eq_true, stm, cel_drew, hc', cF, cG, Option.isSome_some, Option.getD_some]
    have es : ps[i].2 = qs[i].2 := same_get h.same hi (by omega)
    have hbd := h.bd _ (List.getElem_mem hi)
    refine same_c (h1.p.get hi).rd (h1.q.get (show i < qs.length by omega)).rd (by omega) fun w2 k2 => ?_
    simp only [stp, Nat.reduceAdd, Int.reduceLT, Int.reduceLE, Int.reduceEq, Int.reduceNe, ne_eq, bne_self_eq_false, beq_self_eq_true, stm, es, decide_true]
    exact hJ _ (k1.drew.trans k2)
  · intro _j
    obtain ⟨pa, c, e⟩ := h.p.rd.form
    have cF : Sh.cel w1 b 8 = some (.slice pa ps.length c) := by have := (hb.keep k1 id).cel (o := 8) (by decide); rw [e] at this; exact this
    have hi' : ¬ ((ps.length : Int) < (ps.length : Int)) := by omega
    simp only [stp, Nat.reduceAdd, Int.reduceLT, Int.reduceLE, Int.reduceEq, Int.reduceNe, ne_eq, bne_self_eq_false, beq_self_eq_true, stm, cF, hi', Option.isSome_some, Option.getD_some]
    exact hq _ k1
/-- The lists of kind, each with its marks. -/
def mpx (i : Nat) (ps : List (Value × List I3)) : List (Value × List I3) := ps.mapIdx fun j p => (p.1, if j < i then mks j 0 p.2.length else p.2)
theorem mpx_len (i : Nat) : (mpx i ps).length = ps.length := by simp [mpx]
theorem mpx_get {i j : Nat} (hj : j < ps.length) : (mpx i ps)[j]'(by rw [mpx_len]; exact hj) = (ps[j].1, if j < i then mks j 0 ps[j].2.length else ps[j].2) := by simp [mpx]
theorem mpx_zero : mpx 0 ps = ps := by
  apply List.ext_getElem (mpx_len 0)
  intro j h1 h2
  rw [mpx_get h2, if_neg (by omega)]
theorem mpx_set {i : Nat} (hi : i < ps.length) : (mpx i ps).set i (ps[i].1, mks i 0 ps[i].2.length) = mpx (i + 1) ps := by
  apply List.ext_getElem
  · simp [mpx_len]
  · intro j h1 h2
    rw [mpx_len] at h2
    rw [List.getElem_set, mpx_get (i := i + 1) h2]
    split
    · next h => subst h; rw [if_pos (by omega)]
    · next h =>
      rw [mpx_get h2]
      by_cases hji : j < i
      · rw [if_pos hji, if_pos (by omega)]
      · rw [if_neg hji, if_neg (by omega)]
theorem put_c (hb : BkC tBk w b f) (hp : Shf w B 109 143 3 enc (f 8) ps) (hle : ps.length ≤ 250) (hbd : ∀ p ∈ ps, p.2.length ≤ 100000)
    (hq : ∀ w', Shf w' B 109 143 3 enc (f 8) (mpx ps.length ps) → KO B (tys [143]) w w' → Q (.tuple #[]) w') :
    callS Tryz.prog 124 #[.pointer (some ⟨b, 0, none⟩)] Q w := by
  refine ref124 ?_
  unfold S124
  refine lpc1 ps.length (by omega) (fun i w' => Shf w' B 109 143 3 enc (f 8) (mpx i ps) ∧ KO B (tys [143]) w w') ⟨by rw [mpx_zero]; exact hp, KO.refl _ _ _⟩ (fun i w1 hi ⟨h1, k1⟩ J hJ => ?_) (fun w1 ⟨h1, k1⟩ J => ?_)
  · intro _j
    have hi' : ((i : Int) < (ps.length : Int)) := by omega
    have hin : i < (mpx i ps).length := by rw [mpx_len]; exact hi
    have hb1 := hb.ko k1 (fun _ => rfl)
    obtain ⟨g, o, c, e, hc⟩ := h1.rd.at hin
    rw [mpx_len] at e
    rw [mpx_get hi] at hc
    have cF : Sh.cel w1 b 8 = some (.slice (some ⟨g, o, none⟩) ps.length c) := by rw [hb1.cel (by decide), e]
    have hli := hbd _ (List.getElem_mem hi)
    have hog : Own w1 B 143 3 ps[i].1 ps[i].2.length (flat enc ps[i].2) := by
      have := h1.get hin
      rw [mpx_get hi, if_neg (by omega)] at this
      exact this
    obtain ⟨pa, ca, hform⟩ := hog.form
    simp only [stp, Nat.reduceAdd, Int.reduceLT, Int.reduceLE, Int.reduceEq, Int.reduceNe, ne_eq, bne_self_eq_false, beq_self_eq_true, stm, cel_drew, cF, hi', Option.isSome_some, Option.getD_some]
    rw [ix_39 hi]
    simp only [stp, Nat.reduceAdd, Int.reduceLT, Int.reduceLE, Int.reduceEq, Int.reduceNe, ne_eq, bne_self_eq_false, beq_self_eq_true, stm, cel_drew, hc, hform, Option.isSome_some, Option.getD_some]
    rw [show (Value.int .i64 (0 : Int)) = .int .i64 ((0 : Nat) : Int) from rfl]
    refine mark_c (from_ := 0) (by omega) (by omega) fun w2 vm om k2 => ?_
    have h2 := h1.keep0 k2
    have s2 := k2.size
    obtain ⟨pm, cm, rfl⟩ := om.form
    have hml : (mks i 0 ps[i].2.length).length = ps[i].2.length := mks_len _ _ _
    refine lpc1 ps[i].2.length (by omega) (fun k w' => Shf w' B 109 143 3 enc (f 8) ((mpx i ps).set i (ps[i].1, (mks i 0 ps[i].2.length).take k ++ ps[i].2.drop k)) ∧ KO B (tys [143]) w w' ∧ Own w' (siz w1) 143 3 (.slice pm ps[i].2.length cm) ps[i].2.length (flat enc (mks i 0 ps[i].2.length)))
      ⟨?_, k1.trans (KO.of0 k2), om⟩ (fun k w3 hk ⟨h3, k3, o3⟩ J' hJ' => ?_) (fun w3 ⟨h3, k3, o3⟩ J' => ?_)
    · have e0 : (mpx i ps).set i (ps[i].1, (mks i 0 ps[i].2.length).take 0 ++ ps[i].2.drop 0) = mpx i ps := by
        apply List.ext_getElem
        · simp
        · intro j h1 h2
          rw [List.getElem_set]
          split
          · next h => subst h; rw [mpx_get hi, if_neg (by omega)]; simp
          · rfl
      rw [e0]; exact h2
    · intro _j
      have hk' : ((k : Int) < (ps[i].2.length : Int)) := by omega
      have hb3 := hb.ko k3 (fun _ => rfl)
      have hin3 : i < ((mpx i ps).set i (ps[i].1, (mks i 0 ps[i].2.length).take k ++ ps[i].2.drop k)).length := by rw [List.length_set]; exact hin
      have hown := h3.get hin3
      obtain ⟨g3, o3', c3, e3, hc3⟩ := h3.rd.at hin3
      rw [List.length_set, mpx_len] at e3
      rw [List.getElem_set_self] at hc3 hown
      have hlk : ((mks i 0 ps[i].2.length).take k ++ ps[i].2.drop k).length = ps[i].2.length := by rw [List.length_append, List.length_take, List.length_drop, hml]; omega
      have cF3 : Sh.cel w3 b 8 = some (.slice (some ⟨g3, o3', none⟩) ps.length c3) := by rw [hb3.cel (by decide), e3]
      obtain ⟨gm, om', cm', em, _, hcm⟩ := o3.rd.at (by omega)
      injection em with em1 _ em2
      subst em1 em2
      have hM := cells_at (L := mks i 0 ps[i].2.length) (i := k) (p := mk i k) (by rw [hml]; exact hcm) (by
        rw [List.getElem?_eq_getElem (by rw [hml]; exact hk)]; simp [mks])
      dsimp only at hown hc3
      obtain ⟨gl, cl, el, hfl, hcl⟩ : ∃ gl cl, ps[i].1 = .slice (some ⟨gl, 0, none⟩) ps[i].2.length cl ∧ Sh.fre w3 gl = true ∧ ∀ j, j < ps[i].2.length * 3 → Sh.cel w3 gl (0 + j) = (flat enc ((mks i 0 ps[i].2.length).take k ++ ps[i].2.drop k))[j]? := by
        obtain ⟨gl, cl, el, _, _, _, _, hfl, hcl⟩ := hown.at (by omega)
        rw [hlk] at el hcl
        exact ⟨gl, cl, el, hown.fre (by rw [el]; rfl), fun j hj => by rw [Nat.zero_add]; exact hcl j hj⟩
      obtain ⟨pk, hpk⟩ : ∃ p, ((mks i 0 ps[i].2.length).take k ++ ps[i].2.drop k)[k]? = some p := ⟨_, List.getElem?_eq_getElem (show k < ((mks i 0 ps[i].2.length).take k ++ ps[i].2.drop k).length by omega)⟩
      have hO := cells_at (by rw [hlk]; exact hcl) hpk
      rw [el] at hc3
      simp only [Nat.zero_add] at hO
      simp only [stp, Nat.reduceAdd, Int.reduceLT, Int.reduceLE, Int.reduceEq, Int.reduceNe, ne_eq, bne_self_eq_false, beq_self_eq_true, stm, cel_drew, cF3, hk', Option.isSome_some, Option.getD_some]
      rw [ix_39 hi]
      simp only [stp, Nat.reduceAdd, Int.reduceLT, Int.reduceLE, Int.reduceEq, Int.reduceNe, ne_eq, bne_self_eq_false, beq_self_eq_true, stm, cel_drew, hc3, Option.isSome_some, Option.getD_some]
      rw [ix_109 hk]
      simp only [stp, Nat.reduceAdd, Int.reduceLT, Int.reduceLE, Int.reduceEq, Int.reduceNe, ne_eq, bne_self_eq_false, beq_self_eq_true, stm, cel_drew, hM, Option.isSome_some, Option.getD_some]
      rw [ix_109 hk]
      simp only [stp, Nat.reduceAdd, Int.reduceLT, Int.reduceLE, Int.reduceEq, Int.reduceNe, ne_eq, bne_self_eq_false, beq_self_eq_true, stm, Nat.zero_add, hO, fre_drew, hfl, cel_drew, Option.isSome_some, Option.getD_some]
      have hgl : ps[i].1.ownBlock = some gl := by rw [el]; rfl
      have hown' := hown
      have el' : ps[i].1 = .slice (some ⟨gl, 0, none⟩) ((mks i 0 ps[i].2.length).take k ++ ps[i].2.drop k).length cl := by rw [el, hlk]
      rw [el'] at hown'
      have hse := Own.setE enc_len (hown'.keep ((K0.refl w3).drew) (fun _ _ => id)) (i := k) (by omega) (mk i k)
      have ks : Keep (fun g => ps[i].1.ownBlock = some g) w3.drew (stoL w3.drew gl (k * 3) (enc (mk i k))) := (Keep.refl (fun g => ps[i].1.ownBlock = some g) w3.drew).stoL _ _ (.inl hgl)
      have eset : ((mks i 0 ps[i].2.length).take k ++ ps[i].2.drop k).set k (mk i k) = (mks i 0 ps[i].2.length).take (k + 1) ++ ps[i].2.drop (k + 1) := by
        apply List.ext_getElem
        · rw [List.length_set, hlk, List.length_append, List.length_take, List.length_drop, hml]; omega
        · intro j h1 h2
          rw [List.length_set, hlk] at h1
          rw [List.getElem_set]
          split
          · next h =>
            subst h
            rw [List.getElem_append_left (by rw [List.length_take, hml]; omega)]
            simp [mks]
          · next h =>
            by_cases hjk : j < k
            · rw [List.getElem_append_left (by rw [List.length_take, hml]; omega), List.getElem_append_left (by rw [List.length_take, hml]; omega)]
              simp
            · rw [List.getElem_append_right (by rw [List.length_take, hml]; omega), List.getElem_append_right (by rw [List.length_take, hml]; omega)]
              simp only [List.getElem_drop, List.length_take, hml]
              congr 1; omega
      rw [hlk, eset] at hse
      have key : Shf (stoL w3.drew gl (k * 3) (enc (mk i k))) B 109 143 3 enc (f 8) ((mpx i ps).set i (ps[i].1, (mks i 0 ps[i].2.length).take (k + 1) ++ ps[i].2.drop (k + 1))) ∧ KO B (tys [143]) w (stoL w3.drew gl (k * 3) (enc (mk i k))) ∧ Own (stoL w3.drew gl (k * 3) (enc (mk i k))) (siz w1) 143 3 (.slice (some ⟨gm, om', none⟩) ps[i].2.length cm) ps[i].2.length (flat enc (mks i 0 ps[i].2.length)) := by
        have hlk1 : ((mks i 0 ps[i].2.length).take (k + 1) ++ ps[i].2.drop (k + 1)).length = ps[i].2.length := by rw [List.length_append, List.length_take, List.length_drop, hml]; omega
        refine ⟨?_, ?_, ?_⟩
        · have hp := Shf.put (by decide) (h3.keep0 ((K0.refl w3).drew)) hin3 (L := (mks i 0 ps[i].2.length).take (k + 1) ++ ps[i].2.drop (k + 1)) (by rw [List.getElem_set_self]; exact ks) (by rw [List.getElem_set_self, hlk1, el]; exact hse)
          rw [List.getElem_set_self, List.set_set] at hp
          exact hp
        · refine (k3.trans (KO.of0 ((K0.refl w3).drew))).trans (KO.ofB ks fun q e => ?_)
          obtain ⟨hB, cs, hbq⟩ := hown.ty e
          exact ⟨hB, _, hbq, rfl⟩
        · refine (o3.keep ((K0.refl w3).drew) fun _ _ => id).keep ks fun q hq e => ?_
          have := (o3.lt hq).1
          have := (hog.lt e).2
          omega
      first
        | exact hJ' _ key
        | (rw [Nat.mul_one] at key; exact hJ' _ key)
    · intro _j
      have hk' : ¬ ((ps[i].2.length : Int) < (ps[i].2.length : Int)) := by omega
      simp only [stp, Nat.reduceAdd, Int.reduceLT, Int.reduceLE, Int.reduceEq, Int.reduceNe, ne_eq, bne_self_eq_false, beq_self_eq_true, stm, hk']
      refine hJ _ ⟨?_, k3⟩
      have e1 : (mks i 0 ps[i].2.length).take ps[i].2.length ++ ps[i].2.drop ps[i].2.length = mks i 0 ps[i].2.length := by
        rw [List.take_of_length_le (by rw [hml]; omega), List.drop_length, List.append_nil]
      rw [e1, mpx_set hi] at h3
      exact h3
  · intro _j
    obtain ⟨pa, c, e⟩ := h1.rd.form
    rw [mpx_len] at e
    have cF : Sh.cel w1 b 8 = some (.slice pa ps.length c) := by rw [(hb.ko k1 (fun _ => rfl)).cel (by decide), e]
    have hi' : ¬ ((ps.length : Int) < (ps.length : Int)) := by omega
    simp only [stp, Nat.reduceAdd, Int.reduceLT, Int.reduceLE, Int.reduceEq, Int.reduceNe, ne_eq, bne_self_eq_false, beq_self_eq_true, stm, cF, hi', Option.isSome_some, Option.getD_some]
    exact hq _ h1 k1
end
end Go.Proofs.YtndjohbbaplekaaGreatX.BkLocks
/- The book of lists, one kind: one more list. Conditions: as each says. -/
set_option linter.unusedSimpArgs false
set_option linter.unusedVariables false
namespace Go.Proofs.YtndjohbbaplekaaGreatX.BkLocks
open Go.Sh Go.Proofs.YtndjohbbaplekaaGreatX
set_option maxRecDepth 100000
section
variable {w w' : World} {Q : Value → World → Prop} {b B : Nat} {f : Nat → Value} {ps qs : List (Value × List I3)}
theorem add_c {l : Value} {xs : List I3} (hb : BkC tBk w b f) (h : KsX w B f ps qs) (hB : B ≤ siz w) (hl : Own w B 143 3 l xs.length (flat enc xs)) (hx : xs.length ≤ 100000) (h1l : Go.Sh.one l = true) (hf : ∀ g, l.ownBlock = some g → ¬ kft (f 8) (f 9) ps qs g)
    (hq : ∀ w' f' ps' qs', BkC tBk w' b f' → (∀ o, o ≠ 8 → o ≠ 9 → f' o = f o) → KsX w' B f' ps' qs' → (∀ g, kft (f' 8) (f' 9) ps' qs' g → kft (f 8) (f 9) ps qs g ∨ l.ownBlock = some g ∨ siz w ≤ g) →
      Keep (fun g => g = b ∨ (f 8).ownBlock = some g ∨ (f 9).ownBlock = some g) w w' → Q (.tuple #[]) w') :
    callS Tryz.prog 67 #[.pointer (some ⟨b, 0, none⟩), l] Q w := by
  refine ref67 ?_
  unfold S67
  have hlen := h.len
  have cF := hb.cel (o := 8) (by decide)
  have cG := hb.cel (o := 9) (by decide)
  obtain ⟨pF, kF, eF⟩ := h.p.rd.form
  rw [eF] at cF
  by_cases hlt : ps.length < 250
  · have hlt' : ((ps.length : Int) < 250) := by omega
    obtain ⟨pG, kG, eG⟩ := h.q.rd.form
    rw [eG] at cG
    have hrow := h.p.row
    rw [eF] at hrow
    have hrowG := h.q.row
    rw [eG] at hrowG
    have nF : ∀ g, (Value.slice pF ps.length kF).ownBlock = some g → g ≠ b := fun g hg e => by
      obtain ⟨_, cs, hc⟩ := hrow.ty hg
      rw [e, hb] at hc; injection hc with hc; injection hc with _ hc; cases hc
    have nG : ∀ g, (Value.slice pG qs.length kG).ownBlock = some g → g ≠ b := fun g hg e => by
      obtain ⟨_, cs, hc⟩ := hrowG.ty hg
      rw [e, hb] at hc; injection hc with hc; injection hc with _ hc; cases hc
    have nL : ∀ g, l.ownBlock = some g → g ≠ b := fun g hg e => by
      obtain ⟨_, cs, hc⟩ := hl.ty hg
      rw [e, hb] at hc; injection hc with hc; injection hc with _ hc; cases hc
    have nFL : ∀ g, l.ownBlock = some g → ¬ (Value.slice pF ps.length kF).ownBlock = some g := fun g hg e => by
      obtain ⟨_, cs, hc⟩ := hl.ty hg
      obtain ⟨_, cs', hc'⟩ := hrow.ty e
      rw [hc'] at hc; injection hc with hc; injection hc with _ hc; cases hc
    simp only [stp, Nat.reduceAdd, Int.reduceLT, Int.reduceLE, Int.reduceEq, Int.reduceNe, ne_eq, bne_self_eq_false, beq_self_eq_true, stm, cF, hlt', h1l, Option.isSome_some, Option.getD_some]
    refine pu_39 hrow (fun u hu => by rw [List.mem_singleton.1 hu]; exact h1l) (by omega) hB fun v1 w1 o1 k1 r1 => ?_
    obtain ⟨p1, c1, rfl⟩ := o1.form
    have hb1 : BkC tBk w1 b f := hb.keep k1 fun e => nF _ e rfl
    have i1 : (Sh.cel w1 b 8).isSome = true := by rw [hb1.cel (by decide)]; rfl
    simp only [stp, Nat.reduceAdd, Int.reduceLT, Int.reduceLE, Int.reduceEq, Int.reduceNe, ne_eq, bne_self_eq_false, beq_self_eq_true, stm, i1, hb1.fre, Option.isSome_some, Option.getD_some]
    have hb2 := hb1.set (o := 8) (by decide) (.slice p1 (ps.length + 1) c1)
    have k2 : Keep (fun g => g = b) w1 (sto w1 b 8 (.slice p1 (ps.length + 1) c1)) := (Keep.refl (fun g => g = b) w1).sto (.inl rfl) _ _
    generalize sto w1 b 8 (.slice p1 (ps.length + 1) c1) = w2 at hb2 k2
    have s1 := k1.size
    have s2 := k2.size
    have k02 : Keep (fun g => g = b ∨ (f 8).ownBlock = some g ∨ (f 9).ownBlock = some g) w w2 := by
      refine (k1.mono fun g _ e => .inr (.inl ?_)).trans' k2 fun g _ e => .inl e
      rw [eF]; exact e
    have o2 : Own w2 B 109 1 (.slice p1 (ps.length + 1) c1) (ps.length + 1) (ps.map (·.1) ++ [l]) := o1.keep k2 fun g hg e => by
      subst e
      rcases r1 _ hg with h1 | h1
      · exact nF _ h1 rfl
      · have := hb.lt; omega
    have nk : ∀ g, fts (f 8) ps g ∨ fts (f 9) qs g → g ≠ b := fun g hg e => by
      rcases hg with (hg | ⟨p, hp, hg⟩) | (hg | ⟨p, hp, hg⟩)
      · rw [eF] at hg; exact nF _ hg e
      · obtain ⟨_, cs, hc⟩ := (h.p.each p hp).ty hg
        rw [e, hb] at hc; injection hc with hc; injection hc with _ hc; cases hc
      · rw [eG] at hg; exact nG _ hg e
      · obtain ⟨_, cs, hc⟩ := (h.q.each p hp).ty hg
        rw [e, hb] at hc; injection hc with hc; injection hc with _ hc; cases hc
    have eachF : ∀ p ∈ ps, ∀ g, p.1.ownBlock = some g → ¬ (Value.slice pF ps.length kF).ownBlock = some g := fun p hp g hg e => by
      obtain ⟨_, cs, hc⟩ := (h.p.each p hp).ty hg
      obtain ⟨_, cs', hc'⟩ := hrow.ty e
      rw [hc'] at hc; injection hc with hc; injection hc with _ hc; cases hc
    have hP2 : Shf w2 B 109 143 3 enc (.slice p1 (ps.length + 1) c1) (ps ++ [(l, xs)]) := by
      refine ⟨by simpa using o2, fun p hp => ?_, ?_⟩
      · rcases List.mem_append.1 hp with hp | hp
        · exact ((h.p.each p hp).keep k1 fun g hg e => eachF p hp g hg e).keep k2 fun g hg e => nk g (.inl (.inr ⟨p, hp, hg⟩)) e
        · rw [List.mem_singleton.1 hp]
          exact (hl.keep k1 fun g hg e => nFL g hg e).keep k2 fun g hg e => nL g hg e
      · rw [List.pairwise_append]
        refine ⟨h.p.apart, List.pairwise_singleton _ _, fun p hp q hq g hg hg' => ?_⟩
        rw [List.mem_singleton.1 hq] at hg'
        exact hf g hg' (.inl (.inr ⟨p, hp, hg⟩))
    have nFG : ∀ g, fts (f 9) qs g → ¬ (Value.slice pF ps.length kF).ownBlock = some g := fun g hg e => by
      rcases hg with hg | ⟨p, hp, hg⟩
      · exact h.ne g (by rw [eF]; exact e) hg
      · obtain ⟨_, cs, hc⟩ := (h.q.each p hp).ty hg
        obtain ⟨_, cs', hc'⟩ := hrow.ty e
        rw [hc'] at hc; injection hc with hc; injection hc with _ hc; cases hc
    have hQ2 : Shf w2 B 109 143 3 enc (f 9) qs := (h.q.keep k1 fun g hg e => nFG g hg e).keep k2 fun g hg e => nk g (.inr hg) e
    have hf2 : ∀ g, fts (.slice p1 (ps.length + 1) c1) (ps ++ [(l, xs)]) g → kft (f 8) (f 9) ps qs g ∨ l.ownBlock = some g ∨ siz w ≤ g := fun g hg => by
      rcases fts_add (w := w) (v := f 8) (v' := .slice p1 (ps.length + 1) c1) hg (fun g hg => by rw [eF]; exact r1 g hg) with h | h | h
      · exact .inl (.inl h)
      · exact .inr (.inl h)
      · exact .inr (.inr h)
    refine jn0 (fun w' => ∃ f' ps' qs', BkC tBk w' b f' ∧ (∀ o, o ≠ 8 → o ≠ 9 → f' o = f o) ∧ KsX w' B f' ps' qs' ∧ (∀ g, kft (f' 8) (f' 9) ps' qs' g → kft (f 8) (f 9) ps qs g ∨ l.ownBlock = some g ∨ siz w ≤ g) ∧
      Keep (fun g => g = b ∨ (f 8).ownBlock = some g ∨ (f 9).ownBlock = some g) w w') (fun J hJ => ?_) (fun w' ⟨f', ps', qs', a1, a2, a3, a4, a5⟩ _j => hq w' f' ps' qs' a1 a2 a3 a4 a5)
    have lr : ∀ {u}, K0 w2.drew u → Rd 3 u l xs.length (flat enc xs) := fun {u} k => by
      have := hP2.each (l, xs) (by simp)
      exact (this.keep ((K0.refl w2).drew.trans k) fun _ _ => id).rd
    have gG : ∀ {u}, K0 w2.drew u → Sh.cel u b 9 = some (.slice pG qs.length kG) := fun {u} k => by
      have := (hb2.keep ((K0.refl w2).drew.trans k) id).cel (o := 9) (by decide)
      rw [bupd_ne _ (by decide), eG] at this
      exact this
    have gG2 := gG (K0.refl _)
    have tail : ∀ {w5 : World} {c : Value}, K0 w2.drew w5 → Own w5 (siz w2) 143 3 c xs.length (flat enc xs) → Go.Sh.one c = true → act Tryz.prog (Builtin.append_ #[39, 39] 39 #[.slice pG qs.length kG, .slice (some ⟨siz w5, 0, none⟩) 1 1])
        (fun t28 w_6 => act Tryz.prog (thenU (Instr.storeAt 39 (.pointer (some ⟨b, 9, none⟩)) t28)) (fun _ w_7 => J w_7) w_6) (w5.alloc (.cells #[c] 109)) := fun {w5 c} k5 oc h1c => by
      have k25 := (K0.refl w2).drew.trans k5
      have s5 := k25.size
      have hb5 := hb2.keep k25 id
      have hQ5 := hQ2.keep0 k25
      have hP5 := hP2.keep0 k25
      have hr5 := hQ5.row
      rw [eG] at hr5
      refine pu_39 hr5 (fun u hu => by rw [List.mem_singleton.1 hu]; exact h1c) (by omega) (by omega) fun v6 w6 o6 k6 r6 => ?_
      obtain ⟨p6, c6, rfl⟩ := o6.form
      have hb6 := hb5.keep k6 fun e => nG _ e rfl
      have i6 : (Sh.cel w6 b 9).isSome = true := by rw [hb6.cel (by decide)]; rfl
      rw [st_39 one_slice i6 hb6.fre]
      have hb7 := hb6.set (o := 9) (by decide) (.slice p6 (qs.length + 1) c6)
      have k7 : Keep (fun g => g = b) w6 (sto w6 b 9 (.slice p6 (qs.length + 1) c6)) := (Keep.refl (fun g => g = b) w6).sto (.inl rfl) _ _
      generalize sto w6 b 9 (.slice p6 (qs.length + 1) c6) = w7 at hb7 k7
      have eqG : ∀ {p : Value × List I3}, Own w5 B 143 3 p.1 p.2.length (flat enc p.2) → (∀ g, p.1.ownBlock = some g → g ≠ b) → Own w7 B 143 3 p.1 p.2.length (flat enc p.2) := fun {p} ho hn =>
        (ho.keep k6 fun g hg e => by
          obtain ⟨_, cs, hc⟩ := ho.ty hg
          obtain ⟨_, cs', hc'⟩ := hr5.ty e
          rw [hc'] at hc; injection hc with hc; injection hc with _ hc; cases hc).keep k7 hn
      have nb5 : ∀ {p : Value × List I3}, Own w5 B 143 3 p.1 p.2.length (flat enc p.2) → ∀ g, p.1.ownBlock = some g → g ≠ b := fun {p} ho g hg e => by
        obtain ⟨_, cs, hc⟩ := ho.ty hg
        rw [e, hb5] at hc; injection hc with hc; injection hc with _ hc; cases hc
      have hocB : Own w5 B 143 3 c xs.length (flat enc xs) := oc.le (by omega)
      have s6 := k6.size
      refine hJ w7 ⟨_, ps ++ [(l, xs)], qs ++ [(c, xs)], hb7, fun o h1 h2 => by rw [bupd_ne _ h2, bupd_ne _ h1], ⟨?_, ?_, ?_, ?_, ?_, ?_⟩, ?_, ?_⟩
      · rw [bupd_ne _ (by decide), bupd_same]
        refine ⟨?_, fun p hp => eqG (hP5.each p hp) (nb5 (hP5.each p hp)), hP5.apart⟩
        refine (hP5.row.keep k6 fun g hg e => ?_).keep k7 fun g hg e => ?_
        · rcases r1 g hg with h1 | h1
          · exact h.ne g (by rw [eF]; exact h1) (by rw [eG]; exact e)
          · have := (hrowG.lt e).2; omega
        · obtain ⟨_, cs, hc⟩ := hP5.row.ty hg
          have e : g = b := e
          rw [e, hb5] at hc; injection hc with hc; injection hc with _ hc; cases hc
      · rw [bupd_same]
        refine ⟨?_, fun p hp => ?_, ?_⟩
        · have : Own w7 B 109 1 (.slice p6 (qs.length + 1) c6) (qs.length + 1) (qs.map (·.1) ++ [c]) := o6.keep k7 fun g hg e => by
            have e : g = b := e
            rcases r6 g hg with h1 | h1
            · exact nG _ h1 e
            · have := hb5.lt; omega
          simpa using this
        · rcases List.mem_append.1 hp with hp | hp
          · exact eqG (hQ5.each p hp) (nb5 (hQ5.each p hp))
          · rw [List.mem_singleton.1 hp]; exact eqG (p := (c, xs)) hocB (nb5 (p := (c, xs)) hocB)
        · rw [List.pairwise_append]
          refine ⟨h.q.apart, List.pairwise_singleton _ _, fun p hp q hq g hg hg' => ?_⟩
          rw [List.mem_singleton.1 hq] at hg'
          have h1 := (oc.lt hg').1
          have h2 := ((h.q.each p hp).lt hg).2
          omega
      · rw [bupd_ne _ (by decide), bupd_same, bupd_same]
        intro g hg hg'
        rcases r1 g hg with h1 | h1
        · rcases r6 g hg' with h2 | h2
          · exact h.ne g (by rw [eF]; exact h1) (by rw [eG]; exact h2)
          · have := (hrow.lt h1).2; omega
        · rcases r6 g hg' with h2 | h2
          · have := (hrowG.lt h2).2; omega
          · have h3 : g < siz w2 := (o2.lt hg).2
            omega
      · rw [List.map_append, List.map_append, h.same]; rfl
      · rw [List.length_append, List.length_singleton]; omega
      · intro p hp
        rcases List.mem_append.1 hp with hp | hp
        · exact h.bd p hp
        · rw [List.mem_singleton.1 hp]; exact hx
      · rw [bupd_ne _ (by decide), bupd_same, bupd_same]
        intro g hg
        rcases hg with hg | hg
        · exact hf2 g hg
        · rcases hg with hg | ⟨p, hp, hg⟩
          · rcases r6 g hg with h1 | h1
            · exact .inl (.inr (.inl (by rw [eG]; exact h1)))
            · exact .inr (.inr (by omega))
          · rcases List.mem_append.1 hp with hp | hp
            · exact .inl (.inr (.inr ⟨p, hp, hg⟩))
            · rw [List.mem_singleton.1 hp] at hg
              exact .inr (.inr (by have := (oc.lt hg).1; omega))
      · refine ((k02.trans k25.none).trans' k6 fun g _ e => .inr (.inr ?_)).trans' k7 fun g _ e => .inl e
        rw [eG]; exact e
    have sd : siz w2.drew = siz w2 := rfl
    refine ⟨?_, ?_⟩
    · simp only [stp, Nat.reduceAdd, Int.reduceLT, Int.reduceLE, Int.reduceEq, Int.reduceNe, ne_eq, bne_self_eq_false, beq_self_eq_true, stm, cel_drew, gG2, Option.isSome_some, Option.getD_some]
      refine copy_c (lr (K0.refl _)) (by omega) fun w5 c oc k5 => ?_
      obtain ⟨pc, cc, rfl⟩ := oc.form
      simp only [stp, Nat.reduceAdd, Int.reduceLT, Int.reduceLE, Int.reduceEq, Int.reduceNe, ne_eq, bne_self_eq_false, beq_self_eq_true, stm]
      exact tail k5 oc one_slice
    · refine copy_c (lr (K0.refl _)) (by omega) fun w5 c oc k5 => ?_
      obtain ⟨pc, cc, rfl⟩ := oc.form
      have g5 := gG k5
      refine ⟨?_, ?_⟩
      · simp only [stp, Nat.reduceAdd, Int.reduceLT, Int.reduceLE, Int.reduceEq, Int.reduceNe, ne_eq, bne_self_eq_false, beq_self_eq_true, stm, g5, Option.isSome_some, Option.getD_some]
        exact tail k5 oc one_slice
      · simp only [stp, Nat.reduceAdd, Int.reduceLT, Int.reduceLE, Int.reduceEq, Int.reduceNe, ne_eq, bne_self_eq_false, beq_self_eq_true, stm]
        have g5' : Sh.cel (w5.alloc (.cells #[.slice pc xs.length cc] 109)) b 9 = some (.slice pG qs.length kG) := gG (k5.alloc _)
        simp only [stp, Nat.reduceAdd, Int.reduceLT, Int.reduceLE, Int.reduceEq, Int.reduceNe, ne_eq, bne_self_eq_false, beq_self_eq_true, stm, g5', Option.isSome_some, Option.getD_some]
        exact tail k5 oc one_slice
  · have hlt' : ¬ ((ps.length : Int) < 250) := by omega
    simp only [stp, Nat.reduceAdd, Int.reduceLT, Int.reduceLE, Int.reduceEq, Int.reduceNe, ne_eq, bne_self_eq_false, beq_self_eq_true, stm, cF, hlt', Option.isSome_some, Option.getD_some]
    exact hq _ f ps qs hb (fun _ _ _ => rfl) h (fun g hg => .inl hg) (Keep.refl _ _)
theorem addKO (hb : BkC tBk w b f) (hBb : B ≤ b) (h : KsX w B f ps qs) (k : Keep (fun g => g = b ∨ (f 8).ownBlock = some g ∨ (f 9).ownBlock = some g) w w') : KO B (tys [tBk, 109]) w w' := KO.ofB k fun g hg => by
  rcases hg with rfl | hg | hg
  · exact ⟨hBb, _, hb, rfl⟩
  · obtain ⟨hB, cs, hc⟩ := h.p.row.ty hg
    exact ⟨hB, _, hc, rfl⟩
  · obtain ⟨hB, cs, hc⟩ := h.q.row.ty hg
    exact ⟨hB, _, hc, rfl⟩
end
end Go.Proofs.YtndjohbbaplekaaGreatX.BkLocks
/- The book of lists, one kind: lists that grow; are all marked? Conditions: as each says. -/
set_option linter.unusedSimpArgs false
set_option linter.unusedVariables false
namespace Go.Proofs.YtndjohbbaplekaaGreatX.BkLocks
open Go.Sh Go.Proofs.YtndjohbbaplekaaGreatX
set_option maxRecDepth 100000
section
variable {w w' : World} {Q : Value → World → Prop} {b B : Nat} {f : Nat → Value} {ps qs : List (Value × List I3)}
/-- Each list has its marks. -/
def Mk (os : List (Value × List I3)) : Prop := ∀ i (h : i < os.length), os[i].2 = mks i 0 os[i].2.length
theorem mpx_mk : Mk (mpx ps.length ps) := fun i h => by
  rw [mpx_len] at h
  rw [mpx_get h, if_pos h]
  dsimp only
  rw [mks_len]
theorem mpx_bd {i M : Nat} (h : ∀ p ∈ ps, p.2.length ≤ M) : ∀ p ∈ mpx i ps, p.2.length ≤ M := fun p hp => by
  obtain ⟨j, hj, rfl⟩ := List.getElem_of_mem hp
  rw [mpx_len] at hj
  rw [mpx_get hj]
  dsimp only
  split
  · rw [mks_len]; exact h _ (List.getElem_mem hj)
  · exact h _ (List.getElem_mem hj)
theorem marked_c {v : Value} {os : List (Value × List I3)} (h : Shr w B 109 143 3 enc v os) (hm : Mk os) (hle : os.length ≤ 250) (hbd : ∀ p ∈ os, p.2.length ≤ 200000) (hq : ∀ w', K0 w w' → Q (.bool true) w') :
    callS Tryz.prog 151 #[v] Q w := by
  refine ref151 ?_
  unfold S151
  obtain ⟨pv, cv, rfl⟩ := h.form
  refine lpc1 os.length (by omega) (fun i w' => K0 w w') (K0.refl _) (fun i w1 hi k1 J hJ => ?_) (fun w1 k1 J => ?_)
  · intro _j
    have hi' : ((i : Int) < (os.length : Int)) := by omega
    have h1 := h.keep0 k1.drew
    obtain ⟨g, o, c, e, hc⟩ := h1.at hi
    injection e with e1 _ e2
    subst e1 e2
    have ho := (h1.each _ (List.getElem_mem hi)).1
    obtain ⟨pa, ca, hform⟩ := ho.form
    have hli := hbd _ (List.getElem_mem hi)
    rw [hform] at hc
    simp only [stp, Nat.reduceAdd, Int.reduceLT, Int.reduceLE, Int.reduceEq, Int.reduceNe, ne_eq, bne_self_eq_false, beq_self_eq_true, hi']
    refine ⟨fun w' => K0 w1.drew w', K0.refl _, ?_⟩
    have hS : ∀ u, K0 w1.drew u → Sh.cel u g (o + i) = some (.slice pa os[i].2.length ca) := fun u k => k.cel hc id
    rw [ix_39 hi]
    refine hld_of (.slice pa os[i].2.length ca) (fun u hu => rl_109 (hS u hu)) ?_
    rw [ix_39 hi]
    refine hld_of (.slice pa os[i].2.length ca) (fun u hu => rl_109 (hS u hu)) ?_
    simp only [stp, Nat.reduceAdd, Int.reduceLT, Int.reduceLE, Int.reduceEq, Int.reduceNe, ne_eq, bne_self_eq_false, beq_self_eq_true]
    rw [show (Value.int .i64 (0 : Int)) = .int .i64 ((0 : Nat) : Int) from rfl]
    refine mark_c (from_ := 0) (by omega) (by omega) fun w2 vm om k2 => ⟨k2, ?_⟩
    have hlm : (mks i 0 os[i].2.length).length = os[i].2.length := mks_len _ _ _
    rw [hform] at ho
    refine same_c (a := os[i].2) (b := mks i 0 os[i].2.length) (ho.keep0 k2) (by rw [hlm]; exact om.rd) (by omega) fun w3 k3 => ⟨k2.trans k3, ?_⟩
    rw [decide_eq_true (hm i hi)]
    simp only [stp, Nat.reduceAdd, Int.reduceLT, Int.reduceLE, Int.reduceEq, Int.reduceNe, ne_eq, bne_self_eq_false, beq_self_eq_true, stm]
    exact hJ _ ((k1.drew.trans k2).trans k3)
  · intro _j
    have hi' : ¬ ((os.length : Int) < (os.length : Int)) := by omega
    simp only [stp, Nat.reduceAdd, Int.reduceLT, Int.reduceLE, Int.reduceEq, Int.reduceNe, ne_eq, bne_self_eq_false, beq_self_eq_true, hi']
    exact hq _ k1
theorem grow_c (hb : BkC tBk w b f) (hB : B ≤ siz w) (hp : Shf w B 109 143 3 enc (f 8) ps) (hm : Mk ps) (hle : ps.length ≤ 250) (hbd : ∀ p ∈ ps, p.2.length ≤ 100000)
    (hq : ∀ w' vo os, Shr w' B 109 143 3 enc vo os → os.length = ps.length → Mk os → (∀ p ∈ os, p.2.length ≤ 200000) → Shr w' B 109 143 3 enc (f 8) ps → KO B (tys [143]) w w' → Q vo w') :
    callS Tryz.prog 136 #[.pointer (some ⟨b, 0, none⟩)] Q w := by
  refine ref136 ?_
  unfold S136
  refine lpc2 ps.length (by omega) (fun i x w' => ∃ os : List (Value × List I3), os.length = i ∧ Own w' (siz w) 109 1 x i (os.map (·.1)) ∧ (∀ q ∈ os, TRd w' B 143 3 q.1 q.2.length (flat enc q.2)) ∧ Mk os ∧ (∀ q ∈ os, q.2.length ≤ 200000) ∧
      (∀ q ∈ os, ∀ g, q.1.ownBlock = some g → siz w ≤ g ∨ ∃ j, ∃ hj : j < ps.length, j < i ∧ ps[j].1.ownBlock = some g) ∧
      Own w' B 109 1 (f 8) ps.length (ps.map (·.1)) ∧ (∀ j (hj : j < ps.length), i ≤ j → Own w' B 143 3 ps[j].1 ps[j].2.length (flat enc ps[j].2)) ∧
      (∀ p ∈ ps, TRd w' B 143 3 p.1 p.2.length (flat enc p.2)) ∧ KO B (tys [143]) w w')
    ⟨[], rfl, Own.nil _ _ _ _, fun _ h => by simp at h, fun i h => by simp at h, fun _ h => by simp at h, fun _ h => by simp at h, hp.row, fun j hj _ => hp.get hj, fun p h => (hp.each p h).trd (Nat.le_refl _), KO.refl _ _ _⟩
    (fun i x w1 hi ⟨os, hos, ox, hor, hmo, hob, hof, hrow, hown, hrd, k1⟩ J hJ => ?_) (fun x w1 ⟨os, hos, ox, hor, hmo, hob, hof, hrow, hown, hrd, k1⟩ J => ?_)
  · intro _j
    have hi' : ((i : Int) < (ps.length : Int)) := by omega
    have hb1 := hb.ko k1 (fun _ => rfl)
    obtain ⟨g, o, c, e, _, hcr⟩ := hrow.rd.at (by omega)
    have hc : Sh.cel w1 g (o + i) = some ps[i].1 := by rw [hcr i (by omega), List.getElem?_map, List.getElem?_eq_getElem hi]; rfl
    have cF : Sh.cel w1 b 8 = some (.slice (some ⟨g, o, none⟩) ps.length c) := by rw [hb1.cel (by decide), e]
    have hli := hbd _ (List.getElem_mem hi)
    have ho := hown i hi (Nat.le_refl _)
    have hmi := hm i hi
    simp only [stp, Nat.reduceAdd, Int.reduceLT, Int.reduceLE, Int.reduceEq, Int.reduceNe, ne_eq, bne_self_eq_false, beq_self_eq_true, stm, cel_drew, cF, hi', Option.isSome_some, Option.getD_some]
    rw [ix_39 hi]
    simp only [stp, Nat.reduceAdd, Int.reduceLT, Int.reduceLE, Int.reduceEq, Int.reduceNe, ne_eq, bne_self_eq_false, beq_self_eq_true, stm, cel_drew, hc, Option.isSome_some, Option.getD_some]
    have s1 := k1.size
    -- one more piece
    have ext : ∀ {u : World} {y : Value} {m n : Nat} {K : Value → World → Prop}, n ≤ 60 → m ≤ 100 → Own u B 143 3 y (ps[i].2.length + m) (flat enc (mks i 0 (ps[i].2.length + m))) → Keep (fun g => ps[i].1.ownBlock = some g) w1 u → (∀ g, y.ownBlock = some g → ps[i].1.ownBlock = some g ∨ siz w1 ≤ g) → TRd u B 143 3 ps[i].1 ps[i].2.length (flat enc ps[i].2) →
        (∀ u' y', Own u' B 143 3 y' (ps[i].2.length + (m + n)) (flat enc (mks i 0 (ps[i].2.length + (m + n)))) → Keep (fun g => ps[i].1.ownBlock = some g) w1 u' → (∀ g, y'.ownBlock = some g → ps[i].1.ownBlock = some g ∨ siz w1 ≤ g) → TRd u' B 143 3 ps[i].1 ps[i].2.length (flat enc ps[i].2) → K y' u') → 0 < n →
        callS Tryz.prog 213 #[.int .i64 (i : Int), .int .i64 ((ps[i].2.length + m : Nat) : Int), .int .i64 (n : Int)] (fun t31 w_3 => act Tryz.prog (Builtin.append_ #[109, 109] 109 #[y, t31]) K w_3) u := by
      intro u y m n K hn hm oy ky hy ty hK hn0
      refine mark_c (by omega) (by omega) fun u1 vm om ku => ?_
      have oy1 := oy.keep ku fun _ _ => id
      have ty1 := ty.keep0 ku
      obtain ⟨gm, om', cm, rfl, _, hcm⟩ := om.rd.at hn0
      have su := ku.size
      have sk := ky.size
      refine act_append2 (i := Tryz.t143) (size := 3) (bytes := 24) Tryz.underlying109 (by kernel_rfl) rfl rfl rfl rfl (by decide) oy1 (b := gm) (o := om') (m := n) (c := cm) (news := flat enc (mks i (ps[i].2.length + m) n)) (by rw [flat_len enc_len, mks_len]) hcm flat_ones (by omega) (by unfold maxLen; omega) (by omega) fun v' u2 o2 hor2 => ?_
      rw [← flat_append, mks_add, Nat.add_assoc] at o2
      have nyb : ∀ q, q < siz w1 → y.ownBlock = some q → ps[i].1.ownBlock = some q := fun q hq e => (hy q e).resolve_right (by omega)
      rcases hor2 with ⟨ev, k2⟩ | ⟨k2, hv⟩
      · refine hK u2 v' o2 ((ky.trans ku.none).trans' k2 fun q hq e => nyb q hq e) (fun q e => hy q (by rw [← ev]; exact e)) ?_
        by_cases hsame : ∃ q, ps[i].1.ownBlock = some q ∧ y.ownBlock = some q
        · obtain ⟨q, hq1, hq2⟩ := hsame
          rw [← ev] at hq2
          rcases ho.2 with ⟨hnil, _⟩ | ⟨g0, cap0, cur0, hs0, _, _, hcap0, _⟩
          · rw [hnil] at hq1; cases hq1
          · rw [hs0] at hq1
            injection hq1 with hq1
            subst hq1
            have := Own.under enc_len o2 (mks_len _ _ _) hq2 (n0 := ps[i].2.length) (c0 := cap0) (by omega) hcap0
            rw [show (mks i 0 (ps[i].2.length + (m + n))).take ps[i].2.length = ps[i].2 by
              rw [← mks_add, List.take_append_of_le_length (by rw [mks_len]; exact Nat.le_refl _), List.take_of_length_le (by rw [mks_len]; exact Nat.le_refl _), ← hmi]] at this
            rw [hs0]; exact this
        · exact ty1.keepF k2 fun q hq e => hsame ⟨q, hq, e⟩
      · refine hK u2 v' o2 ((ky.trans ku.none).trans k2.none) (fun q e => .inr (by have := hv q e; omega)) (ty1.keep0 k2)
    have ho' : Own w1 B 143 3 ps[i].1 (ps[i].2.length + 0) (flat enc (mks i 0 (ps[i].2.length + 0))) := by rw [Nat.add_zero, ← hmi]; exact ho
    refine lpc2 12 (by omega) (fun m y u => Own u B 143 3 y (ps[i].2.length + m) (flat enc (mks i 0 (ps[i].2.length + m))) ∧ Keep (fun g => ps[i].1.ownBlock = some g) w1 u ∧ (∀ g, y.ownBlock = some g → ps[i].1.ownBlock = some g ∨ siz w1 ≤ g) ∧ TRd u B 143 3 ps[i].1 ps[i].2.length (flat enc ps[i].2))
      ⟨ho'.keep ((K0.refl w1)) (fun _ _ => id), Keep.refl _ _, fun g h => .inl h, hrd _ (List.getElem_mem hi)⟩ (fun m y u hm12 ⟨oy, ky, hy, ty⟩ J' hJ' => ?_) (fun y u ⟨oy, ky, hy, ty⟩ J' => ?_)
    · intro _j
      have hm' : ((m : Int) < 12) := by omega
      obtain ⟨py, cy, rfl⟩ := oy.form
      simp only [stp, Nat.reduceAdd, Int.reduceLT, Int.reduceLE, Int.reduceEq, Int.reduceNe, ne_eq, bne_self_eq_false, beq_self_eq_true, hm']
      refine ext (m := m) (n := 1) (by omega) (by omega) oy ky hy ty (fun u' y' a1 a2 a3 a4 => ?_) (by omega)
      exact hJ' _ _ ⟨a1, a2, a3, a4⟩
    · intro _j
      have hm' : ¬ (((12 : Nat) : Int) < 12) := by omega
      obtain ⟨py, cy, rfl⟩ := oy.form
      simp only [stp, Nat.reduceAdd, Int.reduceLT, Int.reduceLE, Int.reduceEq, Int.reduceNe, ne_eq, bne_self_eq_false, beq_self_eq_true, hm']
      refine ext (m := 12) (n := 60) (by omega) (by omega) oy ky hy ty (fun u' y' a1 a2 a3 a4 => ?_) (by omega)
      obtain ⟨py', cy', rfl⟩ := a1.form
      simp only [stp, Nat.reduceAdd, Int.reduceLT, Int.reduceLE, Int.reduceEq, Int.reduceNe, ne_eq, bne_self_eq_false, beq_self_eq_true, stm]
      have nox : ∀ g, x.ownBlock = some g → ¬ ps[i].1.ownBlock = some g := fun g hg e => by
        have := (ox.lt hg).1
        have h2 := (hp.get hi).lt e
        omega
      have ox2 := ox.keep a2 nox
      have sk := a2.size
      refine pu_39 ox2 (fun q hq => by rw [List.mem_singleton.1 hq]; rfl) (by omega) (by omega) fun v3 w3 o3 k3 r3 => ?_
      have nx : ∀ g, fts (f 8) ps g → ¬ x.ownBlock = some g := fun g hg e => by
        have := (ox.lt e).1
        have := (hp.lt hg).2
        omega
      have nty : ∀ {n : Nat} {v : Value} {xs : List Value}, TRd u' B 143 3 v n xs → TRd w3 B 143 3 v n xs := fun {n v xs} h => h.keepF k3 fun g hg e => by
        obtain ⟨_, cs, hc⟩ := h.2 g hg
        obtain ⟨_, cs', hc'⟩ := ox2.ty e
        rw [hc'] at hc; injection hc with hc; injection hc with _ hc; cases hc
      have nfi : ∀ {j : Nat} (hj : j < ps.length), j ≠ i → ∀ g, ps[j].1.ownBlock = some g → ¬ ps[i].1.ownBlock = some g := fun {j} hj hji g hg e => hp.ne hj hi hji hg e
      refine hJ _ _ ⟨os ++ [(.slice py' (ps[i].2.length + (12 + 60)) cy', mks i 0 (ps[i].2.length + (12 + 60)))], by simp [hos], by simpa using o3, fun q hq => ?_, fun j hj => ?_, fun q hq => ?_, fun q hq g hg => ?_, ?_, fun j hj hji => ?_, fun p hpm => ?_, ?_⟩
      · rcases List.mem_append.1 hq with hq | hq
        · refine nty ((hor q hq).keepF a2 fun g hg e => ?_)
          rcases hof q hq g hg with h1 | ⟨j, hj, hji, h1⟩
          · have := (hp.get hi).lt e; omega
          · exact nfi hj (by omega) g h1 e
        · rw [List.mem_singleton.1 hq]
          have := a1.trd (Nat.le_refl B)
          refine nty ?_
          dsimp only
          rw [mks_len]; exact this
      · rw [List.length_append, List.length_singleton] at hj
        by_cases hji : j < os.length
        · rw [List.getElem_append_left hji]; exact hmo j hji
        · have : j = i := by omega
          subst this
          rw [List.getElem_append_right (by omega)]
          simp [hos, mks_len]
      · rcases List.mem_append.1 hq with hq | hq
        · exact hob q hq
        · rw [List.mem_singleton.1 hq]; dsimp only; rw [mks_len]; omega
      · rcases List.mem_append.1 hq with hq | hq
        · rcases hof q hq g hg with h1 | ⟨j, hj, hji, h1⟩
          · exact .inl h1
          · exact .inr ⟨j, hj, by omega, h1⟩
        · rw [List.mem_singleton.1 hq] at hg
          rcases a3 g hg with h1 | h1
          · exact .inr ⟨i, hi, by omega, h1⟩
          · exact .inl (by omega)
      · refine (hrow.keep a2 fun g hg e => ?_).keep k3 fun g hg e => nx g (.inl hg) e
        obtain ⟨_, cs, hc⟩ := hrow.ty hg
        obtain ⟨_, cs', hc'⟩ := ho.ty e
        rw [hc'] at hc; injection hc with hc; injection hc with _ hc; cases hc
      · exact ((hown j hj (by omega)).keep a2 fun g hg e => nfi hj (by omega) g hg e).keep k3 fun g hg e => nx g (.inr ⟨_, List.getElem_mem hj, hg⟩) e
      · obtain ⟨j, hj, rfl⟩ := List.getElem_of_mem hpm
        by_cases hji : j = i
        · subst hji; exact nty a4
        · exact nty ((hrd _ hpm).keepF a2 fun g hg e => nfi hj hji g hg e)
      · refine (k1.trans (KO.ofB a2 fun q e => ?_)).trans' k3 fun q hq e => ?_
        · obtain ⟨h1, cs, hc⟩ := ho.ty e
          exact ⟨h1, _, hc, rfl⟩
        · have := (ox.lt e).1; omega
  · intro _j
    obtain ⟨pa, c, e⟩ := hrow.rd.form
    have cF : Sh.cel w1 b 8 = some (.slice pa ps.length c) := by rw [(hb.ko k1 (fun _ => rfl)).cel (by decide), e]
    have hi' : ¬ ((ps.length : Int) < (ps.length : Int)) := by omega
    simp only [stp, Nat.reduceAdd, Int.reduceLT, Int.reduceLE, Int.reduceEq, Int.reduceNe, ne_eq, bne_self_eq_false, beq_self_eq_true, stm, cF, hi', Option.isSome_some, Option.getD_some]
    exact hq w1 x os ⟨by rw [hos]; exact ox.trd hB, hor⟩ hos hmo hob ⟨hrow.trd (Nat.le_refl _), hrd⟩ k1
end
end Go.Proofs.YtndjohbbaplekaaGreatX.BkLocks
