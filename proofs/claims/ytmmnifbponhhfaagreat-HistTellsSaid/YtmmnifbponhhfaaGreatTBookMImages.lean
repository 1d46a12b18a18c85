/- The book of lists, one kind: one more list; are they as they were; marks; what grows. Conditions: as each says. -/
import Derived.Test.YtmmnifbponhhfaaGreatTBookKImages
set_option linter.unusedSimpArgs false
set_option linter.unusedVariables false
namespace Go.Proofs.YtmmnifbponhhfaaGreatT.BkImages
open Go.Sh Go.Proofs.YtmmnifbponhhfaaGreatT
set_option maxRecDepth 100000
abbrev tBk : TypeId := 43
abbrev KsX (w : World) (B : Nat) (f : Nat → Value) (ps qs : List (Value × List (Int × Int × ByteArray))) : Prop := KS w B 53 69 3 enc 100000 (f 10) (f 11) ps qs
section
variable {w w' : World} {Q : Value → World → Prop} {b B : Nat} {f : Nat → Value} {ps qs : List (Value × List (Int × Int × ByteArray))}
theorem same_get (h : ps.map (·.2) = qs.map (·.2)) {i : Nat} (hi : i < ps.length) (hi' : i < qs.length) : ps[i].2 = qs[i].2 := by
  have e : (ps.map (·.2))[i]'(by simpa using hi) = (qs.map (·.2))[i]'(by simpa using hi') := by simp only [h]
  simpa using e
theorem still_c (hb : BkC tBk w b f) (h : KsX w B f ps qs) (hq : ∀ w', K0 w w' → Q (.bool true) w') :
    callS Tryz.prog 42 #[.pointer (some ⟨b, 0, none⟩)] Q w := by
  refine ref42 ?_
  unfold S42
  have hle := h.le
  have hlen := h.len
  refine lpc1 ps.length (by omega) (fun i w' => K0 w w') (K0.refl _) (fun i w1 hi k1 J hJ => ?_) (fun w1 k1 J => ?_)
  · intro _j
    have hi' : ((i : Int) < (ps.length : Int)) := by omega
    have hb1 := hb.keep k1.drew id
    have h1 := h.keep0 k1.drew
    obtain ⟨g, o, c, e, hc⟩ := h1.p.rd.at hi
    obtain ⟨g', o', c', e', hc'⟩ := h1.q.rd.at (show i < qs.length by omega)
    have cF : Sh.cel w1 b 10 = some (.slice (some ⟨g, o, none⟩) ps.length c) := by have := hb1.cel (o := 10) (by decide); rw [e] at this; exact this
    have cG : Sh.cel w1 b 11 = some (.slice (some ⟨g', o', none⟩) qs.length c') := by have := hb1.cel (o := 11) (by decide); rw [e'] at this; exact this
    have hc : Sh.cel w1 g (o + i) = some ps[i].1 := hc
    have hc' : Sh.cel w1 g' (o' + i) = some qs[i].1 := hc'
    simp only [stp, Nat.reduceAdd, Int.reduceLT, Int.reduceLE, Int.reduceEq, Int.reduceNe, ne_eq, bne_self_eq_false, beq_self_eq_true, stm, cel_drew, cF, cG, hi', Option.isSome_some, Option.getD_some]
    rw [ix_32 hi]
    simp only [stp, Nat.reduceAdd, Int.reduceLT, Int.reduceLE, Int.reduceEq, Int.reduceNe, ne_eq, bne_self_eq_false, beq_self_eq_true, stm, cel_drew, hc, cF, cG, Option.isSome_some, Option.getD_some]
    rw [ix_32 (show i < qs.length by omega)]
    simp only [stp, Nat.reduceAdd, Int.reduceLT, Int.reduceLE, Int.reduceEq, Int.reduceNe, ne_eq, bne_self_eq_false, beq_self_eq_true, stm, cel_drew, hc', cF, cG, Option.isSome_some, Option.getD_some]
    have es : ps[i].2 = qs[i].2 := same_get h.same hi (by omega)
    have hbd := h.bd _ (List.getElem_mem hi)
    refine same_c (h1.p.get hi).rd (h1.q.get (show i < qs.length by omega)).rd (by omega) fun w2 k2 => ?_
    simp only [stp, Nat.reduceAdd, Int.reduceLT, Int.reduceLE, Int.reduceEq, Int.reduceNe, ne_eq, bne_self_eq_false, beq_self_eq_true, stm, es, decide_true]
    exact hJ _ (k1.drew.trans k2)
  · intro _j
    obtain ⟨pa, c, e⟩ := h.p.rd.form
    have cF : Sh.cel w1 b 10 = some (.slice pa ps.length c) := by have := (hb.keep k1 id).cel (o := 10) (by decide); rw [e] at this; exact this
    have hi' : ¬ ((ps.length : Int) < (ps.length : Int)) := by omega
    simp only [stp, Nat.reduceAdd, Int.reduceLT, Int.reduceLE, Int.reduceEq, Int.reduceNe, ne_eq, bne_self_eq_false, beq_self_eq_true, stm, cF, hi', Option.isSome_some, Option.getD_some]
    exact hq _ k1
/-- The lists of kind, each with its marks. -/
def mpx (i : Nat) (ps : List (Value × List (Int × Int × ByteArray))) : List (Value × List (Int × Int × ByteArray)) := ps.mapIdx fun j p => (p.1, if j < i then mks j 0 p.2.length else p.2)
theorem mpx_len (i : Nat) : (mpx i ps).length = ps.length := by simp [mpx]
theorem mpx_get {i j : Nat} (hj : j < ps.length) : (mpx i ps)[j]'(by rw [mpx_len]; exact hj) = (ps[j].1, if j < i then mks j 0 ps[j].2.length else ps[j].2) := by simp [mpx]
theorem mpx_zero : mpx 0 ps = ps := by
  apply List.ext_getElem (mpx_len 0)
  intro j h1 h2
  rw [mpx_get h2, if_neg (by omega)]
theorem mpx_set {i : Nat} (hi : i < ps.length) : (mpx i ps).set i (ps[i].1, mks i 0 ps[i].2.length) = mpx (i + 1) ps := by
  apply List.ext_getElem
  · simp [mpx_len]
  · intro j h1 h2
    rw [mpx_len] at h2
    rw [List.getElem_set, mpx_get (i := i + 1) h2]
    split
    · next h => subst h; rw [if_pos (by omega)]
    · next h =>
      rw [mpx_get h2]
      by_cases hji : j < i
      · rw [if_pos hji, if_pos (by omega)]
      · rw [if_neg hji, if_neg (by omega)]
theorem put_c (hb : BkC tBk w b f) (hp : Shf w B 53 69 3 enc (f 10) ps) (hle : ps.length ≤ 250) (hbd : ∀ p ∈ ps, p.2.length ≤ 100000)
    (hq : ∀ w', Shf w' B 53 69 3 enc (f 10) (mpx ps.length ps) → KO B (tys [69]) w w' → Q (.tuple #[]) w') :
    callS Tryz.prog 60 #[.pointer (some ⟨b, 0, none⟩)] Q w := by
  refine ref60 ?_
  unfold S60
  refine lpc1 ps.length (by omega) (fun i w' => Shf w' B 53 69 3 enc (f 10) (mpx i ps) ∧ KO B (tys [69]) w w') ⟨by rw [mpx_zero]; exact hp, KO.refl _ _ _⟩ (fun i w1 hi ⟨h1, k1⟩ J hJ => ?_) (fun w1 ⟨h1, k1⟩ J => ?_)
  · intro _j
    have hi' : ((i : Int) < (ps.length : Int)) := by omega
    have hin : i < (mpx i ps).length := by rw [mpx_len]; exact hi
    have hb1 := hb.ko k1 (fun _ => rfl)
    obtain ⟨g, o, c, e, hc⟩ := h1.rd.at hin
    rw [mpx_len] at e
    rw [mpx_get hi] at hc
    have cF : Sh.cel w1 b 10 = some (.slice (some ⟨g, o, none⟩) ps.length c) := by rw [hb1.cel (by decide), e]
    have hli := hbd _ (List.getElem_mem hi)
    have hog : Own w1 B 69 3 ps[i].1 ps[i].2.length (flat enc ps[i].2) := by
      have := h1.get hin
      rw [mpx_get hi, if_neg (by omega)] at this
      exact this
    obtain ⟨pa, ca, hform⟩ := hog.form
    simp only [stp, Nat.reduceAdd, Int.reduceLT, Int.reduceLE, Int.reduceEq, Int.reduceNe, ne_eq, bne_self_eq_false, beq_self_eq_true, stm, cel_drew, cF, hi', Option.isSome_some, Option.getD_some]
    rw [ix_32 hi]
    simp only [stp, Nat.reduceAdd, Int.reduceLT, Int.reduceLE, Int.reduceEq, Int.reduceNe, ne_eq, bne_self_eq_false, beq_self_eq_true, stm, cel_drew, hc, hform, Option.isSome_some, Option.getD_some]
    rw [show (Value.int .i64 (0 : Int)) = .int .i64 ((0 : Nat) : Int) from rfl]
    refine mark_c (from_ := 0) (by omega) (by omega) fun w2 vm om k2 => ?_
    have h2 := h1.keep0 k2
    have s2 := k2.size
    obtain ⟨pm, cm, rfl⟩ := om.form
    have hml : (mks i 0 ps[i].2.length).length = ps[i].2.length := mks_len _ _ _
    refine lpc1 ps[i].2.length (by omega) (fun k w' => Shf w' B 53 69 3 enc (f 10) ((mpx i ps).set i (ps[i].1, (mks i 0 ps[i].2.length).take k ++ ps[i].2.drop k)) ∧ KO B (tys [69]) w w' ∧ Own w' (siz w1) 69 3 (.slice pm ps[i].2.length cm) ps[i].2.length (flat enc (mks i 0 ps[i].2.length)))
      ⟨?_, k1.trans (KO.of0 k2), om⟩ (fun k w3 hk ⟨h3, k3, o3⟩ J' hJ' => ?_) (fun w3 ⟨h3, k3, o3⟩ J' => ?_)
    · have e0 : (mpx i ps).set i (ps[i].1, (mks i 0 ps[i].2.length).take 0 ++ ps[i].2.drop 0) = mpx i ps := by
        apply List.ext_getElem
        · simp
        · intro j h1 h2
          rw [List.getElem_set]
          split
          · next h => subst h; rw [mpx_get hi, if_neg (by omega)]; simp
          · rfl
      rw [e0]; exact h2
    · intro _j
      have hk' : ((k : Int) < (ps[i].2.length : Int)) := by omega
      have hb3 := hb.ko k3 (fun _ => rfl)
      have hin3 : i < ((mpx i ps).set i (ps[i].1, (mks i 0 ps[i].2.length).take k ++ ps[i].2.drop k)).length := by rw [List.length_set]; exact hin
      have hown := h3.get hin3
      obtain ⟨g3, o3', c3, e3, hc3⟩ := h3.rd.at hin3
      rw [List.length_set, mpx_len] at e3
      rw [List.getElem_set_self] at hc3 hown
      have hlk : ((mks i 0 ps[i].2.length).take k ++ ps[i].2.drop k).length = ps[i].2.length := by rw [List.length_append, List.length_take, List.length_drop, hml]; omega
      have cF3 : Sh.cel w3 b 10 = some (.slice (some ⟨g3, o3', none⟩) ps.length c3) := by rw [hb3.cel (by decide), e3]
      obtain ⟨gm, om', cm', em, _, hcm⟩ := o3.rd.at (by omega)
      injection em with em1 _ em2
      subst em1 em2
      have hM := cells_at (L := mks i 0 ps[i].2.length) (i := k) (p := mk i k) (by rw [hml]; exact hcm) (by
        rw [List.getElem?_eq_getElem (by rw [hml]; exact hk)]; simp [mks])
      dsimp only at hown hc3
      obtain ⟨gl, cl, el, hfl, hcl⟩ : ∃ gl cl, ps[i].1 = .slice (some ⟨gl, 0, none⟩) ps[i].2.length cl ∧ Sh.fre w3 gl = true ∧ ∀ j, j < ps[i].2.length * 3 → Sh.cel w3 gl (0 + j) = (flat enc ((mks i 0 ps[i].2.length).take k ++ ps[i].2.drop k))[j]? := by
        obtain ⟨gl, cl, el, _, _, _, _, hfl, hcl⟩ := hown.at (by omega)
        rw [hlk] at el hcl
        exact ⟨gl, cl, el, hown.fre (by rw [el]; rfl), fun j hj => by rw [Nat.zero_add]; exact hcl j hj⟩
      obtain ⟨pk, hpk⟩ : ∃ p, ((mks i 0 ps[i].2.length).take k ++ ps[i].2.drop k)[k]? = some p := ⟨_, List.getElem?_eq_getElem (show k < ((mks i 0 ps[i].2.length).take k ++ ps[i].2.drop k).length by omega)⟩
      have hO := cells_at (by rw [hlk]; exact hcl) hpk
      rw [el] at hc3
      simp only [Nat.zero_add] at hO
      simp only [stp, Nat.reduceAdd, Int.reduceLT, Int.reduceLE, Int.reduceEq, Int.reduceNe, ne_eq, bne_self_eq_false, beq_self_eq_true, stm, cel_drew, cF3, hk', Option.isSome_some, Option.getD_some]
      rw [ix_32 hi]
      simp only [stp, Nat.reduceAdd, Int.reduceLT, Int.reduceLE, Int.reduceEq, Int.reduceNe, ne_eq, bne_self_eq_false, beq_self_eq_true, stm, cel_drew, hc3, Option.isSome_some, Option.getD_some]
      rw [ix_53 hk]
      simp only [stp, Nat.reduceAdd, Int.reduceLT, Int.reduceLE, Int.reduceEq, Int.reduceNe, ne_eq, bne_self_eq_false, beq_self_eq_true, stm, cel_drew, hM, Option.isSome_some, Option.getD_some]
      rw [ix_53 hk]
      simp only [stp, Nat.reduceAdd, Int.reduceLT, Int.reduceLE, Int.reduceEq, Int.reduceNe, ne_eq, bne_self_eq_false, beq_self_eq_true, stm, Nat.zero_add, hO, fre_drew, hfl, cel_drew, Option.isSome_some, Option.getD_some]
      have hgl : ps[i].1.ownBlock = some gl := by rw [el]; rfl
      have hown' := hown
      have el' : ps[i].1 = .slice (some ⟨gl, 0, none⟩) ((mks i 0 ps[i].2.length).take k ++ ps[i].2.drop k).length cl := by rw [el, hlk]
      rw [el'] at hown'
      have hse := Own.setE enc_len (hown'.keep ((K0.refl w3).drew) (fun _ _ => id)) (i := k) (by omega) (mk i k)
      have ks : Keep (fun g => ps[i].1.ownBlock = some g) w3.drew (stoL w3.drew gl (k * 3) (enc (mk i k))) := (Keep.refl (fun g => ps[i].1.ownBlock = some g) w3.drew).stoL _ _ (.inl hgl)
      have eset : ((mks i 0 ps[i].2.length).take k ++ ps[i].2.drop k).set k (mk i k) = (mks i 0 ps[i].2.length).take (k + 1) ++ ps[i].2.drop (k + 1) := by
        apply List.ext_getElem
        · rw [List.length_set, hlk, List.length_append, List.length_take, List.length_drop, hml]; omega
        · intro j h1 h2
          rw [List.length_set, hlk] at h1
          rw [List.getElem_set]
          split
          · next h =>
            subst h
            rw [List.getElem_append_left (by rw [List.length_take, hml]; omega)]
            simp [mks]
          · next h =>
            by_cases hjk : j < k
            · rw [List.getElem_append_left (by rw [List.length_take, hml]; omega), List.getElem_append_left (by rw [List.length_take, hml]; omega)]
              simp
            · rw [List.getElem_append_right (by rw [List.length_take, hml]; omega), List.getElem_append_right (by rw [List.length_take, hml]; omega)]
              simp only [List.getElem_drop, List.length_take, hml]
              congr 1; omega
      rw [hlk, eset] at hse
      have key : Shf (stoL w3.drew gl (k * 3) (enc (mk i k))) B 53 69 3 enc (f 10) ((mpx i ps).set i (ps[i].1, (mks i 0 ps[i].2.length).take (k + 1) ++ ps[i].2.drop (k + 1))) ∧ KO B (tys [69]) w (stoL w3.drew gl (k * 3) (enc (mk i k))) ∧ Own (stoL w3.drew gl (k * 3) (enc (mk i k))) (siz w1) 69 3 (.slice (some ⟨gm, om', none⟩) ps[i].2.length cm) ps[i].2.length (flat enc (mks i 0 ps[i].2.length)) := by
        have hlk1 : ((mks i 0 ps[i].2.length).take (k + 1) ++ ps[i].2.drop (k + 1)).length = ps[i].2.length := by rw [List.length_append, List.length_take, List.length_drop, hml]; omega
        refine ⟨?_, ?_, ?_⟩
        · have hp := Shf.put (by decide) (h3.keep0 ((K0.refl w3).drew)) hin3 (L := (mks i 0 ps[i].2.length).take (k + 1) ++ ps[i].2.drop (k + 1)) (by rw [List.getElem_set_self]; exact ks) (by rw [List.getElem_set_self, hlk1, el]; exact hse)
          rw [List.getElem_set_self, List.set_set] at hp
          exact hp
        · refine (k3.trans (KO.of0 ((K0.refl w3).drew))).trans (KO.ofB ks fun q e => ?_)
          obtain ⟨hB, cs, hbq⟩ := hown.ty e
          exact ⟨hB, _, hbq, rfl⟩
        · refine (o3.keep ((K0.refl w3).drew) fun _ _ => id).keep ks fun q hq e => ?_
          have := (o3.lt hq).1
          have := (hog.lt e).2
          omega
      first
        | exact hJ' _ key
        | (rw [Nat.mul_one] at key; exact hJ' _ key)
    · intro _j
      have hk' : ¬ ((ps[i].2.length : Int) < (ps[i].2.length : Int)) := by omega
      simp only [stp, Nat.reduceAdd, Int.reduceLT, Int.reduceLE, Int.reduceEq, Int.reduceNe, ne_eq, bne_self_eq_false, beq_self_eq_true, stm, hk']
      refine hJ _ ⟨?_, k3⟩
      have e1 : (mks i 0 ps[i].2.length).take ps[i].2.length ++ ps[i].2.drop ps[i].2.length = mks i 0 ps[i].2.length := by
        rw [List.take_of_length_le (by rw [hml]; omega), List.drop_length, List.append_nil]
      rw [e1, mpx_set hi] at h3
      exact h3
  · intro _j
    obtain ⟨pa, c, e⟩ := h1.rd.form
    rw [mpx_len] at e
    have cF : Sh.cel w1 b 10 = some (.slice pa ps.length c) := by rw [(hb.ko k1 (fun _ => rfl)).cel (by decide), e]
    have hi' : ¬ ((ps.length : Int) < (ps.length : Int)) := by omega
    simp only [stp, Nat.reduceAdd, Int.reduceLT, Int.reduceLE, Int.reduceEq, Int.reduceNe, ne_eq, bne_self_eq_false, beq_self_eq_true, stm, cF, hi', Option.isSome_some, Option.getD_some]
    exact hq _ h1 k1
end
end Go.Proofs.YtmmnifbponhhfaaGreatT.BkImages
