/- A transaction beside the document's: the state of both. Conditions: as each says. -/
import Derived.Test.YtndjohbbaplekaaGreatXTxV
import Derived.Test.YtndjohbbaplekaaGreatXBookP
import Derived.Test.YtndjohbbaplekaaGreatXBookLLocks
set_option linter.unusedSimpArgs false
set_option linter.unusedVariables false
namespace Go.Proofs.YtndjohbbaplekaaGreatX
open Go.Sh Go.Proofs.YtndjohbbaplekaaGreatX.Mi
set_option maxRecDepth 100000
/-! ### images that rise, and a map of texts -/
abbrev TL := List (Int × ByteArray)
structure Srt (W : List Im) (m : TL) : Prop where
  ord : W.Pairwise fun p q => p.1 < q.1
  val : ∀ p ∈ W, p.2.1 = 0 ∧ lkp p.1 m = some p.2.2
  mem : ∀ x, (lkp x m).isSome = true → ∃ p ∈ W, p.1 = x
  nd : (m.map (·.1)).Nodup
theorem Srt.nil : Srt [] [] := ⟨.nil, fun p h => by simp at h, fun x h => by simp [lkp] at h, .nil⟩
theorem putL_mem {x p : Im} {last : Bool} : ∀ {l : List Im}, p ∈ putL x last l → p = x ∨ p ∈ l
  | [], h => by simp [putL] at h; exact .inl h
  | q :: l, h => by
    rw [putL] at h
    split at h
    · rcases List.mem_cons.1 h with h | h
      · exact .inr (by rw [h]; exact List.mem_cons_self)
      · exact (putL_mem h).imp id (List.mem_cons_of_mem _)
    · split at h
      · split at h
        · rcases List.mem_cons.1 h with h | h
          · exact .inl h
          · exact .inr (List.mem_cons_of_mem _ h)
        · exact .inr h
      · rcases List.mem_cons.1 h with h | h
        · exact .inl h
        · exact .inr h
theorem putL_key {x : Im} {last : Bool} : ∀ {l : List Im}, (∃ p ∈ putL x last l, p.1 = x.1) ∧ ∀ q ∈ l, ∃ p ∈ putL x last l, p.1 = q.1
  | [] => ⟨⟨x, by simp [putL], rfl⟩, fun q h => by simp at h⟩
  | q :: l => by
    rw [putL]
    split
    · obtain ⟨⟨p, hp, e⟩, h2⟩ := putL_key (x := x) (last := last) (l := l)
      refine ⟨⟨p, List.mem_cons_of_mem _ hp, e⟩, fun r hr => ?_⟩
      rcases List.mem_cons.1 hr with rfl | hr
      · exact ⟨_, List.mem_cons_self, rfl⟩
      · obtain ⟨p, hp, e⟩ := h2 r hr
        exact ⟨p, List.mem_cons_of_mem _ hp, e⟩
    · split
      · next h =>
        split
        · refine ⟨⟨x, List.mem_cons_self, rfl⟩, fun r hr => ?_⟩
          rcases List.mem_cons.1 hr with rfl | hr
          · exact ⟨x, List.mem_cons_self, h.symm⟩
          · exact ⟨r, List.mem_cons_of_mem _ hr, rfl⟩
        · exact ⟨⟨q, List.mem_cons_self, h⟩, fun r hr => ⟨r, hr, rfl⟩⟩
      · exact ⟨⟨x, List.mem_cons_self, rfl⟩, fun r hr => ⟨r, List.mem_cons_of_mem _ hr, rfl⟩⟩
theorem putL_ord {x : Im} {last : Bool} : ∀ {l : List Im}, (l.Pairwise fun p q => p.1 < q.1) → (putL x last l).Pairwise fun p q => p.1 < q.1
  | [], _ => by simp [putL]
  | q :: l, h => by
    obtain ⟨h1, h2⟩ := List.pairwise_cons.1 h
    rw [putL]
    split
    · next hlt =>
      refine List.pairwise_cons.2 ⟨fun r hr => ?_, putL_ord h2⟩
      rcases putL_mem hr with rfl | hr
      · exact hlt
      · exact h1 r hr
    · next hge =>
      split
      · next he =>
        split
        · exact List.pairwise_cons.2 ⟨fun r hr => by have := h1 r hr; omega, h2⟩
        · exact h
      · refine List.pairwise_cons.2 ⟨fun r hr => ?_, h⟩
        rcases List.mem_cons.1 hr with rfl | hr
        · omega
        · have := h1 r hr; omega
/-- Where the last one counts, the elder one of that block goes. -/
theorem putL_new {x p : Im} : ∀ {l : List Im}, (l.Pairwise fun p q => p.1 < q.1) → p ∈ putL x true l → p = x ∨ (p ∈ l ∧ p.1 ≠ x.1)
  | [], _, h => by simp [putL] at h; exact .inl h
  | q :: l, hs, h => by
    obtain ⟨h1, h2⟩ := List.pairwise_cons.1 hs
    rw [putL] at h
    split at h
    · next hlt =>
      rcases List.mem_cons.1 h with h | h
      · exact .inr ⟨by rw [h]; exact List.mem_cons_self, by rw [h]; omega⟩
      · exact (putL_new h2 h).imp id fun hh => ⟨List.mem_cons_of_mem _ hh.1, hh.2⟩
    · next hge =>
      split at h
      · next he =>
        rw [if_pos rfl] at h
        rcases List.mem_cons.1 h with h | h
        · exact .inl h
        · exact .inr ⟨List.mem_cons_of_mem _ h, by have := h1 p h; omega⟩
      · next hne =>
        rcases List.mem_cons.1 h with h | h
        · exact .inl h
        · refine .inr ⟨h, ?_⟩
          rcases List.mem_cons.1 h with rfl | h
          · exact hne
          · have := h1 p h; omega
/-- Where the first one counts, it stays. -/
theorem putL_old {x p : Im} : ∀ {l : List Im}, (l.Pairwise fun p q => p.1 < q.1) → p ∈ putL x false l → (p = x ∧ ∀ q ∈ l, q.1 ≠ x.1) ∨ p ∈ l
  | [], _, h => by simp [putL] at h; exact .inl ⟨h, fun q hq => by simp at hq⟩
  | q :: l, hs, h => by
    obtain ⟨h1, h2⟩ := List.pairwise_cons.1 hs
    rw [putL] at h
    split at h
    · next hlt =>
      rcases List.mem_cons.1 h with h | h
      · exact .inr (by rw [h]; exact List.mem_cons_self)
      · rcases putL_old h2 h with ⟨h3, h4⟩ | h3
        · refine .inl ⟨h3, fun r hr => ?_⟩
          rcases List.mem_cons.1 hr with rfl | hr
          · omega
          · exact h4 r hr
        · exact .inr (List.mem_cons_of_mem _ h3)
    · next hge =>
      split at h
      · rw [if_neg (by simp)] at h
        exact .inr h
      · next hne =>
        rcases List.mem_cons.1 h with h | h
        · refine .inl ⟨h, fun r hr => ?_⟩
          rcases List.mem_cons.1 hr with rfl | hr
          · exact hne
          · have := h1 r hr; omega
        · exact .inr h
theorem puA_keys {x : Int} {v : ByteArray} : ∀ {l : TL}, (lkp x l).isSome = true → (puA x v l).map (·.1) = l.map (·.1)
  | [], h => by simp [lkp] at h
  | p :: l, h => by
    by_cases e : p.1 = x
    · simp [puA, e]
    · simp only [lkp, e, if_false] at h
      simp only [puA, e, if_false, List.map_cons, puA_keys h]
theorem puA_keys' {x : Int} {v : ByteArray} : ∀ {l : TL}, lkp x l = none → (puA x v l).map (·.1) = l.map (·.1) ++ [x]
  | [], _ => rfl
  | p :: l, h => by
    by_cases e : p.1 = x
    · simp [lkp, e] at h
    · simp only [lkp, e, if_false] at h
      simp only [puA, e, if_false, List.map_cons, puA_keys' h, List.cons_append]
theorem puA_nd {x : Int} {v : ByteArray} {m : TL} (h : (m.map (·.1)).Nodup) : ((puA x v m).map (·.1)).Nodup := by
  cases hl : lkp x m with
  | some u => rw [puA_keys (by rw [hl]; rfl)]; exact h
  | none =>
    rw [puA_keys' hl, List.nodup_append]
    refine ⟨h, by simp, fun a ha b hb => ?_⟩
    rw [List.mem_singleton.1 hb]
    intro e
    subst e
    have := lkp_mem.2 ha
    rw [hl] at this; cases this
theorem Srt.put {W : List Im} {m : TL} (h : Srt W m) (x : Int) (p : ByteArray) : Srt (putL (x, 0, p) true W) (puA x p m) where
  ord := putL_ord h.ord
  val q hq := by
    rcases putL_new h.ord hq with rfl | ⟨h1, h2⟩
    · exact ⟨rfl, by rw [lkp_puA, if_pos rfl]⟩
    · rw [lkp_puA, if_neg h2]; exact h.val q h1
  mem y hy := by
    rw [lkp_puA] at hy
    by_cases e : y = x
    · subst e; exact putL_key.1
    · rw [if_neg e] at hy
      obtain ⟨q, hq, rfl⟩ := h.mem y hy
      exact putL_key.2 q hq
  nd := puA_nd h.nd
theorem Srt.mark {W : List Im} {m : TL} (h : Srt W m) (x : Int) (p : ByteArray) : Srt (putL (x, 0, p) false W) (if (lkp x m).isSome then m else puA x p m) := by
  cases hl : lkp x m with
  | some u =>
    obtain ⟨r, hr, hrx⟩ := h.mem x (by rw [hl]; rfl)
    rw [if_pos (by simp)]
    exact
      { ord := putL_ord h.ord
        val := fun q hq => by
          rcases putL_old h.ord hq with ⟨_, h2⟩ | h1
          · exact absurd hrx (h2 r hr)
          · exact h.val q h1
        mem := fun y hy => by
          obtain ⟨q, hq, rfl⟩ := h.mem y hy
          exact putL_key.2 q hq
        nd := h.nd }
  | none =>
    rw [if_neg (by simp)]
    exact
      { ord := putL_ord h.ord
        val := fun q hq => by
          rcases putL_old h.ord hq with ⟨rfl, _⟩ | h1
          · exact ⟨rfl, by rw [lkp_puA, if_pos rfl]⟩
          · have h2 := h.val q h1
            rw [lkp_puA, if_neg (fun e => by rw [e, hl] at h2; cases h2.2)]
            exact h2
        mem := fun y hy => by
          rw [lkp_puA] at hy
          by_cases e : y = x
          · subst e; exact putL_key.1
          · rw [if_neg e] at hy
            obtain ⟨q, hq, rfl⟩ := h.mem y hy
            exact putL_key.2 q hq
        nd := puA_nd h.nd }
theorem sorted_eq : ∀ {a b : List Int}, a.Perm b → a.Pairwise (· ≤ ·) → b.Pairwise (· < ·) → a = b
  | [], b, h, _, _ => h.nil_eq
  | x :: a, [], h, _, _ => by have := h.length_eq; simp at this
  | x :: a, y :: b, h, h1, h2 => by
    have e : x = y := by
      have hx : x ∈ y :: b := h.mem_iff.1 List.mem_cons_self
      have hy : y ∈ x :: a := h.mem_iff.2 List.mem_cons_self
      rcases List.mem_cons.1 hx with e | hx
      · exact e
      · rcases List.mem_cons.1 hy with e | hy
        · exact e.symm
        · have h3 := (List.pairwise_cons.1 h1).1 y hy
          have h4 := (List.pairwise_cons.1 h2).1 x hx
          omega
    subst e
    rw [sorted_eq (List.perm_cons x |>.1 h) (List.pairwise_cons.1 h1).2 (List.pairwise_cons.1 h2).2]
theorem Srt.keys {W : List Im} {m : TL} (h : Srt W m) : (W.map (·.1)).Perm (m.map (·.1)) := by
  refine (List.perm_ext_iff_of_nodup ?_ h.nd).2 fun x => ?_
  · exact List.Pairwise.map _ (fun a b hab => by intro e; have hab : a.1 < b.1 := hab; omega) h.ord
  · rw [← lkp_mem]
    constructor
    · intro hx
      obtain ⟨p, hp, rfl⟩ := List.mem_map.1 hx
      rw [(h.val p hp).2]; rfl
    · intro hx
      obtain ⟨p, hp, rfl⟩ := h.mem x hx
      exact List.mem_map.2 ⟨p, hp, rfl⟩
theorem Srt.len {W : List Im} {m : TL} (h : Srt W m) : W.length = m.length := by
  have := h.keys.length_eq
  simpa using this
theorem Srt.imgs {W : List Im} {m : TL} (h : Srt W m) {ks : List Int} (hp : ks.Perm (m.map (·.1))) (hs : ks.Pairwise (· ≤ ·)) : imgs m ks = W := by
  have e : ks = W.map (·.1) := sorted_eq (hp.trans h.keys.symm) hs (List.Pairwise.map _ (fun _ _ h => h) h.ord)
  subst e
  unfold Go.Proofs.YtndjohbbaplekaaGreatX.imgs
  rw [List.map_map]
  have : ∀ p ∈ W, ((fun k => (k, (0 : Int), (lkp k m).getD ⟨#[]⟩)) ∘ fun p : Im => p.1) p = p := fun p hp => by
    obtain ⟨h1, h2⟩ := h.val p hp
    simp only [Function.comp, h2, Option.getD_some, ← h1]
  rw [List.map_congr_left this, List.map_id']
theorem Srt.known {W : List Im} {m : TL} (h : Srt W m) (x : Int) : (W.any fun p => decide (p.1 = x)) = (lkp x m).isSome := by
  rw [Bool.eq_iff_iff, List.any_eq_true]
  constructor
  · rintro ⟨p, hp, e⟩
    rw [← of_decide_eq_true e, (h.val p hp).2]; rfl
  · intro hx
    obtain ⟨p, hp, e⟩ := h.mem x hx
    exact ⟨p, hp, decide_eq_true e⟩
section
variable {w w' w0 : World} {Q : Value → World → Prop} {B b t : Nat} {s s' : TS} {vl vw vr vl' vw' vr' : Value} {W R W' R' : List Im} {f f' : Nat → Value} {pL qL pL' qL' : List (Value × List I3)} {pI qI pI' qI' : List (Value × List Im)}
theorem TX.ko {A : Nat} {p : Obj → Bool} (h : TX w B t s) (k : KO A p w w') (h1 : ∀ cs, p (.cells cs 210) = false) (h2 : ∀ cs, p (.cells cs 95) = false) (h3 : ∀ cs, p (.cells cs 201) = false) (h4 : ∀ es c, p (.map es c) = false) : TX w' B t s := by
  obtain ⟨m, a, b, h⟩ := h
  have hm : ∀ {a : Nat} {l : TL}, TM w a l → ¬ Kd A p w a := fun {a l} hm hk => by
    obtain ⟨es, c, hb⟩ := tm_blk hm
    obtain ⟨o, ho, hp⟩ := hk.2
    rw [hb] at ho; injection ho with ho; subst ho
    rw [h4] at hp; cases hp
  obtain ⟨sl, i1, i2, i3⟩ := h.im
  exact ⟨m, a, b, { h with ct := k.blk h.ct (h1 _), im := ⟨sl, k.blk i1 (h2 _), k.own i2 h3, i3⟩, ma := h.ma.keep k (hm h.ma), mb := h.mb.keep k (hm h.mb) }⟩
theorem TX.canon (h : TX w B t s) : Canon s.l := by
  obtain ⟨m, a, b, h⟩ := h
  exact h.im.canon
theorem TX.shok (h : TX w B t s) : s.sh.ok := by
  obtain ⟨m, a, b, h⟩ := h
  exact h.ok
/-- A transaction, and the document's. -/
structure TP (w0 : World) (B : Nat) (w : World) (b t : Nat) (s : TS) (vl vw vr : Value) (W R : List Im) (f : Nat → Value) (pL qL : List (Value × List I3)) (pI qI : List (Value × List Im)) : Prop where
  tx : TX w B t s
  lk : RM w B vl s.l
  ow : Own w B 138 3 vw W.length (flat BkImages.enc W)
  orr : Own w B 138 3 vr R.length (flat BkImages.enc R)
  bk : BkC Bk.tBk w b f
  Bb : B ≤ b
  kL : BkLocks.KsX w B f pL qL
  kI : BkImages.KsX w B f pI qI
  nf : ∀ o, o < 30 → o ∉ [8, 9, 10, 11] → f o = .slice none 0 0
  kp : Keep (fun g => B ≤ g) w0 w
  Bw : B ≤ siz w
/-- What is true of both, in plain words. -/
structure TPl (s : TS) (W R : List Im) (n : Nat) : Prop where
  sw : Srt W s.wr
  sr : Srt R s.rd
  lw : W.length ≤ n
  lr : R.length ≤ n
  rng : ∀ x v, valB s.l x = some v → (0 ≤ x ∧ x < 4096) ∧ (v = 1 ∨ v = 2)
  ch : ChN s.l (40 + 2 * n)
  wf1 : ∀ p ∈ s.wr, (Lit.int .i64 p.1).wf = true
  wf2 : ∀ p ∈ s.rd, (Lit.int .i64 p.1).wf = true
theorem TP.k0 (h : TP w0 B w b t s vl vw vr W R f pL qL pI qI) (k : K0 w w') : TP w0 B w' b t s vl vw vr W R f pL qL pI qI where
  tx := h.tx.keep0 k
  lk := RM.keep0 h.lk k
  ow := h.ow.keep k fun _ _ => id
  orr := h.orr.keep k fun _ _ => id
  bk := h.bk.keep k id
  Bb := h.Bb
  kL := h.kL.keep0 k
  kI := h.kI.keep0 k
  nf := h.nf
  kp := h.kp.trans k.none
  Bw := Nat.le_trans h.Bw k.size
/-- The transaction turns. -/
theorem TP.turn (h : TP w0 B w b t s vl vw vr W R f pL qL pI qI) (hx : TX w' B t s') (hl : s'.l = s.l) (k : KO B tp w w') : TP w0 B w' b t s' vl vw vr W R f pL qL pI qI where
  tx := hx
  lk := by rw [hl]; exact k.own h.lk fun _ => rfl
  ow := k.own h.ow fun _ => rfl
  orr := k.own h.orr fun _ => rfl
  bk := h.bk.ko k fun _ => rfl
  Bb := h.Bb
  kL := h.kL.ko k (fun _ => rfl) (fun _ => rfl)
  kI := h.kI.ko k (fun _ => rfl) (fun _ => rfl)
  nf := h.nf
  kp := h.kp.trans (k.below (Nat.le_refl _))
  Bw := Nat.le_trans h.Bw k.size
/-- The transaction grows, and the document's locks. -/
theorem TP.grow (h : TP w0 B w b t s vl vw vr W R f pL qL pI qI) (hx : TX w' B t s') (hl : RM w' B vl' s'.l) (k : KO B tp w w') : TP w0 B w' b t s' vl' vw vr W R f pL qL pI qI where
  tx := hx
  lk := hl
  ow := k.own h.ow fun _ => rfl
  orr := k.own h.orr fun _ => rfl
  bk := h.bk.ko k fun _ => rfl
  Bb := h.Bb
  kL := h.kL.ko k (fun _ => rfl) (fun _ => rfl)
  kI := h.kI.ko k (fun _ => rfl) (fun _ => rfl)
  nf := h.nf
  kp := h.kp.trans (k.below (Nat.le_refl _))
  Bw := Nat.le_trans h.Bw k.size
theorem TP.addL (h : TP w0 B w b t s vl vw vr W R f pL qL pI qI) (hb : BkC Bk.tBk w' b f') (hne : ∀ o, o ≠ 8 → o ≠ 9 → f' o = f o) (hks : BkLocks.KsX w' B f' pL' qL') (k : KO B (tys [Bk.tBk, 109]) w w') : TP w0 B w' b t s vl vw vr W R f' pL' qL' pI qI where
  tx := h.tx.ko k (fun _ => rfl) (fun _ => rfl) (fun _ => rfl) (fun _ _ => rfl)
  lk := k.own h.lk fun _ => rfl
  ow := k.own h.ow fun _ => rfl
  orr := k.own h.orr fun _ => rfl
  bk := hb
  Bb := h.Bb
  kL := hks
  kI := by
    have := h.kI.ko k (fun _ => rfl) (fun _ => rfl)
    unfold BkImages.KsX
    rw [hne 10 (by decide) (by decide), hne 11 (by decide) (by decide)]; exact this
  nf := fun o ho hn => by
    rw [hne o (fun e => hn (by simp [e])) (fun e => hn (by simp [e]))]
    exact h.nf o ho hn
  kp := h.kp.trans (k.below (Nat.le_refl _))
  Bw := Nat.le_trans h.Bw k.size
theorem TP.addI (h : TP w0 B w b t s vl vw vr W R f pL qL pI qI) (hb : BkC Bk.tBk w' b f') (hne : ∀ o, o ≠ 10 → o ≠ 11 → f' o = f o) (hks : BkImages.KsX w' B f' pI' qI') (k : KO B (tys [Bk.tBk, 131]) w w') : TP w0 B w' b t s vl vw vr W R f' pL qL pI' qI' where
  tx := h.tx.ko k (fun _ => rfl) (fun _ => rfl) (fun _ => rfl) (fun _ _ => rfl)
  lk := k.own h.lk fun _ => rfl
  ow := k.own h.ow fun _ => rfl
  orr := k.own h.orr fun _ => rfl
  bk := hb
  Bb := h.Bb
  kI := hks
  kL := by
    have := h.kL.ko k (fun _ => rfl) (fun _ => rfl)
    unfold BkLocks.KsX
    rw [hne 8 (by decide) (by decide), hne 9 (by decide) (by decide)]; exact this
  nf := fun o ho hn => by
    rw [hne o (fun e => hn (by simp [e])) (fun e => hn (by simp [e]))]
    exact h.nf o ho hn
  kp := h.kp.trans (k.below (Nat.le_refl _))
  Bw := Nat.le_trans h.Bw k.size
theorem tlocks_c (h : TX w B t s) (hl : s.l.length ≤ 100000) (hq : ∀ w' v', Own w' (siz w) 143 3 v' (asLocks s.l).length (flat enc3 (asLocks s.l)) → K0 w w' → Q v' w') :
    callS Tryz.prog 87 #[.pointer (some ⟨t, 0, none⟩)] Q w := by
  refine ref87 ?_
  unfold S87
  refine tnone_c h ?_
  obtain ⟨m, a, b, h⟩ := h
  have c5 : Sh.cel w t 5 = some (.pointer (some ⟨m, 0, none⟩)) := h.cel 5
  have c1 := c5
  simp only [stp, Nat.reduceAdd, Int.reduceLT, Int.reduceLE, Int.reduceEq, Int.reduceNe, ne_eq, bne_self_eq_false, beq_self_eq_true, stm, c5, Option.isSome_some, Option.getD_some]
  refine all_c h.im (by omega) fun w1 v1 o1 k1 => ?_
  have s1 := k1.size
  obtain ⟨pa, ca, rfl⟩ := o1.form
  simp only [stp, Nat.reduceAdd, Int.reduceLT, Int.reduceLE, Int.reduceEq, Int.reduceNe, ne_eq, bne_self_eq_false, beq_self_eq_true]
  refine lpc2 s.l.length (by omega) (fun i x w' => K0 w1 w' ∧ Own w' (siz w1) 143 3 x i (flat enc3 (asLocks (s.l.take i)))) ⟨K0.refl _, Own.nil _ _ _ _⟩ (fun i x w2 hlt ⟨k2, o2⟩ J hJ => ?_) (fun x w2 ⟨k2, o2⟩ J => ?_)
  · intro _j
    have hlt' : ((i : Int) < (s.l.length : Int)) := by omega
    have hsi : s.l[i]? = some s.l[i] := List.getElem?_eq_getElem hlt
    obtain ⟨g, cg, e, _, _, _, _, _, hcel⟩ := (o1.keep k2 fun _ _ => id).at (by omega)
    injection e with e1 _ e2
    subst e1 e2
    obtain ⟨p0, p1, p2⟩ := parts_at (ev := ev) (b := g) (o := 0) (l := s.l) (fun j hj => by rw [Nat.zero_add]; exact hcel j hj) hsi
    rw [Nat.zero_add] at p0 p1 p2
    simp only [stp, Nat.reduceAdd, Int.reduceLT, Int.reduceLE, Int.reduceEq, Int.reduceNe, ne_eq, bne_self_eq_false, beq_self_eq_true, hlt']
    rw [ix_93 hlt]
    simp only [stp, Nat.reduceAdd, Int.reduceLT, Int.reduceLE, Int.reduceEq, Int.reduceNe, ne_eq, bne_self_eq_false, beq_self_eq_true, stm, p0, p1, p2]
    have k3 := (K0.refl w2).alloc (.cells #[.int .i64 s.l[i].1.1, .int .i64 s.l[i].1.2, ev s.l[i].2] 201)
    have o3 := o2.keep k3 fun _ _ => id
    have s12 := k2.size
    have s23 := k3.size
    refine pu_109 o3 (by intro u hu; simp only [List.mem_cons, List.not_mem_nil, or_false] at hu; rcases hu with rfl | rfl | rfl <;> exact one_int) (by omega) (by omega) fun v' w' ho hk hr => ?_
    refine hJ _ _ ⟨(k2.trans k3).trans' hk fun b hb e => by have := (o3.lt e).1; omega, ?_⟩
    have e9 : asLocks (s.l.take (i + 1)) = asLocks (s.l.take i) ++ [(s.l[i].1.1, s.l[i].1.2, s.l[i].2)] := by
      rw [List.take_add_one, hsi, Option.toList_some]; unfold asLocks; rw [List.map_append]; rfl
    rw [e9, flat_append]
    exact ho
  · intro _j
    have hlt' : ¬ ((s.l.length : Int) < (s.l.length : Int)) := by omega
    simp only [stp, Nat.reduceAdd, Int.reduceLT, Int.reduceLE, Int.reduceEq, Int.reduceNe, ne_eq, bne_self_eq_false, beq_self_eq_true, hlt']
    rw [List.take_length] at o2
    exact hq _ _ (by rw [asLocks_len]; exact o2.le s1) (k1.trans k2)
theorem rpad_d {d : ByteArray} (hd : d.size ≤ 9223372036854775807) (hq : ∀ w', K0 w w' → Q (.tuple #[.string (if 96 < d.size then ⟨#[]⟩ else padF d), .int .i64 (if 96 < d.size then 2 else 0)]) w') :
    callS Tryz.prog 80 #[.string d] Q w := by
  refine rpad_c hd (fun h => ?_) (fun w' h k => ?_)
  · have := hq w (K0.refl w)
    rwa [if_pos h, if_pos h] at this
  · have := hq w' k
    rwa [if_neg (by omega), if_neg (by omega)] at this
end
end Go.Proofs.YtndjohbbaplekaaGreatX
