/- What HistTells computes: true. Conditions: none. -/
import Derived.Test.YtmmnifbponhhfaaGreatTHistV
import Derived.Test.YtmmnifbponhhfaaGreatTBookP
import Derived.Test.YtmmnifbponhhfaaGreatTBookLNums
set_option linter.unusedSimpArgs false
set_option linter.unusedVariables false
namespace Go.Proofs.YtmmnifbponhhfaaGreatT
open Go.Sh Go.Sh.Hi
set_option maxRecDepth 100000
section
variable {w w' u u' : World} {Q : Value → World → Prop} {v x : Value} {L l : List Ev}
def CC (l : List Ev) : List (List Int) := if errF l = 0 then choicesF l else []
theorem cuts2_c (hr : Rd 6 w v l.length (flat encE l)) (hl : l.length ≤ 100000) (ho : ∀ x ∈ l, EvR w x) (hq : ∀ w' v' vs, K0 w w' → RC w' (siz w) v' vs (CC l) → Q (.tuple #[v', .int .i64 (errF l)]) w') :
    callS Tryz.prog 8 #[v] Q w := by
  refine cuts_c hr hl ho (fun w' v' vs he k rc => ?_) (fun w' he k => ?_)
  · have := hq w' v' vs k (by unfold CC; rw [if_pos he]; exact rc)
    rw [he] at this; exact this
  · exact hq w' _ [] k (by unfold CC; rw [if_neg he]; exact RC.nil)
theorem dcuts2_c (hr : Rd 6 w v l.length (flat encE l)) (hl : l.length ≤ 100000) (ho : ∀ x ∈ l, EvR w x) (hq : ∀ w' v' vs, K0 w w' → RC w' (siz w) v' vs (CC l) → Q (.tuple #[v', .int .i64 (errF l)]) w') :
    callS Tryz.prog 9 #[v] Q w := by
  refine dcuts_c hr hl ho (fun w' v' vs he k rc => ?_) (fun w' he k => ?_)
  · have := hq w' v' vs k (by unfold CC; rw [if_pos he]; exact rc)
    rw [he] at this; exact this
  · exact hq w' _ [] k (by unfold CC; rw [if_neg he]; exact RC.nil)
def JJ (l : List Ev) : Bool := if errF l = 0 then judgeF Z96 l else false
theorem judge2_c (hr : Rd 6 w v l.length (flat encE l)) (hl : l.length ≤ 300) (ho : ∀ x ∈ l, EvR w x) (hq : ∀ w', K0 w w' → Q (.tuple #[.bool (JJ l), .int .i64 (errF l)]) w') :
    callS Tryz.prog 18 #[v] Q w := by
  refine judge_c hr (by omega) ho (fun w' he k => ?_) (fun w' he k => ?_)
  · have := hq w' k
    unfold JJ at this; rw [if_pos he, he] at this; exact this
  · have := hq w' k
    unfold JJ at this; rw [if_neg he] at this; exact this
theorem djudge2_c (hr : Rd 6 w v l.length (flat encE l)) (hl : l.length ≤ 300) (ho : ∀ x ∈ l, EvR w x) (hq : ∀ w', K0 w w' → Q (.tuple #[.bool (JJ l), .int .i64 (errF l)]) w') :
    callS Tryz.prog 19 #[v] Q w := by
  refine djudge_c hr hl ho (fun w' he k => ?_) (fun w' he k => ?_)
  · have := hq w' k
    unfold JJ at this; rw [if_pos he, he] at this; exact this
  · have := hq w' k
    unfold JJ at this; rw [if_neg he] at this; exact this
theorem CC_len : ∀ c ∈ CC l, c.length ≤ 3000 := fun c hc => by
  unfold CC at hc
  split at hc
  · rename_i he
    obtain ⟨p, hp, rfl⟩ := List.mem_map.1 hc
    have hw : waysF (cutsR [] l) ≠ none := by
      intro h
      unfold errF at he
      rw [h] at he
      simp at he
    obtain ⟨n, hn⟩ := Option.ne_none_iff_exists'.1 hw
    have := (waysF_pos _ (cutsR_le _ _) hn).2.2 p hp
    simp only [rangeF, List.length_map, List.length_range]
    omega
  · cases hc
theorem CC_num : (CC l).length ≤ l.length := by
  unfold CC
  split
  · unfold choicesF; rw [List.length_map]; exact cutsR_len l []
  · simp
theorem RC.keepN {F : Nat → Prop} {B : Nat} {vs : List Value} {C : List (List Int)} (h : RC w B v vs C) (k : Keep F w w') (ko : ∀ {n : Nat} {z : Value} {xs : List Value}, Sh.Own w B 64 1 z n xs → Sh.Own w' B 64 1 z n xs) (hv : ∀ g, v.ownBlock = some g → ¬ F g) : RC w' B v vs C :=
  ⟨h.o.keep k hv, h.n, fun i h1 h2 => ko (h.each i h1 h2), h.dis⟩
theorem row_nums {cuts : List Int} (h : Row 1 w v cuts.length (fun i => .int .u64 (cuts.getD i 0))) : Rd 1 w v cuts.length (flat encN cuts) := by
  refine ⟨by rw [flat_len encN_len], ?_⟩
  rcases h with ⟨h0, h1⟩ | ⟨b, o, c, rfl, hn, hc⟩
  · exact .inl ⟨h0, h1⟩
  · refine .inr ⟨b, o, c, rfl, hn, fun j hj => ?_⟩
    rw [hc j hj]
    have := flat_get (enc := encN) encN_len (l := cuts) (i := j) (s := cuts[j]'(by omega)) (List.getElem?_eq_getElem (by omega)) (j := 0) (by omega)
    rw [Nat.mul_one, Nat.add_zero] at this
    rw [this]
    simp [List.getD_eq_getElem?_getD, List.getElem?_eq_getElem (show j < cuts.length by omega)]
theorem EvR.up {e : Ev} (he : EvR w e) (k : Keep (fun g => siz w ≤ g) w w') : EvR w' e := { he with r := he.r.keepB k fun g _ h => h, q := he.q.keepB k fun g _ h => h }
/-- The state between two rounds. -/
structure HT (w0 w : World) (b : Nat) (f : Nat → Value) (pN qN : List (Value × List Int)) (pI qI : List (Value × List Im)) (vx : Value) (L : List Ev) : Prop where
  bk : BkC Bk.tBk w b f
  Bb : siz w0 ≤ b
  kN : BkNums.KsX w (siz w0) f pN qN
  kI : BkImages.KsX w (siz w0) f pI qI
  nf : ∀ o, o < 30 → o ∉ [4, 5, 10, 11] → f o = .slice none 0 0
  kp : Keep (fun g => siz w0 ≤ g) w0 w
  x : Sh.Own w (siz w0) tDv 6 vx L.length (flat encE L)
variable {w0 : World} {b : Nat} {f f' : Nat → Value} {pN qN pN' qN' : List (Value × List Int)} {pI qI pI' qI' : List (Value × List Im)} {vx : Value}
theorem HT.k0 (h : HT w0 w b f pN qN pI qI vx L) (k : K0 w w') : HT w0 w' b f pN qN pI qI vx L where
  bk := h.bk.keep k id
  Bb := h.Bb
  kN := h.kN.keep0 k
  kI := h.kI.keep0 k
  nf := h.nf
  kp := h.kp.trans k.none
  x := h.x.keep k fun _ _ => id
theorem HT.addN (h : HT w0 w b f pN qN pI qI vx L) (hb : BkC Bk.tBk w' b f') (hne : ∀ o, o ≠ 4 → o ≠ 5 → f' o = f o) (hks : BkNums.KsX w' (siz w0) f' pN' qN') (k : KO (siz w0) (tys [Bk.tBk, 23]) w w') : HT w0 w' b f' pN' qN' pI qI vx L where
  bk := hb
  Bb := h.Bb
  kN := hks
  kI := by
    have := h.kI.ko k (fun _ => rfl) (fun _ => rfl)
    unfold BkImages.KsX
    rw [hne 10 (by decide) (by decide), hne 11 (by decide) (by decide)]; exact this
  nf := fun o ho hn => by
    rw [hne o (fun e => hn (by simp [e])) (fun e => hn (by simp [e]))]
    exact h.nf o ho hn
  kp := h.kp.trans (k.below (Nat.le_refl _))
  x := k.own h.x fun _ => rfl
theorem HT.addI (h : HT w0 w b f pN qN pI qI vx L) (hb : BkC Bk.tBk w' b f') (hne : ∀ o, o ≠ 10 → o ≠ 11 → f' o = f o) (hks : BkImages.KsX w' (siz w0) f' pI' qI') (k : KO (siz w0) (tys [Bk.tBk, 53]) w w') : HT w0 w' b f' pN qN pI' qI' vx L where
  bk := hb
  Bb := h.Bb
  kI := hks
  kN := by
    have := h.kN.ko k (fun _ => rfl) (fun _ => rfl)
    unfold BkNums.KsX
    rw [hne 4 (by decide) (by decide), hne 5 (by decide) (by decide)]; exact this
  nf := fun o ho hn => by
    rw [hne o (fun e => hn (by simp [e])) (fun e => hn (by simp [e]))]
    exact h.nf o ho hn
  kp := h.kp.trans (k.below (Nat.le_refl _))
  x := k.own h.x fun _ => rfl
set_option maxHeartbeats 8000000 in
theorem tells_law {pa : Option Addr} {ln ca : Nat} {xs : List (List Value)} {vc : Value} {cuts : List Int} (hl : xs.length = ln) (hL : Rd 6 w (.slice pa ln ca) ln xs.flatten) (_ : ln ≤ maxLen) (ho : ∀ x ∈ xs, AllOkW w evK x)
    (hv : Row 1 w vc cuts.length (fun i => .int .u64 (cuts.getD i 0))) (_ : cuts.length ≤ maxLen) (_ : ∀ n ∈ cuts, (Lit.int .u64 n).wf = true) (hq : ∀ w', Keep (fun b => siz w ≤ b) w w' → Q (.bool true) w') :
    callS Tryz.prog 3 #[.slice pa ln ca, vc] Q w := by
  obtain ⟨L, h1, h2, hA⟩ := evs_of ho
  rw [h2] at hL
  have hln : ln = L.length := by omega
  subst hln
  clear h1 h2 hl ho
  have hC := row_nums hv
  clear hv
  refine ref3 ?_
  unfold S3
  obtain ⟨pc, cc, rfl⟩ := hC.form
  refine small_c hL hA fun w1 b k1 hb => ?_
  cases b with
  | false =>
    simp only [pur_not, Bool.not_false, gd_tf, gd_undef, pur_pick_t, condS_true]
    exact alive_c fun w' k => hq w' (k1.trans k).none
  | true =>
  obtain ⟨hl210, hsm⟩ := hb rfl
  have ho : ∀ e ∈ L, EvR w e := fun e he => (hA e he).toR (hsm e he).1.1 (hsm e he).1.2 (hsm e he).2
  clear hA hsm hb
  by_cases h40 : (40 : Int) < (cuts.length : Int)
  · simp only [pur_not, Bool.not_true, gd_hit, ln_23, pur_gtr, h40, decide_true, pur_pick_f, condS_true]
    exact alive_c fun w' k => hq w' (k1.trans k).none
  simp only [pur_not, Bool.not_true, gd_hit, ln_23, pur_gtr, h40, decide_false, pur_pick_f, condS_false, bd_43_]
  rw [act_box]
  generalize hw2 : w1.alloc _ = w2
  have bb : BkC Bk.tBk w2 (siz w1) (fun _ => .slice none 0 0) := by rw [← hw2]; exact blk_alloc_new
  have k2 : K0 w1 w2 := by rw [← hw2]; exact (K0.refl w1).alloc _
  clear hw2
  have k12 := k1.trans k2
  have s1 := k1.size
  refine copies_c (hL.keep0 k12) (by omega) (fun e he => (ho e he).keep0 k12) fun w3 vx k3 ox => ?_
  have s12 := k12.size
  have h0 : HT w w3 (siz w1) (fun _ => .slice none 0 0) [] [] [] [] vx L :=
    { bk := bb.keep k3 id, Bb := s1, kN := KS.nil _ _ _ _ _ _ _, kI := KS.nil _ _ _ _ _ _ _, nf := fun _ _ _ => rfl, kp := (k12.trans k3).none, x := ox.le s12 }
  generalize siz w1 = b at h0
  clear bb k3 ox
  have evs : ∀ {u : World}, Keep (fun g => siz w ≤ g) w u → ∀ e ∈ L, EvR u e := fun k e he => (ho e he).up k
  have hLu : ∀ {u : World}, Keep (fun g => siz w ≤ g) w u → Rd 6 u (.slice pa L.length ca) L.length (flat encE L) := fun k => hL.keepB k fun g _ h => h
  have hCu : ∀ {u : World}, Keep (fun g => siz w ≤ g) w u → Rd 1 u (.slice pc cuts.length cc) cuts.length (flat encN cuts) := fun k => hC.keepB k fun g _ h => h
  have hno : ∀ e ∈ L, 0 ≤ e.lsn := fun e he => (ho e he).ls.1
  refine lpc1 2 (by omega) (fun _ u => ∃ f pN qN pI qI, HT w u b f pN qN pI qI vx L) ⟨_, _, _, _, _, h0⟩ (fun k u hk ⟨f, pN, qN, pI, qI, h⟩ J hJ => ?_) (fun u ⟨f, pN, qN, pI, qI, h⟩ J => ?_)
  · intro _j
    have hk' : ((k : Int) < 2) := by omega
    simp only [pur_lss, hk', decide_true, condS_true]
    refine BkNums.lent_c (hCu h.kp) (by omega) fun u1 m lm k1 => ?_
    have h1 := h.k0 k1
    refine cuts2_c (hLu h1.kp) (by omega) (evs h1.kp) fun u2 va vs k2 ra => ?_
    have h2 := h1.k0 k2
    simp only [pur_ext2_0, pur_ext2_1]
    refine dcuts2_c h2.x.rd (by omega) (evs h2.kp) fun u3 vb vt k3 rb => ?_
    have h3 := h2.k0 k3
    have lm3 := (lm.keep0 k2).keep0 k3
    have ra3 := ra.keep0 k3
    obtain ⟨pva, cva, hva⟩ := ra3.o.form
    obtain ⟨pvb, cvb, hvb⟩ := rb.o.form
    have hnn : vs.length = vt.length := by rw [ra.n, rb.n]
    have lnA : ∀ {k' : Value → Prop}, pur Tryz.prog (Builtin.len_ #[29] 3 #[va]) k' = k' (.int .i64 (vt.length : Int)) := by intro k'; rw [hva, ← hnn]; exact ln_29
    have lnB : ∀ {k' : Value → Prop}, pur Tryz.prog (Builtin.len_ #[29] 3 #[vb]) k' = k' (.int .i64 (vt.length : Int)) := by intro k'; rw [hvb]; exact ln_29
    have s0 := k1.size
    have s2 := k2.size
    have s3 := k3.size
    have hcn : (CC L).length ≤ L.length := CC_num
    have hvn : vt.length = (CC L).length := rb.n
    simp only [pur_ext2_0, pur_ext2_1, pur_neq, ne_eq, not_true_eq_false, decide_false, gd_hit, lnA, lnB, pur_pick_f, condS_false]
    refine lpc1 vt.length (by omega) (fun i u' => ∃ f pN qN, HT w u' b f pN qN pI qI vx L ∧ RC u' (siz u1) va vs (CC L) ∧ RC u' (siz u2) vb vt (CC L) ∧ BkNums.Lent u' (siz u) m cuts ∧ siz u3 ≤ siz u' ∧ ∀ g, kft (f 4) (f 5) pN qN g → g < siz u1 ∨ (∃ j, ∃ h : j < vs.length, j < i ∧ vs[j].ownBlock = some g) ∨ siz u3 ≤ g)
      ⟨f, pN, qN, h3, ra3, rb, lm3, Nat.le_refl _, fun g hg => .inl (by have := (h.kN.lt hg).2; omega)⟩ (fun i u4 hi ⟨f, pN, qN, h4, ra4, rb4, lm4, s4, hkf⟩ J2 hJ2 => ?_) (fun u4 ⟨f, pN, qN, h4, ra4, rb4, lm4, s4, hkf⟩ J2 => ?_)
    · intro _j
      have hi' : ((i : Int) < (vt.length : Int)) := by omega
      have hiv : i < vs.length := by omega
      have hic : i < (CC L).length := by omega
      have hcl : (CC L)[i].length ≤ 3000 := CC_len _ (List.getElem_mem hic)
      have kd : K0 u4 u4 := K0.refl u4
      obtain ⟨ga, ca', ea, _, _, _, _, _, hca⟩ := ra4.o.at (by omega)
      have ca1 : Sh.cel u4 ga i = some vs[i] := by rw [hca i (by omega), List.getElem?_eq_getElem hiv]
      have ixA : ∀ {k' : Value → Prop}, pur Tryz.prog (Instr.indexAt 29 va (.int .i64 (i : Int))) k' = k' (.pointer (some ⟨ga, i, none⟩)) := by intro k'; rw [ea, ix_29 hiv, Nat.zero_add]; try rw [Nat.mul_one]
      obtain ⟨gb, cb', eb, _, _, _, _, _, hcb⟩ := rb4.o.at (by omega)
      have cb1 : Sh.cel u4 gb i = some vt[i] := by rw [hcb i (by omega), List.getElem?_eq_getElem hi]
      have ixB : ∀ {k' : Value → Prop}, pur Tryz.prog (Instr.indexAt 29 vb (.int .i64 (i : Int))) k' = k' (.pointer (some ⟨gb, i, none⟩)) := by intro k'; rw [eb, ix_29 hi, Nat.zero_add]; try rw [Nat.mul_one]
      simp only [pur_lss, hi', decide_true, condS_true, ixA, ixB, rd_eq (rl_23 (kd.cel ca1 id))]
      have h4d := h4.k0 kd
      have ra4d := ra4.keep0 kd
      have rb4d := rb4.keep0 kd
      have hva3 : ∀ g, va.ownBlock = some g → siz u1 ≤ g ∧ g < siz u3 := fun g hg => ra3.o.lt hg
      have hvb3 : ∀ g, vb.ownBlock = some g → siz u2 ≤ g ∧ g < siz u3 := fun g hg => rb.o.lt hg
      obtain ⟨pe, ce, ee⟩ := (ra4d.each i hiv hic).form
      refine BkNums.add_c h4d.bk h4d.kN h4d.kp.size (xs := (CC L)[i]) ((ra4d.each i hiv hic).le (by have := h1.kp.size; omega)) (by omega) (by rw [ee]; exact one_slice) (fun g hg e => ?_) fun u5 f5 p5 q5 hb5 hne5 hk5 hs5 k5 => ?_
      · have hr := (ra3.each i hiv hic).lt hg
        rcases hkf g e with h9 | ⟨j, hj, hji, h9⟩ | h9
        · omega
        · exact ra3.dis j i hj hiv g hji h9 hg
        · omega
      have ko := BkNums.addKO h4d.bk h4d.Bb h4d.kN k5
      have h5 := h4d.addN hb5 hne5 hk5 ko
      have ko1 : ∀ {B n : Nat} {z : Value} {xs : List Value}, Sh.Own u4 B 64 1 z n xs → Sh.Own u5 B 64 1 z n xs := fun oz => ko.own oz fun _ => rfl
      have hnot : ∀ {vv : Value} {n B : Nat} {xs : List Value}, Sh.Own u4 B 23 1 vv n xs → (∀ g, vv.ownBlock = some g → siz u1 ≤ g ∧ g < siz u3) → ∀ g, vv.ownBlock = some g → ¬ (g = b ∨ (f 4).ownBlock = some g ∨ (f 5).ownBlock = some g) := fun {vv n B xs} ov hlt g hg hF => by
        have hl := hlt g hg
        have key : ¬ kft (f 4) (f 5) pN qN g := fun hkk => by
          rcases hkf g hkk with h9 | ⟨j, hj, hji, h9⟩ | h9
          · omega
          · exact own_ty ov (ra4d.each j hj (by omega)) (by decide) hg h9
          · omega
        rcases hF with hF | hF | hF
        · obtain ⟨_, cs, hc⟩ := ov.ty hg
          have := h4d.bk
          unfold BkC at this
          rw [← hF, hc] at this
          injection this with this
          injection this with _ this
          exact absurd this (by decide)
        · exact key (.inl (.inl hF))
        · exact key (.inr (.inl hF))
      have ra5 := ra4d.keepN k5 ko1 (hnot ra4d.o hva3)
      have rb5 := rb4d.keepN k5 ko1 (hnot rb4d.o fun g hg => by have := hvb3 g hg; omega)
      have kd5 : K0 u5 u5.drew := (K0.refl u5).drew
      have ra6 := ra5.keep0 kd5
      have rb6 := rb5.keep0 kd5
      obtain ⟨ga2, ca2, ea2, _, _, _, _, _, hca2⟩ := ra6.o.at (by omega)
      rw [ea] at ea2
      injection ea2 with ea2 _ _
      injection ea2 with ea2
      injection ea2 with ea2
      subst ea2
      obtain ⟨gb2, cb2, eb2, _, _, _, _, _, hcb2⟩ := rb6.o.at (by omega)
      rw [eb] at eb2
      injection eb2 with eb2 _ _
      injection eb2 with eb2
      injection eb2 with eb2
      subst eb2
      have ca3 : Sh.cel u5.drew ga i = some vs[i] := by rw [hca2 i (by omega), List.getElem?_eq_getElem hiv]
      have cb3 : Sh.cel u5.drew gb i = some vt[i] := by rw [hcb2 i (by omega), List.getElem?_eq_getElem hi]
      simp only [rd_eq (rl_23 ca3), rd_eq (rl_23 cb3)]
      refine BkNums.same_c (a := (CC L)[i]) (b := (CC L)[i]) (ra6.each i hiv hic).rd (rb6.each i hi hic).rd (by omega) fun u6 k6 => ?_
      simp only [eq_self, decide_true, pur_not, Bool.not_true, condS_false, pur_add]
      have k56 := kd5.trans k6
      have s5 := k5.size
      have s6 := k56.size
      have sd := kd.size
      refine hJ2 _ ⟨f5, p5, q5, h5.k0 k56, ra5.keep0 k56, rb5.keep0 k56, ((lm4.keep0 kd).ko ko fun _ => rfl).keep0 k56, by omega, fun g hg => ?_⟩
      rcases hs5 g hg with h9 | h9 | h9
      · rcases hkf g h9 with h9 | ⟨j, hj, hji, h9⟩ | h9
        · exact .inl h9
        · exact .inr (.inl ⟨j, hj, by omega, h9⟩)
        · exact .inr (.inr h9)
      · exact .inr (.inl ⟨i, hiv, by omega, h9⟩)
      · exact .inr (.inr (by omega))
    · intro _j
      have hi' : ¬ ((vt.length : Int) < (vt.length : Int)) := by omega
      simp only [pur_lss, hi', decide_false, condS_false]
      refine play_c (vc := m) (cuts := cuts) (hLu h4.kp) (by omega) (evs h4.kp) lm4.rd fun u5 vd ks k5 hp hs od => ?_
      have hD := told_play (z := Z96) (cuts := cuts) (l := L) hno hp hs
      have hkl : ks.length = (playD Z96 L cuts).a.length := by rw [← hD, List.length_map]
      rw [hD, hkl] at od
      have h5 := h4.k0 k5
      simp only [pur_ext2_0, pur_ext2_1]
      refine dplay_c h5.x.rd (by omega) (evs h5.kp) (hCu h5.kp) (by omega) fun u6 vh k6 oh hDl => ?_
      have h6 := h5.k0 k6
      have od6 := od.keep k6 fun _ _ => id
      generalize (playD Z96 L cuts).a = D at od6 oh hDl
      simp only [pur_ext2_0, pur_ext2_1]
      obtain ⟨pd, cd, ed⟩ := od6.form
      have s4w := h4.kp.size
      refine BkImages.add_c h6.bk h6.kI h6.kp.size (xs := D) (od6.le s4w) (by omega) (by rw [ed]; exact one_slice) (fun g hg e => ?_) fun u7 f7 p7 q7 hb7 hne7 hk7 hs7 k7 => ?_
      · have := (od6.lt hg).1
        have := (h4.kI.lt e).2
        omega
      have ko := BkImages.addKO h6.bk h6.Bb h6.kI k7
      have h7 := h6.addI hb7 hne7 hk7 ko
      have od7 := ko.own od6 fun _ => rfl
      have oh7 := ko.own oh fun _ => rfl
      have lm7 := ((lm4.keep0 k5).keep0 k6).ko ko fun _ => rfl
      simp only [bn_4, bne_self_eq_false, gd_hit, pur_pick_f]
      refine BkImages.same_c (a := D) (b := D) od7.rd oh7.rd (by omega) fun u8 k8 => ?_
      simp only [eq_self, decide_true, pur_not, Bool.not_true, gd_hit, pur_pick_f]
      have h8 := h7.k0 k8
      refine BkNums.stays_c (lm7.keep0 k8) (hCu h8.kp) (by omega) fun u9 k9 => ?_
      simp only [pur_not, Bool.not_true, pur_pick_f, condS_false, pur_add]
      exact hJ _ ⟨_, _, _, _, _, h8.k0 k9⟩
  · intro _j
    have hk' : ¬ (((2 : Nat) : Int) < 2) := by omega
    simp only [pur_lss, hk', decide_false, condS_false, ln_22, pur_gtr]
    by_cases hbig : (40 : Int) < (L.length : Int)
    · simp only [hbig, decide_true, condS_true]
      refine alive_c fun u1 k1 => ?_
      have h1 := h.k0 k1
      simp only [gd_hit]
      refine Bk.apart_c h1.bk h1.kp.size h1.nf h1.kN h1.kI fun u2 k2 => ?_
      simp only [pur_pick_t]
      exact hq _ (h1.kp.trans k2)
    · simp only [hbig, decide_false, condS_false]
      refine judge2_c (hLu h.kp) (by omega) (evs h.kp) fun u1 k1 => ?_
      have h1 := h.k0 k1
      simp only [pur_ext2_0, pur_ext2_1]
      refine djudge2_c h1.x.rd (by omega) (evs h1.kp) fun u2 k2 => ?_
      have h2 := h1.k0 k2
      simp only [pur_ext2_0, pur_ext2_1]
      refine alive_c fun u3 k3 => ?_
      have h3 := h2.k0 k3
      simp only [gd_hit, be_4, beq_self_eq_true, pur_pick_t, pur_eql, eq_self, decide_true]
      refine Bk.apart_c h3.bk h3.kp.size h3.nf h3.kN h3.kI fun u4 k4 => ?_
      try simp only [pur_pick_t]
      exact hq _ (h3.kp.trans k4)
end
end Go.Proofs.YtmmnifbponhhfaaGreatT
