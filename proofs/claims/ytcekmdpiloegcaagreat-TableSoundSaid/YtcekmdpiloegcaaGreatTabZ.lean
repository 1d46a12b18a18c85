/- The table of locks, apart from memory: each call leaves all fine. Conditions: as each says. -/
import Derived.Test.YtcekmdpiloegcaaGreatTabY
set_option linter.unusedSimpArgs false
set_option linter.unusedVariables false
namespace Go.Proofs.YtcekmdpiloegcaaGreat
open Go.Sh Go.Proofs.YtcekmdpiloegcaaGreat.Mi
set_option maxRecDepth 100000
section
variable {s : TS} {a b md keep : Int} {i : Nat}
theorem fine_fresh {n : Int} (hn : 1 ≤ n ∧ n ≤ 16) : Fine (TS.fresh n) := by
  have hb : ∀ o x v, bl (TS.fresh n) o x = some v → False := fun o x v h => by rw [bl_fresh] at h; cases h
  exact ⟨Pu.fresh hn, ⟨Nat.zero_le _, fun k hk => by cases hk⟩, fun k hk => (by cases hk), fun o x v h => (hb o x v h).elim, fun n o x u v _ _ _ _ _ h _ => (hb _ _ _ h).elim, fun k r e => by cases e⟩
theorem bl_bare (h : s.hs.length = 17) (hi : i < 17) (o : Nat) (x : Int) : bl (s.bare i) o x = if o = i then none else bl s o x := by
  unfold bl TS.bare
  by_cases e : o = i
  · subst e
    rw [if_pos rfl, List.getElem?_set_self (by rw [h]; exact hi)]; rfl
  · rw [if_neg e, List.getElem?_set_ne (fun h => e h.symm)]
theorem fine_drop (f : Fine s) (hi : i < 17) (q : I5 → Bool) : Fine ((s.bare i).thin q).granted := by
  have hb := bl_bare f.p.hn hi
  have low : ∀ o x v, bl (s.bare i) o x = some v → bl s o x = some v := fun o x v h => by
    rw [hb] at h
    split at h
    · cases h
    · exact h
  have p : Pu (s.bare i) := ⟨by unfold TS.bare; rw [List.length_set]; exact f.p.hn, f.p.nn, fun l hl => by
    rcases List.mem_or_eq_of_mem_set hl with h | h
    · exact f.p.li l h
    · rw [h]; exact Canon.nil, fun o x hx => by
    cases e : bl (s.bare i) o x with
    | none => exact absurd e hx
    | some v => exact f.p.su o x (by rw [low o x v e]; simp)⟩
  refine fine_granted ⟨p.hn, p.nn, p.li, p.su⟩ (f.ok.filter q) (WsN.thin (s := s.bare i) f.wn q) (fun o x v h => f.v o x v (low o x v h)) fun n o x u v h1 h2 h3 h4 h5 hv hu => ?_
  exact f.sd n o x u v h1 h2 h3 h4 h5 (low n x v hv) (low o x u hu)
theorem fine_force (f : Fine s) {node : Int} (hn : node = (i : Int)) (hr : rightA s node a b md) (hf : fitsP s node a b md) : Fine (s.raise i a b md) := by
  have hi : i < 17 := by have := hr.1; have := f.p.nn; omega
  have hr2 : ok (a, b) ∧ b ≤ 4096 ∧ (md = 1 ∨ md = 2) := hr.2
  refine fine_raise f hi hr2.1.1 hr2.2.1 hr2.2.2 fun x hx hh => ?_
  obtain ⟨o, h1, h2, h3, v, hv, hne⟩ := hh
  have hnn := f.p.nn
  have hhn := f.p.hn
  have eo : s.hs[o]? = some s.hs[o] := List.getElem?_eq_getElem (by omega)
  unfold bl at hv
  rw [eo] at hv
  obtain ⟨p, hp, hpx, rfl⟩ := part_of (f.p.li _ (List.getElem_mem (by omega))) (a := a) (b := b) hx hv
  exact hne (hf o _ h1 h2 (by omega) eo p hp)
theorem fine_ask (f : Fine s) (hr : rightA s (i : Int) a b md) (hf : freeP s (i : Int) a b md) : Fine (s.raise i a b md) := by
  have hi : i < 17 := by have := hr.1; have := f.p.nn; omega
  have hr2 : ok (a, b) ∧ b ≤ 4096 ∧ (md = 1 ∨ md = 2) := hr.2
  exact fine_raise f hi hr2.1.1 hr2.2.1 hr2.2.2 fun x hx hh => f.p.free.1 hf x hx (.inl hh)
end
end Go.Proofs.YtcekmdpiloegcaaGreat
/- The table of locks, apart from memory: what hinders the first that waits is to be let go. Conditions: as each says. -/
namespace Go.Proofs.YtcekmdpiloegcaaGreat
open Go.Sh Go.Proofs.YtcekmdpiloegcaaGreat.Mi
set_option maxRecDepth 100000
section
variable {s : TS} {a b md keep : Int} {i : Nat}
theorem rev1_ext (k : I5) (g : RS) (n : Nat) : ∃ l, (rev1 s k g n).2 = g.2 ++ l := by
  unfold rev1
  split
  · exact ⟨[], by simp⟩
  · exact ⟨_, rfl⟩
theorem revK_ext (k : I5) (g : RS) : ∀ n, ∃ l, (revK s k g n).2 = g.2 ++ l
  | 0 => ⟨[], by simp [revK]⟩
  | n + 1 => by
    obtain ⟨l, h⟩ := revK_ext k g n
    obtain ⟨l', h'⟩ := rev1_ext (s := s) k (revK s k g n) (n + 1)
    exact ⟨l ++ l', by rw [revK, h', h, List.append_assoc]⟩
theorem revG_ext : ∀ (W : List I5) (g : RS), ∃ l, (W.foldl (fun g k => revK s k g s.nodes.toNat) g).2 = g.2 ++ l
  | [], g => ⟨[], by simp⟩
  | k :: W, g => by
    obtain ⟨l, h⟩ := revK_ext (s := s) k g s.nodes.toNat
    obtain ⟨l', h'⟩ := revG_ext W (revK s k g s.nodes.toNat)
    exact ⟨l ++ l', by rw [List.foldl_cons, h', h, List.append_assoc]⟩
theorem revK_told (k : I5) (g : RS) : ∀ (n o : Nat), n < o → (revK s k g n).1[o]? = g.1[o]?
  | 0, o, _ => rfl
  | n + 1, o, h => by
    have ih := revK_told k g n o (by omega)
    rw [revK, rev1]
    split
    · exact ih
    · rw [← ih]
      exact List.getElem?_set_ne (by omega)
theorem revK_mem (k : I5) (g : RS) : ∀ (n o : Nat), 1 ≤ o → o ≤ n → (o : Int) ≠ k.2.1 → ∀ e ∈ asR o (canonL (revN s k (revK s k g (o - 1)).1 o)), e ∈ (revK s k g n).2
  | 0, o, h1, h2, _ => by omega
  | n + 1, o, h1, h2, hne => fun e he => by
    by_cases ho : o = n + 1
    · subst ho
      rw [revK, rev1, if_neg hne]
      exact List.mem_append_right _ he
    · obtain ⟨l, h⟩ := rev1_ext (s := s) k (revK s k g n) (n + 1)
      rw [revK, h]
      exact List.mem_append_left _ (revK_mem k g n o h1 (by omega) hne e he)
/-- All that hinders the first one is to be let go. -/
theorem rev_first (f : Fine s) {k : I5} {r : List I5} (hw : s.ws = k :: r) {o : Nat} {x v : Int} (h1 : 1 ≤ o) (h2 : (o : Int) ≤ s.nodes) (h3 : (o : Int) ≠ k.2.1) (hx : hasB (k.2.2.1, k.2.2.2.1) x) (hv : bl s o x = some v) (hn : ¬ fitP v k.2.2.2.2) :
    ∃ e ∈ revF s, e.1 = (o : Int) ∧ hasB (e.2.1, e.2.2.1) x ∧ e.2.2.2 = keepsF k.2.2.2.2 v := by
  have hnn := f.p.nn
  have ht : (revK s k (List.replicate 17 [], []) (o - 1)).1[o]? = some [] := by
    rw [revK_told k _ (o - 1) o (by omega)]
    show (List.replicate 17 ([] : List (Pt Int)))[o]? = some []
    rw [List.getElem?_replicate, if_pos (by omega)]
  have htold : ∀ y, toldB (revK s k (List.replicate 17 [], []) (o - 1)).1 o y = none := fun y => by unfold toldB; rw [ht]; rfl
  have hr : revN s k (revK s k (List.replicate 17 [], []) (o - 1)).1 o x = some (keepsF k.2.2.2.2 v) := by
    unfold revN revB
    rw [if_pos hx, hv]
    dsimp only
    rw [if_neg hn, htold]; rfl
  have hs : Sup (revN s k (revK s k (List.replicate 17 [], []) (o - 1)).1 o) := fun y hy => by
    refine f.p.su o y fun e => hy ?_
    unfold revN revB
    split
    · rw [e]
    · rfl
  have hc := canonL_val hs x
  rw [hr] at hc
  obtain ⟨p, hp, hpx, hp2⟩ := valB_some hc
  refine ⟨((o : Int), p.1.1, p.1.2, p.2), ?_, rfl, hpx, hp2⟩
  unfold revF revG
  rw [hw, List.foldl_cons]
  obtain ⟨l, h⟩ := revG_ext (s := s) r (revK s k (List.replicate 17 [], []) s.nodes.toNat)
  rw [h]
  refine List.mem_append_left _ (revK_mem k _ _ o h1 (by omega) h3 _ ?_)
  exact List.mem_map.2 ⟨p, hp, rfl⟩
/-- Where one waits, something is to be let go. -/
theorem rev_some (f : Fine s) (hw : s.ws ≠ []) : revF s ≠ [] := fun h => by
  cases e : s.ws with
  | nil => exact hw e
  | cons k r =>
    obtain ⟨x, hx, o, h1, h2, h3, v, hv, hn⟩ := f.hd k r e
    obtain ⟨e', he, _⟩ := rev_first f e h1 h2 h3 hx hv hn
    rw [h] at he; cases he
end
end Go.Proofs.YtcekmdpiloegcaaGreat
/- The table of locks, apart from memory: each round lets one through. Conditions: as each says. -/
namespace Go.Proofs.YtcekmdpiloegcaaGreat
open Go.Sh Go.Proofs.YtcekmdpiloegcaaGreat.Mi
set_option maxRecDepth 100000
section
variable {s s' : TS} {a b md keep : Int} {i : Nat}
theorem grant_same (s : TS) : ∀ (n : Nat) (W : List I5), W.length = n → (grantG s W).2.1.length = n → (grantG s W).1 = s ∧ (grantG s W).2.1 = W
  | 0, W, h, _ => by rw [List.length_eq_zero_iff.1 h]; exact ⟨rfl, rfl⟩
  | n + 1, W, h, hl => by
    rcases List.eq_nil_or_concat W with rfl | ⟨V, k, rfl⟩
    · cases h
    · rw [List.concat_eq_append] at *
      have hV : V.length = n := by simpa using h
      have hle := (grantG_len s n V hV).1
      have ih := grant_same s n V hV
      rw [grantG_snoc] at hl ⊢
      unfold gr1 at hl ⊢
      split at hl
      · rename_i hc
        rw [if_pos hc]
        have : (grantG s V).2.1.length = n := by simpa using hl
        obtain ⟨h1, h2⟩ := ih this
        exact ⟨h1, by dsimp only; rw [h2]⟩
      · dsimp only at hl
        omega
theorem granted_same (h : s.granted.ws.length = s.ws.length) : s.granted = s := by
  obtain ⟨h1, h2⟩ := grant_same s s.ws.length s.ws rfl h
  unfold TS.granted
  rw [h1, h2]
def relR (s : TS) (e : R4) : TS := (s.release e.1.toNat e.2.1 e.2.2.1 e.2.2.2).granted
structure RevOk (n : Int) (e : R4) : Prop where
  nd : 1 ≤ e.1 ∧ e.1 ≤ n
  sp : ok (e.2.1, e.2.2.1)
  kp : e.2.2.2 = 0 ∨ e.2.2.2 = 1
/-- Nobody was let through: what is held only fell. -/
structure Low (s s' : TS) (done : List R4) : Prop where
  w : s'.ws = s.ws
  lo : ∀ o x v, bl s' o x = some v → ∃ u, bl s o x = some u ∧ (v = u ∨ (v = 1 ∧ u = 2))
  dn : ∀ e ∈ done, ∀ x, hasB (e.2.1, e.2.2.1) x → ∀ v, bl s' e.1.toNat x = some v → v ≤ e.2.2.2
theorem rel_le {f : Int → Option Int} {x v : Int} (hk : keep = 0 ∨ keep = 1) (hx : hasB (a, b) x) (h : relF f (a, b) keep x = some v) : v ≤ keep := by
  unfold relF at h
  rw [if_pos hx] at h
  cases e : f x with
  | none => rw [e] at h; cases h
  | some u =>
    rw [e] at h
    dsimp only at h
    unfold relV at h
    split at h
    · have h : u = v := Option.some.inj h
      omega
    · split at h
      · cases h
      · have h : keep = v := Option.some.inj h
        omega
theorem chain_c : ∀ (l done : List R4) (s' : TS), Fine s' → s'.nodes = s.nodes → (∀ e ∈ l, RevOk s.nodes e) → (s'.ws.length < s.ws.length ∨ Low s s' done) →
    Fine (l.foldl relR s') ∧ (l.foldl relR s').nodes = s.nodes ∧ ((l.foldl relR s').ws.length < s.ws.length ∨ Low s (l.foldl relR s') (done ++ l))
  | [], done, s', f, hn, _, h => ⟨f, hn, by rw [List.append_nil]; exact h⟩
  | e :: l, done, s', f, hn, hr, h => by
    have he := hr e (by simp)
    have hi : e.1.toNat < 17 := by have := he.nd; have := f.p.nn; omega
    have f2 : Fine (relR s' e) := fine_release f hi he.kp
    have hlen : (relR s' e).ws.length ≤ s'.ws.length := (grantG_len _ _ _ rfl).1
    have hn2 : (relR s' e).nodes = s.nodes := by
      have g := gk_all (f.p.release (a := e.2.1) (b := e.2.2.1) (keep := e.2.2.2) hi) (val_release f.p f.v hi he.kp) (sound_release f.p f.sd f.v hi he.kp) s'.ws.length s'.ws rfl f.ok.2 f.wn
      exact g.n.trans hn
    rw [List.foldl_cons, show done ++ e :: l = (done ++ [e]) ++ l by simp]
    refine chain_c l (done ++ [e]) (relR s' e) f2 hn2 (fun x hx => hr x (by simp [hx])) ?_
    rcases h with h | h
    · exact .inl (by omega)
    · by_cases hl : (relR s' e).ws.length < s.ws.length
      · exact .inl hl
      · have hle : s'.ws.length = s.ws.length := by rw [h.w]
        have hsame : relR s' e = s'.release e.1.toNat e.2.1 e.2.2.1 e.2.2.2 := granted_same (by
          show (relR s' e).ws.length = s'.ws.length
          omega)
        rw [hsame]
        have hbl := fun o x => f.p.bl_release (a := e.2.1) (b := e.2.2.1) (keep := e.2.2.2) hi o x
        have low1 : ∀ o x v, bl (s'.release e.1.toNat e.2.1 e.2.2.1 e.2.2.2) o x = some v → ∃ u, bl s' o x = some u ∧ (v = u ∨ (v = 1 ∧ u = 2)) := fun o x v hv => by
          rw [hbl] at hv
          split at hv
          · rename_i eo; subst eo
            exact rel_val he.kp (fun v hv => f.v _ x v hv) hv
          · exact ⟨v, hv, .inl rfl⟩
        refine .inr ⟨h.w, fun o x v hv => ?_, fun e' he' x hx v hv => ?_⟩
        · obtain ⟨u, hu, e1⟩ := low1 o x v hv
          obtain ⟨u2, hu2, e2⟩ := h.lo o x u hu
          exact ⟨u2, hu2, by omega⟩
        · rcases List.mem_append.1 he' with he' | he'
          · obtain ⟨u, hu, e1⟩ := low1 _ x v hv
            have := h.dn e' he' x hx u hu
            omega
          · rw [List.mem_singleton.1 he'] at hx hv ⊢
            rw [hbl, if_pos rfl] at hv
            exact rel_le he.kp hx hv
/-- A round lets one through. -/
theorem round_less (f : Fine s) (hw : s.ws ≠ []) (hr : ∀ e ∈ revF s, RevOk s.nodes e) : Fine ((revF s).foldl relR s) ∧ ((revF s).foldl relR s).nodes = s.nodes ∧ ((revF s).foldl relR s).ws.length < s.ws.length := by
  obtain ⟨f2, hn, h⟩ := chain_c (s := s) (revF s) [] s f rfl hr (.inr ⟨rfl, fun o x v hv => ⟨v, hv, .inl rfl⟩, fun e he => by cases he⟩)
  refine ⟨f2, hn, h.resolve_right fun h => ?_⟩
  generalize (revF s).foldl relR s = s2 at f2 hn h
  cases hk : s.ws with
  | nil => exact hw hk
  | cons k r =>
    obtain ⟨x, hx, o, h1, h2, h3, v, hv, hne⟩ := f2.hd k r (h.w.trans hk)
    obtain ⟨u, hu, e⟩ := h.lo o x v hv
    have hmd := (f.ok.2 k (by rw [hk]; simp)).2.2
    have hmd : k.2.2.2.2 = 1 ∨ k.2.2.2.2 = 2 := hmd
    have hv12 := f2.v _ _ _ hv
    have hne2 : ¬ fitP u k.2.2.2.2 := fun hf => hne (by unfold fitP isMd at *; omega)
    obtain ⟨e', he', q1, q2, q3⟩ := rev_first f hk h1 (by omega) h3 hx hu hne2
    have hot : e'.1.toNat = o := by omega
    have := h.dn e' (by simpa using he') x q2 v (by rw [hot]; exact hv)
    rw [q3] at this
    refine hne ?_
    unfold keepsF at this
    unfold fitP isMd at *
    split at this <;> omega
end
end Go.Proofs.YtcekmdpiloegcaaGreat
/- The table of locks, apart from memory: what is to be let go can be let go. Conditions: as each says. -/
namespace Go.Proofs.YtcekmdpiloegcaaGreat
open Go.Sh Go.Proofs.YtcekmdpiloegcaaGreat.Mi
set_option maxRecDepth 100000
section
variable {s : TS}
theorem revN_ok (f : Fine s) (k : I5) (T : List (List (Pt Int))) {n : Nat} (h1 : 1 ≤ n) (h2 : (n : Int) ≤ s.nodes) : ∀ e ∈ asR n (canonL (revN s k T n)), RevOk s.nodes e := fun e he => by
  obtain ⟨p, hp, rfl⟩ := List.mem_map.1 he
  have hs : Sup (revN s k T n) := fun y hy => by
    refine f.p.su n y fun e => hy ?_
    unfold revN revB
    split
    · rw [e]
    · rfl
  have hc : Canon (canonL (revN s k T n)) := (canonL_canon _).1
  have hok := hc.1 p hp
  have hv := valB_mem hc.apart hp (x := p.1.1) ⟨hok, Int.le_refl _, hok.2⟩
  rw [canonL_val hs] at hv
  refine ⟨⟨by dsimp only; omega, h2⟩, hok, ?_⟩
  unfold revN revB at hv
  split at hv
  · split at hv
    · split at hv
      · cases hv
      · unfold revV at hv
        have : ∀ a b, keepsF a b = 0 ∨ keepsF a b = 1 := fun a b => by unfold keepsF; split <;> simp
        split at hv
        · split at hv
          · cases hv
          · have hv := Option.some.inj hv; show p.2 = 0 ∨ p.2 = 1; rw [← hv]; exact this _ _
        · have hv := Option.some.inj hv; show p.2 = 0 ∨ p.2 = 1; rw [← hv]; exact this _ _
    · cases hv
  · cases hv
theorem revK_ok (f : Fine s) (k : I5) (g : RS) (hg : ∀ e ∈ g.2, RevOk s.nodes e) : ∀ n : Nat, (n : Int) ≤ s.nodes → ∀ e ∈ (revK s k g n).2, RevOk s.nodes e
  | 0, _ => hg
  | n + 1, h => fun e he => by
    have ih := revK_ok f k g hg n (by omega)
    rw [revK, rev1] at he
    split at he
    · exact ih e he
    · rcases List.mem_append.1 he with he | he
      · exact ih e he
      · exact revN_ok f k _ (by omega) h e he
theorem revF_ok (f : Fine s) : ∀ e ∈ revF s, RevOk s.nodes e := by
  have gen : ∀ (W : List I5) (g : RS), (∀ e ∈ g.2, RevOk s.nodes e) → ∀ e ∈ (W.foldl (fun g k => revK s k g s.nodes.toNat) g).2, RevOk s.nodes e := by
    intro W
    induction W with
    | nil => intro g hg; exact hg
    | cons k W ih =>
      intro g hg
      rw [List.foldl_cons]
      exact ih _ (revK_ok f k g hg _ (by have := f.p.nn; omega))
  exact gen s.ws _ fun e he => by cases he
end
end Go.Proofs.YtcekmdpiloegcaaGreat
/- The law's own fits: true where all that is held fits. Conditions: as it says. -/
namespace Go.Proofs.YtcekmdpiloegcaaGreat
open Go.Sh Go.Proofs.YtcekmdpiloegcaaGreat.Mi
set_option maxRecDepth 100000
section
variable {w w' : World} {Q : Value → World → Prop} {B t : Nat} {s : TS}
theorem rmode_c {a : Int} (hq : Q (.bool (decide (isMd a))) w) : callS Tryz.prog 49 #[.int .i64 a] Q w := by
  refine ref49 ?_
  unfold S49
  by_cases h0 : 0 ≤ a
  · simp only [stp, Nat.reduceAdd, Int.reduceLT, Int.reduceLE, Int.reduceEq, Int.reduceNe, ne_eq, bne_self_eq_false, beq_self_eq_true, stm, h0]
    simpa only [isMd, h0, true_and] using hq
  · simp only [stp, Nat.reduceAdd, Int.reduceLT, Int.reduceLE, Int.reduceEq, Int.reduceNe, ne_eq, bne_self_eq_false, beq_self_eq_true, stm, h0]
    simpa only [isMd, h0, false_and, decide_false] using hq
theorem rfit_c {a b : Int} (hq : Q (.bool (decide (isMd a ∧ isMd b ∧ (a = 0 ∨ b = 0 ∨ (a = 1 ∧ b = 1))))) w) : callS Tryz.prog 32 #[.int .i64 a, .int .i64 b] Q w := by
  refine ref32 ?_
  unfold S32
  refine rmode_c ?_
  by_cases h0 : isMd a
  · simp only [stp, Nat.reduceAdd, Int.reduceLT, Int.reduceLE, Int.reduceEq, Int.reduceNe, ne_eq, bne_self_eq_false, beq_self_eq_true, stm, h0]
    refine rmode_c ?_
    by_cases h1 : isMd b
    · simp only [stp, Nat.reduceAdd, Int.reduceLT, Int.reduceLE, Int.reduceEq, Int.reduceNe, ne_eq, bne_self_eq_false, beq_self_eq_true, stm, h1]
      by_cases h2 : a = 0
      · rw [show decide (isMd a ∧ isMd b ∧ (a = 0 ∨ b = 0 ∨ (a = 1 ∧ b = 1))) = true from decide_eq_true ⟨h0, h1, .inl h2⟩] at hq
        simp only [stp, Nat.reduceAdd, Int.reduceLT, Int.reduceLE, Int.reduceEq, Int.reduceNe, ne_eq, bne_self_eq_false, beq_self_eq_true, stm, h2]
        exact hq
      · simp only [stp, Nat.reduceAdd, Int.reduceLT, Int.reduceLE, Int.reduceEq, Int.reduceNe, ne_eq, bne_self_eq_false, beq_self_eq_true, stm, h2]
        by_cases h3 : b = 0
        · rw [show decide (isMd a ∧ isMd b ∧ (a = 0 ∨ b = 0 ∨ (a = 1 ∧ b = 1))) = true from decide_eq_true ⟨h0, h1, .inr (.inl h3)⟩] at hq
          simp only [stp, Nat.reduceAdd, Int.reduceLT, Int.reduceLE, Int.reduceEq, Int.reduceNe, ne_eq, bne_self_eq_false, beq_self_eq_true, stm, h3]
          exact hq
        · simp only [stp, Nat.reduceAdd, Int.reduceLT, Int.reduceLE, Int.reduceEq, Int.reduceNe, ne_eq, bne_self_eq_false, beq_self_eq_true, stm, h3]
          by_cases h4 : a = 1
          · simp only [stp, Nat.reduceAdd, Int.reduceLT, Int.reduceLE, Int.reduceEq, Int.reduceNe, ne_eq, bne_self_eq_false, beq_self_eq_true, stm, h4]
            by_cases h5 : b = 1
            · rw [show decide (isMd a ∧ isMd b ∧ (a = 0 ∨ b = 0 ∨ (a = 1 ∧ b = 1))) = true from decide_eq_true ⟨h0, h1, .inr (.inr ⟨h4, h5⟩)⟩] at hq
              try simp only [stp, Nat.reduceAdd, Int.reduceLT, Int.reduceLE, Int.reduceEq, Int.reduceNe, ne_eq, bne_self_eq_false, beq_self_eq_true, stm, h5]
              exact hq
            · rw [show decide (isMd a ∧ isMd b ∧ (a = 0 ∨ b = 0 ∨ (a = 1 ∧ b = 1))) = false from decide_eq_false (by omega)] at hq
              simp only [stp, Nat.reduceAdd, Int.reduceLT, Int.reduceLE, Int.reduceEq, Int.reduceNe, ne_eq, bne_self_eq_false, beq_self_eq_true, stm, h5]
              exact hq
          · rw [show decide (isMd a ∧ isMd b ∧ (a = 0 ∨ b = 0 ∨ (a = 1 ∧ b = 1))) = false from decide_eq_false (by omega)] at hq
            simp only [stp, Nat.reduceAdd, Int.reduceLT, Int.reduceLE, Int.reduceEq, Int.reduceNe, ne_eq, bne_self_eq_false, beq_self_eq_true, stm, h4]
            exact hq
    · rw [show decide (isMd a ∧ isMd b ∧ (a = 0 ∨ b = 0 ∨ (a = 1 ∧ b = 1))) = false from decide_eq_false fun h => h1 h.2.1] at hq
      simp only [stp, Nat.reduceAdd, Int.reduceLT, Int.reduceLE, Int.reduceEq, Int.reduceNe, ne_eq, bne_self_eq_false, beq_self_eq_true, stm, h1]
      exact hq
  · rw [show decide (isMd a ∧ isMd b ∧ (a = 0 ∨ b = 0 ∨ (a = 1 ∧ b = 1))) = false from decide_eq_false fun h => h0 h.1] at hq
    simp only [stp, Nat.reduceAdd, Int.reduceLT, Int.reduceLE, Int.reduceEq, Int.reduceNe, ne_eq, bne_self_eq_false, beq_self_eq_true, stm, h0]
    exact hq
theorem lrow_at {A : Nat} {v : Value} {l : List I3} (h : Own w A 29 3 v l.length (flat enc3 l)) {i : Nat} (hi : i < l.length) :
    ∃ g c, v = .slice (some ⟨g, 0, none⟩) l.length c ∧ cel w g (i * 3) = some (.int .i64 l[i].1) ∧ cel w g (i * 3 + 1) = some (.int .i64 l[i].2.1) ∧ cel w g (i * 3 + 2) = some (.int .i64 l[i].2.2) := by
  obtain ⟨g, c, e, _, _, _, _, _, hc⟩ := h.at (by omega)
  have hb : (i + 1) * 3 ≤ l.length * 3 := Nat.mul_le_mul_right _ hi
  have q : ∀ j, j < 3 → cel w g (i * 3 + j) = (enc3 l[i])[j]? := fun j hj => by
    rw [hc _ (by omega)]
    exact flat_get (enc := enc3) (fun _ => rfl) (List.getElem?_eq_getElem hi) (by omega)
  exact ⟨g, c, e, q 0 (by omega), q 1 (by omega), q 2 (by omega)⟩
set_option maxHeartbeats 2000000 in
theorem lfits_c (h : TL w B t s) (f : Fine s) (hq : ∀ w', K0 w w' → Q (.bool true) w') :
    callS Tryz.prog 12 #[.pointer (some ⟨t, 0, none⟩), .int .i64 s.nodes] Q w := by
  refine ref12 ?_
  unfold S12
  have hnn := f.p.nn
  have hhn := f.p.hn
  refine lp1 (fun m x u => ∃ j : Nat, x = .int .i64 (j : Int) ∧ 1 ≤ j ∧ (j : Int) ≤ s.nodes + 1 ∧ m = 17 - j ∧ K0 w u) 16 ⟨1, rfl, by omega, by omega, by omega, K0.refl _⟩ ?_
  rintro m x u ⟨j, rfl, h1, h2, rfl, ku⟩ J hJ _j
  by_cases hj : (j : Int) ≤ s.nodes
  rotate_left
  · simp only [pur_leq, hj, decide_false, condS_false]
    exact hq u ku
  simp only [pur_leq, hj, decide_true, condS_true]
  refine tholds_c (h.keep0 ku) h1 hj fun u1 v1 l e1 hcl hbd o1 k1 => ?_
  have k01 := ku.trans k1
  obtain ⟨p1, c1, hv1⟩ := o1.form
  have ln1 : ∀ {k' : Value → Prop}, pur Tryz.prog (Builtin.len_ #[69] 3 #[v1]) k' = k' (.int .i64 ((asLocks l).length : Int)) := by intro k'; rw [hv1]; exact ln_69
  have hal : (asLocks l).length = l.length := asLocks_len l
  have hln := canon_len (n := 4096) hcl hbd
  have hval : ∀ x v, valB l x = some v → bl s j x = some v := fun x v h => by unfold bl; rw [e1]; exact h
  have fits : ∀ (b : Nat) (x v : Int), 1 ≤ b → (b : Int) ≤ s.nodes → b ≠ j → bl s j x = some v → isMd v ∧ isMd ((bl s b x).getD 0) ∧ (v = 0 ∨ (bl s b x).getD 0 = 0 ∨ (v = 1 ∧ (bl s b x).getD 0 = 1)) := fun b x v b1 b2 b3 hv => by
    have hv12 := f.v _ _ _ hv
    cases e : bl s b x with
    | none => refine ⟨by unfold isMd; omega, by unfold isMd; simp, .inr (.inl rfl)⟩
    | some u2 =>
      have := fit_symm (f.sd j b x u2 v h1 hj b1 b2 b3 hv e)
      exact this
  refine lpc1 (asLocks l).length (by omega) (fun i u2 => K0 u1 u2) (K0.refl _) (fun i u2 hi k2 J1 hJ1 => ?_) (fun u2 k2 J1 => ?_)
  rotate_left
  · intro _j
    have hi' : ¬ (((asLocks l).length : Int) < ((asLocks l).length : Int)) := by omega
    simp only [ln1, pur_lss, hi', decide_false, condS_false, pur_add]
    rw [wrap_succ (i := j) (by omega)]
    exact hJ (17 - (j + 1)) _ _ (by omega) ⟨j + 1, rfl, by omega, by omega, rfl, k01.trans k2⟩
  intro _j
  have hi' : ((i : Int) < ((asLocks l).length : Int)) := by omega
  have hil : i < l.length := by omega
  simp only [ln1, pur_lss, hi', decide_true, condS_true, pur_add]
  rw [wrap_succ (i := j) (by omega)]
  refine lp1 (fun m x u => ∃ b : Nat, x = .int .i64 (b : Int) ∧ j + 1 ≤ b ∧ (b : Int) ≤ s.nodes + 1 ∧ m = 18 - b ∧ K0 u1 u) (17 - j) ⟨j + 1, rfl, by omega, by omega, by omega, k2⟩ ?_
  rintro m x u3 ⟨b, rfl, b1, b2, rfl, k3⟩ J2 hJ2 _j
  by_cases hb : (b : Int) ≤ s.nodes
  rotate_left
  · simp only [pur_leq, hb, decide_false, condS_false, pur_add]
    exact hJ1 _ k3
  simp only [pur_leq, hb, decide_true, condS_true]
  have kd : K0 u3 u3.drew := (K0.refl u3).drew
  obtain ⟨g, c, ev, q0, q1, q2⟩ := lrow_at (o1.keep k3 fun _ _ e => e) hi
  have hgi : (asLocks l)[i] = (l[i].1.1, l[i].1.2, l[i].2) := by simp [asLocks]
  rw [hgi] at q0 q1 q2
  have hok := hcl.1 _ (List.getElem_mem hil)
  have hm := List.getElem_mem hil
  generalize l[i] = p at q0 q1 q2 hok hm
  have va := hval _ _ (valB_mem hcl.apart hm (x := p.1.1) ⟨hok, Int.le_refl _, hok.2⟩)
  have vb := hval _ _ (valB_mem hcl.apart hm (x := p.1.2 - 1) ⟨hok, by have := hok.2; omega, by omega⟩)
  have hbnd := hbd p hm
  have ho0 := hok.1
  have ho1 := hok.2
  have hwp : IntKind.i64.wrap (p.1.2 - 1) = p.1.2 - 1 := wrap_id (by omega) (by omega)
  rw [ev]
  refine ⟨fun u' => K0 u3 u', kd, ?_⟩
  simp only [ix_69 hi, Nat.zero_add]
  simp only [fa_29_1, fa_29_0, fa_27_0]
  refine hld_of (.int .i64 p.2) (fun u' k => rl_3 (k.cel q2 (by exact fun h => h))) ?_
  refine hld_of (.int .i64 p.1.1) (fun u' k => rl_3 (k.cel q0 (by exact fun h => h))) ?_
  have k03 := k01.trans k3
  refine tmode_bl ((h.keep0 k03).keep0 kd) (by omega) hb fun u4 k4 => ⟨kd.trans k4, ?_⟩
  have k34 := kd.trans k4
  refine rfit_c ?_
  rw [decide_eq_true (fits b _ _ (by omega) hb (by omega) va)]
  refine ⟨k34, ?_⟩
  simp only [pur_not, Bool.not_true, gd_hit, ix_69 hi, Nat.zero_add, fa_29_1, fa_29_0, fa_27_1]
  refine hld_of (.int .i64 p.2) (fun u' k => rl_3 (k.cel q2 (by exact fun h => h))) ?_
  refine hld_of (.int .i64 p.1.2) (fun u' k => rl_3 (k.cel q1 (by exact fun h => h))) ?_
  simp only [pur_sub, hwp]
  refine tmode_bl (h.keep0 (k03.trans k34)) (by omega) hb fun u5 k5 => ⟨k34.trans k5, ?_⟩
  refine rfit_c ?_
  rw [decide_eq_true (fits b _ _ (by omega) hb (by omega) vb)]
  refine ⟨k34.trans k5, ?_⟩
  simp only [pur_not, Bool.not_true, pur_pick_f, condS_false, pur_add]
  rw [wrap_succ (i := b) (by omega)]
  exact hJ2 (18 - (b + 1)) _ _ (by omega) ⟨b + 1, rfl, by omega, by omega, rfl, k3.trans (k34.trans k5)⟩
end
end Go.Proofs.YtcekmdpiloegcaaGreat
