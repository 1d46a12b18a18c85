/- The cache's inner map with its pins: each call. Conditions: as each says. -/
import Derived.Test.YtjfookddoaemfaaCacS
set_option linter.unusedSimpArgs false
set_option linter.unusedVariables false
namespace Go.Proofs.Ytjfookddoaemfaa
open Go.Sh Go.Sh.Lrv Go.Proofs.Ytjfookddoaemfaa.Lv
set_option maxRecDepth 100000
def GS (w : World) (lc room : Nat) (ps : List (En × Nat)) (F : Nat → Prop) : Prop := ∃ mb L, Rep isI64 0 w lc mb room L ∧ (∀ b, foot lc mb L b → F b) ∧ (L.map fun n => (n.v, n.p)).Perm ps ∧ ∀ n ∈ L, n.k = .int .i64 n.v.1
def pins (es : List En) : List (En × Nat) := es.map fun e => (e, pin e)
/-- What Put does to the entries. -/
def Rel (room : Nat) (ps : List (En × Nat)) (e' : En) (ps' : List (En × Nat)) (done : Bool) : Prop :=
  (done = false ∧ ps' = ps ∧ (∀ x ∈ ps, x.1.1 ≠ e'.1) ∧ room ≤ ps.length ∧ ∀ x ∈ ps, x.2 ≠ 0)
  ∨ (done = true ∧ ∃ e p r, ps.Perm ((e, p) :: r) ∧ e.1 = e'.1 ∧ ps' = (e', p) :: r)
  ∨ (done = true ∧ (∀ x ∈ ps, x.1.1 ≠ e'.1) ∧ ps.length < room ∧ ps' = (e', 0) :: ps)
  ∨ (done = true ∧ (∀ x ∈ ps, x.1.1 ≠ e'.1) ∧ room ≤ ps.length ∧ ∃ e r, ps.Perm ((e, 0) :: r) ∧ ps' = (e', 0) :: r)
section
variable {w w' : World} {Q : Value → World → Prop} {c lc room : Nat} {es : List En} {ps : List (En × Nat)} {F : Nat → Prop}
theorem LS.gs (h : LS w lc room es F) : GS w lc room (pins es) F := by
  obtain ⟨mb, L, h1, h2, h3, h4⟩ := h
  refine ⟨mb, L, h1, h2, ?_, fun n hn => (h4 n hn).1⟩
  have e : L.map (fun n => (n.v, n.p)) = (L.map Nd.v).map (fun e => (e, pin e)) := by
    rw [List.map_map]
    exact List.map_congr_left fun n hn => by rw [(h4 n hn).2]; rfl
  rw [e]
  exact h3.map _
theorem GS.ls (h : GS w lc room (pins es) F) : LS w lc room es F := by
  obtain ⟨mb, L, h1, h2, h3, h4⟩ := h
  refine ⟨mb, L, h1, h2, ?_, fun n hn => ⟨h4 n hn, ?_⟩⟩
  · have := h3.map (·.1)
    rw [pins, List.map_map, List.map_map] at this
    have e1 : L.map ((fun x : En × Nat => x.1) ∘ fun n => (n.v, n.p)) = L.map Nd.v := rfl
    have e2 : es.map ((fun x : En × Nat => x.1) ∘ fun e => (e, pin e)) = es := by
      rw [show ((fun x : En × Nat => x.1) ∘ fun e => (e, pin e)) = id from rfl, List.map_id]
    rw [e1, e2] at this
    exact this
  · have := h3.mem_iff.1 (List.mem_map_of_mem (f := fun n => (n.v, n.p)) hn)
    obtain ⟨e, _, he⟩ := List.mem_map.1 this
    injection he with h5 h6
    rw [← h6, h5]
theorem GS.perm {ps' : List (En × Nat)} (h : GS w lc room ps F) (p : ps.Perm ps') : GS w lc room ps' F := by
  obtain ⟨mb, L, h1, h2, h3, h4⟩ := h
  exact ⟨mb, L, h1, h2, h3.trans p, h4⟩
theorem GS.keep {G : Nat → Prop} (h : GS w lc room ps F) (k : Keep G w w') (hG : ∀ b, F b → ¬ G b) : GS w' lc room ps F := by
  obtain ⟨mb, L, h1, h2, h3, h4⟩ := h
  exact ⟨mb, L, h1.keep k fun b hb => hG b (h2 b hb), h2, h3, h4⟩
theorem GS.keep0 (h : GS w lc room ps F) (k : K0 w w') : GS w' lc room ps F := h.keep k fun _ _ e => e
theorem GS.ltF (h : GS w lc room ps F) : GS w lc room ps (fun b => F b ∧ b < siz w) := by
  obtain ⟨mb, L, h1, h2, h3, h4⟩ := h
  exact ⟨mb, L, h1, fun b hb => ⟨h2 b hb, h1.lt hb⟩, h3, h4⟩
theorem GS.wide {F' : Nat → Prop} (h : GS w lc room ps F) (hF : ∀ b, F b → F' b) : GS w lc room ps F' := by
  obtain ⟨mb, L, h1, h2, h3, h4⟩ := h
  exact ⟨mb, L, h1, fun b hb => hF b (h2 b hb), h3, h4⟩
theorem GS.hit (h : GS w lc room ps F) {e : En} {p : Nat} (he : (e, p) ∈ ps) : ∃ mb A n C, Rep isI64 0 w lc mb room (A ++ n :: C) ∧ (∀ b, foot lc mb (A ++ n :: C) b → F b) ∧ n.v = e ∧ n.p = p ∧ ((A ++ n :: C).map fun n => (n.v, n.p)).Perm ps ∧ ∀ n' ∈ A ++ n :: C, n'.k = .int .i64 n'.v.1 := by
  obtain ⟨mb, L, h1, h2, h3, h4⟩ := h
  obtain ⟨n, hn, hh⟩ := List.mem_map.1 (h3.mem_iff.2 he)
  injection hh with e1 e2
  obtain ⟨A, C, rfl⟩ := List.append_of_mem hn
  exact ⟨mb, A, n, C, h1, h2, e1, e2, h3, h4⟩
theorem g_miss {L : List Nd} {k : Int} (h3 : (L.map fun n => (n.v, n.p)).Perm ps) (h4 : ∀ n ∈ L, n.k = .int .i64 n.v.1) (hm : ∀ x ∈ ps, x.1.1 ≠ k) : ∀ n ∈ L, n.k ≠ .int .i64 k := fun n hn e => by
  rw [h4 n hn] at e
  injection e with _ e
  exact hm (n.v, n.p) (h3.mem_iff.1 (List.mem_map_of_mem (f := fun n => (n.v, n.p)) hn)) e
theorem GS.len (h : GS w lc room ps F) : ps.length ≤ room ∧ room ≤ 100000 := by
  obtain ⟨mb, L, h1, _, h3, _⟩ := h
  have := h3.length_eq
  rw [List.length_map] at this
  exact ⟨by rw [← this]; exact h1.len, h1.big⟩
theorem gRoom_c (h : GS w lc room ps F) (hq : Q (.int .i64 room) w) : callS Try.prog 21 #[.pointer (some ⟨lc, 0, none⟩)] Q w := by
  obtain ⟨mb, L, h1, _⟩ := h
  exact room_c h1 hq
theorem gPeek_hit (h : GS w lc room ps F) {e : En} {p : Nat} (he : (e, p) ∈ ps) (hq : ∀ w', K0 w w' → Q (.tuple #[vE e, .bool true]) w') : callS Try.prog 22 #[.pointer (some ⟨lc, 0, none⟩), .int .i64 e.1] Q w := by
  obtain ⟨mb, A, n, C, hr, hF, rfl, rfl, hp, hk⟩ := h.hit he
  rw [← hk n (by simp)]
  exact peek_hit hr (by simp) hq
theorem gPeek_miss (h : GS w lc room ps F) {k : Int} (hm : ∀ x ∈ ps, x.1.1 ≠ k) (hq : ∀ w', K0 w w' → Q (.tuple #[vE e0, .bool false]) w') : callS Try.prog 22 #[.pointer (some ⟨lc, 0, none⟩), .int .i64 k] Q w := by
  obtain ⟨mb, L, hr, hF, hp, hen⟩ := h
  exact peek_miss hr (isI k) (g_miss hp hen hm) hq
theorem gGet_hit (h : GS w lc room ps F) {e : En} {p : Nat} (he : (e, p) ∈ ps) (hq : ∀ w', GS w' lc room ps F → Keep F w w' → Q (.tuple #[vE e, .bool true]) w') :
    callS Try.prog 28 #[.pointer (some ⟨lc, 0, none⟩), .int .i64 e.1] Q w := by
  obtain ⟨mb, A, n, C, hr, hF, rfl, rfl, hp, hk⟩ := h.hit he
  rw [← hk n (by simp)]
  refine get_hit hr fun w1 h1 k1 => hq w1 ⟨mb, n :: (A ++ C), h1, fun b hb => hF b (foot_perm (fun m hm => ⟨m, by simp at hm ⊢; rcases hm with h | h | h <;> simp [h], rfl⟩) hb), ?_, fun m hm => hk m (by simp at hm ⊢; rcases hm with h | h | h <;> simp [h])⟩ (k1.mono fun b _ hb => hF b hb)
  refine List.Perm.trans ?_ hp
  exact (List.perm_middle.symm.map _)
theorem mid_perm {A C : List Nd} {n n' : Nd} {x : En × Nat} {r : List (En × Nat)} (hp : ((A ++ n :: C).map fun n => (n.v, n.p)).Perm (x :: r)) (hx : (n.v, n.p) = x) : ((A ++ n' :: C).map fun n => (n.v, n.p)).Perm ((n'.v, n'.p) :: r) := by
  have h1 : ((n :: (A ++ C)).map fun n => (n.v, n.p)).Perm (x :: r) := (List.perm_middle.symm.map _).trans hp
  rw [List.map_cons, hx] at h1
  have h2 := h1.cons_inv
  exact (List.perm_middle.map _).trans (by rw [List.map_cons]; exact h2.cons _)
theorem gPin (h : GS w lc room ps F) {e : En} {p : Nat} {r : List (En × Nat)} (hps : ps.Perm ((e, p) :: r)) (hb : p ≤ 10) (hq : ∀ w', GS w' lc room ((e, p + 1) :: r) F → Keep F w w' → Q (.bool true) w') :
    callS Try.prog 25 #[.pointer (some ⟨lc, 0, none⟩), .int .i64 e.1] Q w := by
  obtain ⟨mb, A, n, C, hr, hF, rfl, rfl, hp, hk⟩ := (h.perm hps).hit (List.mem_cons_self ..)
  rw [← hk n (by simp)]
  refine pin_hit hr (by omega) fun w1 h1 k1 => hq w1 ⟨mb, _, h1, fun b hb => hF b (foot_perm (fun m hm => ?_) hb), mid_perm (n' := { n with p := n.p + 1 }) hp rfl, fun m hm => ?_⟩ (k1.mono fun b _ hb => hF b hb)
  · simp only [List.mem_append, List.mem_cons] at hm
    rcases hm with h | rfl | h
    · exact ⟨m, by simp [h], rfl⟩
    · exact ⟨n, by simp, rfl⟩
    · exact ⟨m, by simp [h], rfl⟩
  · simp only [List.mem_append, List.mem_cons] at hm
    rcases hm with h | rfl | h
    · exact hk m (by simp [h])
    · exact hk n (by simp)
    · exact hk m (by simp [h])
theorem gUnpin (h : GS w lc room ps F) {e : En} {p : Nat} {r : List (En × Nat)} (hps : ps.Perm ((e, p + 1) :: r)) (hb : p ≤ 10) (hq : ∀ w', GS w' lc room ((e, p) :: r) F → Keep F w w' → Q (.bool true) w') :
    callS Try.prog 27 #[.pointer (some ⟨lc, 0, none⟩), .int .i64 e.1] Q w := by
  obtain ⟨mb, A, n, C, hr, hF, rfl, hpp, hp, hk⟩ := (h.perm hps).hit (List.mem_cons_self ..)
  rw [← hk n (by simp)]
  have hmp := mid_perm (n' := { n with p := n.p - 1 }) hp (by rw [hpp])
  refine unpin_hit hr (by omega) (by omega) fun w1 h1 k1 => hq w1 ⟨mb, _, h1, fun b hb => hF b (foot_perm (fun m hm => ?_) hb), by rw [show p = n.p - 1 by omega]; exact hmp, fun m hm => ?_⟩ (k1.mono fun b _ hb => hF b hb)
  · simp only [List.mem_append, List.mem_cons] at hm
    rcases hm with h | rfl | h
    · exact ⟨m, by simp [h], rfl⟩
    · exact ⟨n, by simp, rfl⟩
    · exact ⟨m, by simp [h], rfl⟩
  · simp only [List.mem_append, List.mem_cons] at hm
    rcases hm with h | rfl | h
    · exact hk m (by simp [h])
    · exact hk n (by simp)
    · exact hk m (by simp [h])
theorem gDelete_hit (h : GS w lc room ps F) {e : En} {p : Nat} {r : List (En × Nat)} (hps : ps.Perm ((e, p) :: r)) (hq : ∀ w', GS w' lc room r F → Keep F w w' → Q (.bool true) w') :
    callS Try.prog 38 #[.pointer (some ⟨lc, 0, none⟩), .int .i64 e.1] Q w := by
  obtain ⟨mb, A, n, C, hr, hF, rfl, rfl, hp, hk⟩ := (h.perm hps).hit (List.mem_cons_self ..)
  rw [← hk n (by simp)]
  refine delete_hit hr fun w1 h1 k1 => hq w1 ⟨mb, _, h1, fun b hb => hF b (foot_perm (fun m hm => ⟨m, by simp at hm ⊢; rcases hm with h | h <;> simp [h], rfl⟩) hb), ?_, fun m hm => hk m (by simp at hm ⊢; rcases hm with h | h <;> simp [h])⟩ (k1.mono fun b _ hb => hF b hb)
  have h1 := (List.perm_middle.symm.map (fun n : Nd => (n.v, n.p))).trans hp
  rw [List.map_cons] at h1
  exact h1.cons_inv
theorem gPut (h : GS w lc room ps F) (hrm : 0 < room) {e' : En} (hq : ∀ w' F' ps' done zk zv zb, GS w' lc room ps' F' → St F F' w w' → Rel room ps e' ps' done → Q (.tuple #[.int .i64 zk, vE zv, .bool zb, .bool done]) w') :
    callS Try.prog 23 #[.pointer (some ⟨lc, 0, none⟩), .int .i64 e'.1, vE e'] Q w := by
  by_cases hx : ∃ x ∈ ps, x.1.1 = e'.1
  · obtain ⟨⟨e, p⟩, hx, he⟩ := hx
    obtain ⟨s1, s2, hs⟩ := List.append_of_mem hx
    have hps : ps.Perm ((e, p) :: (s1 ++ s2)) := by rw [hs]; exact List.perm_middle
    obtain ⟨mb, A, n, C, hr, hF, rfl, rfl, hp, hk⟩ := (h.perm hps).hit (List.mem_cons_self ..)
    rw [← he, ← hk n (by simp)]
    refine put_old hr fun w1 h1 k1 => hq w1 F ((e', n.p) :: (s1 ++ s2)) true 0 e0 false ⟨mb, _, h1, fun b hb => hF b (foot_perm (fun m hm => ?_) hb), ?_, fun m hm => ?_⟩ ⟨k1.mono fun b _ hb => hF b hb, fun b hb => .inl hb⟩ (.inr (.inl ⟨rfl, n.v, n.p, _, hps, he, rfl⟩))
    · simp only [List.mem_append, List.mem_cons] at hm
      rcases hm with rfl | h | h
      · exact ⟨n, by simp, rfl⟩
      · exact ⟨m, by simp [h], rfl⟩
      · exact ⟨m, by simp [h], rfl⟩
    · exact (List.perm_middle.symm.map _).trans (mid_perm (n' := { n with v := e' }) hp rfl)
    · simp only [List.mem_append, List.mem_cons] at hm
      rcases hm with rfl | h | h
      · show n.k = .int .i64 e'.1
        rw [hk n (by simp), he]
      · exact hk m (by simp [h])
      · exact hk m (by simp [h])
  · have hm : ∀ x ∈ ps, x.1.1 ≠ e'.1 := fun x hx' e => hx ⟨x, hx', e⟩
    obtain ⟨mb, L, hr, hF, hp, hk⟩ := h
    have hll : L.length = ps.length := by rw [← hp.length_eq, List.length_map]
    refine put_miss hr (Nat.zero_le _) (isI _) (g_miss hp hk hm) (fun w1 hc h1 k1 => ?_) (fun A n C hL hn0 hC hfull w1 b hb h1 k1 => ?_) (fun hlt w1 b hb h1 k1 => ?_)
    · refine hq w1 F ps false 0 e0 false ⟨mb, L, h1, hF, hp, hk⟩ ⟨k1.mono fun b _ hb => hF b hb, fun b hb => .inl hb⟩ (.inl ⟨rfl, rfl, hm, ?_, fun x hx => ?_⟩)
      · rcases hc with h | h
        · omega
        · omega
      · rcases hc with h | h
        · omega
        · obtain ⟨n, hn, rfl⟩ := List.mem_map.1 (hp.mem_iff.2 hx)
          exact h.2 n hn
    · subst hL
      have hkn := hk n (by simp)
      rw [hkn]
      have h1' := (List.perm_middle.symm.map (fun n : Nd => (n.v, n.p))).trans hp
      rw [List.map_cons, hn0] at h1'
      refine hq w1 (fun x => F x ∨ x = b) ((e', 0) :: (A ++ C).map fun n => (n.v, n.p)) true n.v.1 n.v true ⟨mb, _, h1, fun x hx => ?_, List.Perm.refl _, fun m hm => ?_⟩ ⟨k1.mono fun b _ hb => hF b hb, fun x hx => hx.elim .inl (fun e => .inr (by omega))⟩ (.inr (.inr (.inr ⟨rfl, hm, by omega, n.v, _, h1'.symm, rfl⟩)))
      · rcases hx with h | h | ⟨m, hm, h⟩
        · exact .inl (hF x (.inl h))
        · exact .inl (hF x (.inr (.inl h)))
        · rcases List.mem_cons.1 hm with rfl | hm
          · exact .inr h
          · exact .inl (hF x (.inr (.inr ⟨m, by simp at hm ⊢; rcases hm with h | h <;> simp [h], h⟩)))
      · rcases List.mem_cons.1 hm with rfl | hm
        · rfl
        · exact hk m (by simp at hm ⊢; rcases hm with h | h <;> simp [h])
    · refine hq w1 (fun x => F x ∨ x = b) ((e', 0) :: ps) true 0 e0 false ⟨mb, _, h1, fun x hx => ?_, by rw [List.map_cons]; exact hp.cons _, fun m hm => ?_⟩ ⟨k1.mono fun b _ hb => hF b hb, fun x hx => hx.elim .inl (fun e => .inr (by omega))⟩ (.inr (.inr (.inl ⟨rfl, hm, by omega, rfl⟩)))
      · rcases hx with h | h | ⟨m, hm, h⟩
        · exact .inl (hF x (.inl h))
        · exact .inl (hF x (.inr (.inl h)))
        · rcases List.mem_cons.1 hm with rfl | hm
          · exact .inr h
          · exact .inl (hF x (.inr (.inr ⟨m, hm, h⟩)))
      · rcases List.mem_cons.1 hm with rfl | hm
        · rfl
        · exact hk m hm
end
end Go.Proofs.Ytjfookddoaemfaa
