/- The cache of last uses: a value changed, a pin more or less, a key taken away, a key put in, a new cache.
   Conditions: the nodes lie in blocks of their own. -/
import Derived.Test.YtdnbegjamoeahaaGreatLLruA
set_option linter.unusedSimpArgs false
set_option linter.unusedVariables false
namespace Go.Sh.Lru

section
variable {ok : Value → Prop} {B : Nat} {w w' : World} {c mb room : Nat} {L : List Nd}

theorem Rep.nb {A C : List Nd} {n : Nd} (h : Rep ok B w c mb room (A ++ n :: C)) : n.b ≠ c ∧ (∀ m ∈ A ++ C, m.b ≠ n.b) ∧ (∀ m ∈ A ++ C, m.k ≠ n.k) := by
  have hnd := h.nd
  have hk := h.keys
  rw [List.map_append, List.map_cons] at hnd hk
  have h1 := List.nodup_cons.1 hnd
  have h2 := (List.perm_middle.nodup_iff).1 h1.2
  have h3 := (List.perm_middle.nodup_iff).1 hk
  refine ⟨fun e => h1.1 (by rw [← e]; simp), fun m hm e => (List.nodup_cons.1 h2).1 ?_, fun m hm e => (List.nodup_cons.1 h3).1 ?_⟩
  · rw [← e, ← List.map_append]; exact List.mem_map_of_mem (f := (·.b)) hm
  · rw [← e, ← List.map_append]; exact List.mem_map_of_mem (f := (·.k)) hm

/-- What stands side by side in the round is linked. -/
theorem Rep.link {A C : List Nd} (h : Rep ok B w c mb room (A ++ C)) {i r : List Pl} {x y : Pl} (hi : ((c, 1) : Pl) :: A.map Nd.pl = i ++ [x]) (hq : C.map Nd.pl ++ [((c, 1) : Pl)] = y :: r) : lk w x y := by
  have hr := h.ring
  have e : ((c, 1) : Pl) :: ((A ++ C).map Nd.pl ++ [(c, 1)]) = i ++ x :: y :: r := by
    rw [List.map_append, List.append_assoc, ← List.cons_append, hi, hq]; simp
  rw [e] at hr
  exact (seg_append.1 hr).2.1

/-- One cell of a node, no link and not its key, is written. -/
theorem Rep.set {A C : List Nd} {n n' : Nd} (h : Rep ok B w c mb room (A ++ n :: C)) (hb : n'.b = n.b) (hkk : n'.k = n.k) (hq : ∀ b o, ¬ (b = n.b ∧ (o = 1 ∨ o = 2)) → cel w' b o = cel w b o) (hf : ∀ b, Sh.fre w' b = Sh.fre w b)
    (hm : mp w' mb = mp w mb) (hn : Node w' n') : Rep ok B w' c mb room (A ++ n' :: C) := by
  obtain ⟨hc, hothers, _⟩ := h.nb
  have hpl : n'.pl = n.pl := by simp only [Nd.pl, hb]
  have hen : entry n' = entry n := by simp only [entry, hpl, hkk]
  have e0 : ∀ {α : Type} (g : Nd → α), g n' = g n → (A ++ n' :: C).map g = (A ++ n :: C).map g := fun g hg => by simp [hg]
  refine ⟨⟨h.base.1, h.base.2.1, fun m hm => ?_⟩, ?_, ?_, by rw [hf]; exact h.fc, ?_, fun m hm => ?_, ?_, by rw [e0 (·.b) hb]; exact h.nd, by rw [e0 (·.k) hkk]; exact h.keys, fun m hm => ?_, by have := h.len; simpa using this, h.big⟩
  · rcases List.mem_append.1 hm with hm | hm
    · exact h.base.2.2 m (by simp [hm])
    · rcases List.mem_cons.1 hm with rfl | hm
      · rw [hb]; exact h.base.2.2 n (by simp)
      · exact h.base.2.2 m (by simp [hm])
  · rw [hq _ _ (fun e => hc e.1.symm)]; exact h.m
  · rw [hq _ _ (fun e => hc e.1.symm)]; exact h.rm
  · rw [e0 Nd.pl hpl]
    have hx : ∀ a ∈ (((c, 1) : Pl) :: ((A ++ n :: C).map Nd.pl ++ [(c, 1)])), ∀ i, (i = 3 ∨ i = 4) → ¬ (a.1 = n.b ∧ (a.2 + i = 1 ∨ a.2 + i = 2)) := fun a _ i hi e => by rcases hi with rfl | rfl <;> omega
    exact seg_frame h.ring (fun a ha => hq _ _ (hx a (List.dropLast_subset _ ha) 4 (.inr rfl))) (fun a ha => hq _ _ (hx a (List.mem_of_mem_tail ha) 3 (.inl rfl)))
  · have other : ∀ m ∈ A ++ C, Node w' m := fun m hm => by
      have hn0 := h.node m (by rcases List.mem_append.1 hm with h | h <;> simp [h])
      have hne := hothers m hm
      exact ⟨by rw [hq _ _ (fun e => hne e.1)]; exact hn0.k, by rw [hq _ _ (fun e => hne e.1)]; exact hn0.v, by rw [hq _ _ (fun e => hne e.1)]; exact hn0.p, by rw [hf]; exact hn0.fre, hn0.ok, hn0.ov⟩
    rcases List.mem_append.1 hm with hm | hm
    · exact other m (by simp [hm])
    · rcases List.mem_cons.1 hm with rfl | hm
      · exact hn
      · exact other m (by simp [hm])
  · obtain ⟨l, hl, hp⟩ := h.kv
    exact ⟨l, by rw [hm]; exact hl, by rw [e0 entry hen]; exact hp⟩
  · rcases List.mem_append.1 hm with hm | hm
    · exact h.okk m (by simp [hm])
    · rcases List.mem_cons.1 hm with rfl | hm
      · rw [hkk]; exact h.okk n (by simp)
      · exact h.okk m (by simp [hm])

theorem Rep.setV {A C : List Nd} {n : Nd} {v : Value} (h : Rep ok B w c mb room (A ++ n :: C)) (hv : one v = true) : Rep ok B (sto w n.b 1 v) c mb room (A ++ { n with v } :: C) := by
  have hn := h.node n (by simp)
  refine h.set (n' := { n with v }) rfl rfl (fun b o hb => cel_sto_ne (fun e => hb ⟨e.1, .inl e.2⟩)) (fun b => fre_sto) (mp_sto (h.mb_ne hn.fre)) ?_
  exact ⟨by rw [cel_sto_ne (by omega)]; exact hn.k, cel_sto_same (by rw [hn.v]; rfl), by rw [cel_sto_ne (by omega)]; exact hn.p, by rw [fre_sto]; exact hn.fre, hn.ok, hv⟩

theorem Rep.setP {A C : List Nd} {n : Nd} {p : Nat} (h : Rep ok B w c mb room (A ++ n :: C)) : Rep ok B (sto w n.b 2 (.int .i64 p)) c mb room (A ++ { n with p } :: C) := by
  have hn := h.node n (by simp)
  refine h.set (n' := { n with p }) rfl rfl (fun b o hb => cel_sto_ne (fun e => hb ⟨e.1, .inr e.2⟩)) (fun b => fre_sto) (mp_sto (h.mb_ne hn.fre)) ?_
  exact ⟨by rw [cel_sto_ne (by omega)]; exact hn.k, by rw [cel_sto_ne (by omega)]; exact hn.v, cel_sto_same (by rw [hn.p]; rfl), by rw [fre_sto]; exact hn.fre, hn.ok, hn.ov⟩

theorem Rep.okKv (h : Rep ok B w c mb room L) {l : List (Value × Value)} (hp : l.Perm (L.map entry)) : okKeys ok l := fun p hpm => by
  have := hp.subset hpm
  obtain ⟨n, hn, rfl⟩ := List.mem_map.1 this
  exact h.okk n hn
theorem Rep.kvNodup (h : Rep ok B w c mb room L) {l : List (Value × Value)} (hp : l.Perm (L.map entry)) : (l.map (·.1)).Nodup := by
  have h1 : ((L.map entry).map (·.1)) = L.map (·.k) := by rw [List.map_map]; rfl
  exact ((hp.map (·.1)).nodup_iff).2 (by rw [h1]; exact h.keys)
theorem Rep.kvHit (h : Rep ok B w c mb room L) {l : List (Value × Value)} (hp : l.Perm (L.map entry)) {n : Nd} (hn : n ∈ L) : aget n.k l = some (ptr n.pl) :=
  aget_of_mem (h.kvNodup hp) (hp.symm.subset (List.mem_map.2 ⟨n, hn, rfl⟩))
theorem Rep.kvMiss (_h : Rep ok B w c mb room L) {l : List (Value × Value)} (hp : l.Perm (L.map entry)) {k : Value} (hk : ∀ n ∈ L, n.k ≠ k) : aget k l = none := by
  rw [aget_none]
  intro hm
  obtain ⟨p, hpm, rfl⟩ := List.mem_map.1 hm
  obtain ⟨n, hn, rfl⟩ := List.mem_map.1 (hp.subset hpm)
  exact hk n hn rfl

theorem Rep.onward {w₀ w' : World} (h : Rep ok B w c mb room L) (k0 : Keep (fun b => B ≤ b) w₀ w) (k : Keep (foot c mb L) w w') : Keep (fun b => B ≤ b) w₀ w' :=
  k0.trans (k.mono fun b _ hf => by
    rcases hf with rfl | rfl | ⟨n, hn, rfl⟩
    · exact h.base.1
    · exact h.base.2.1
    · exact h.base.2.2 n hn)

/-- A node is taken out of the round, and its key out of the map. -/
theorem Rep.del {A C : List Nd} {n : Nd} (h : Rep ok B w c mb room (A ++ n :: C)) {p q : Pl} {i r : List Pl} {l : List (Value × Value)} (hi : ((c, 1) : Pl) :: A.map Nd.pl = i ++ [p]) (hq : C.map Nd.pl ++ [((c, 1) : Pl)] = q :: r)
    (hs : Seg (offW w p q) (i ++ p :: q :: r)) (hp : l.Perm ((A ++ n :: C).map entry)) (hm : MapTo (offW w p q) w' mb (adel n.k l)) : Rep ok B w' c mb room (A ++ C) := by
  obtain ⟨mp', mq⟩ := beside (n := n) hi hq
  have hne : ∀ x ∈ ((c, 1) : Pl) :: (A ++ n :: C).map Nd.pl, x.1 ≠ mb := fun x hx => (h.mb_pl hx).symm
  have e1 : i ++ p :: q :: r = ((c, 1) : Pl) :: ((A ++ C).map Nd.pl ++ [(c, 1)]) := by
    have : i ++ p :: q :: r = (i ++ [p]) ++ (q :: r) := by simp
    rw [this, ← hi, ← hq]; simp
  rw [e1] at hs
  have hfoot : ∀ b, b ≠ mb → blk w' b = blk (offW w p q) b := hm.block
  have hsub : (A ++ C).Sublist (A ++ n :: C) := (List.sublist_cons_self n C).append_left A
  have hall : ∀ a ∈ ((c, 1) : Pl) :: ((A ++ C).map Nd.pl ++ [(c, 1)]), a.1 ≠ mb := fun a ha => by
    refine hne a ?_
    simp only [List.mem_cons, List.mem_append, List.not_mem_nil, or_false] at ha
    rcases ha with rfl | ha | rfl
    · simp
    · exact List.mem_cons_of_mem _ ((hsub.map _).subset ha)
    · simp
  have hs' : Seg w' (((c, 1) : Pl) :: ((A ++ C).map Nd.pl ++ [(c, 1)])) := seg_keep hs fun a ha => hfoot a.1 (hall a ha)
  have hcm : c ≠ mb := hne (c, 1) (by simp)
  have hnm : ∀ m ∈ A ++ n :: C, m.b ≠ mb := fun m hm => hne m.pl (by simp only [List.mem_cons, List.mem_map]; exact .inr ⟨m, hm, rfl⟩)
  have hkv : ((adel n.k l)).Perm ((A ++ C).map entry) := by
    have h1 := adel_perm (h.kvHit hp (n := n) (by simp))
    have h2 : ((n.k, ptr n.pl) :: adel n.k l).Perm (entry n :: (A ++ C).map entry) := h1.trans (hp.trans (by rw [List.map_append, List.map_cons, List.map_append]; exact List.perm_middle))
    exact List.Perm.cons_inv h2
  have hnc : ∀ m ∈ A ++ n :: C, m.b ≠ c := fun m hm e => (List.nodup_cons.1 h.nd).1 (by rw [← e]; exact List.mem_map_of_mem (f := (·.b)) hm)
  have hcel : ∀ b o, b ≠ mb → still c (A ++ n :: C) b o → cel w' b o = cel w b o := fun b o hb hst => by
    rw [cel, hfoot b hb]; exact off_still mp' mq b o hst
  have hfre : ∀ b, b ≠ mb → Sh.fre w' b = Sh.fre w b := fun b hb => by rw [Sh.fre, hfoot b hb]; exact fre_off
  refine ⟨⟨h.base.1, h.base.2.1, fun m hm => h.base.2.2 m (hsub.subset hm)⟩, ?_, ?_, by rw [hfre c hcm]; exact h.fc, hs', fun m hm' => ?_, ⟨_, hm.map, hkv⟩, h.nd.sublist ((hsub.map _).cons_cons _), h.keys.sublist (hsub.map _), fun m hm => h.okk m (hsub.subset hm), Nat.le_trans hsub.length_le h.len, h.big⟩
  · rw [hcel c 0 hcm ⟨by omega, by omega⟩]; exact h.m
  · rw [hcel c 6 hcm ⟨by omega, by omega⟩]; exact h.rm
  · have hm0 := hsub.subset hm'
    have hn0 := h.node m hm0
    have n1 := hnm m hm0
    have n2 := hnc m hm0
    exact ⟨by rw [hcel _ _ n1 ⟨fun e => n2 e.1, by omega⟩]; exact hn0.k, by rw [hcel _ _ n1 ⟨fun e => n2 e.1, by omega⟩]; exact hn0.v, by rw [hcel _ _ n1 ⟨fun e => n2 e.1, by omega⟩]; exact hn0.p, by rw [hfre _ n1]; exact hn0.fre, hn0.ok, hn0.ov⟩

/-- A new node is put first, its key into the map. -/
theorem Rep.add {x : Nd} {f : Pl} {rf : List Pl} {l : List (Value × Value)} (h : Rep ok B w c mb room L) (hp : l.Perm (L.map entry)) (hf : L.map Nd.pl ++ [((c, 1) : Pl)] = f :: rf)
    (hxb : ¬ foot c mb L x.b) (hBx : B ≤ x.b) (hx : Node w x) (hx3 : (cel w x.b 3).isSome = true) (hx4 : (cel w x.b 4).isSome = true) (hxk : ∀ n ∈ L, n.k ≠ x.k) (hok : ok x.k) (hroom : L.length < room)
    (hm : MapTo w w' mb (aput x.k (ptr x.pl) l)) : Rep ok B (fstW w' (c, 1) x.pl f) c mb room (x :: L) := by
  have mc : ((c, 1) : Pl) ∈ ((c, 1) : Pl) :: (x :: L).map Nd.pl := by simp
  have mx : x.pl ∈ ((c, 1) : Pl) :: (x :: L).map Nd.pl := by simp
  have mf0 : f ∈ ((c, 1) : Pl) :: L.map Nd.pl := by
    have : f ∈ L.map Nd.pl ++ [((c, 1) : Pl)] := by rw [hf]; simp
    simp only [List.mem_cons, List.mem_append, List.not_mem_nil, or_false] at this ⊢
    exact this.symm
  have mf : f ∈ ((c, 1) : Pl) :: (x :: L).map Nd.pl := by
    simp only [List.map_cons, List.mem_cons] at mf0 ⊢
    rcases mf0 with h | h
    · exact .inl h
    · exact .inr (.inr h)
  have xc : x.b ≠ c := fun e => hxb (.inl e)
  have xm : x.b ≠ mb := fun e => hxb (.inr (.inl e))
  have xL : ∀ n ∈ L, x.b ≠ n.b := fun n hn e => hxb (.inr (.inr ⟨n, hn, e⟩))
  have hcm : c ≠ mb := (h.mb_pl (x := (c, 1)) (by simp)).symm
  have hLm : ∀ n ∈ L, n.b ≠ mb := fun n hn => (h.mb_pl (x := n.pl) (by simp only [List.mem_cons, List.mem_map]; exact .inr ⟨n, hn, rfl⟩)).symm
  have hLc : ∀ n ∈ L, n.b ≠ c := fun n hn e => (List.nodup_cons.1 h.nd).1 (by rw [← e]; exact List.mem_map_of_mem (f := (·.b)) hn)
  have hcel : ∀ b o, b ≠ mb → cel w' b o = cel w b o := fun b o hb => by rw [cel, hm.block b hb]; rfl
  have hfre : ∀ b, b ≠ mb → Sh.fre w' b = Sh.fre w b := fun b hb => by rw [Sh.fre, hm.block b hb]; rfl
  have hring : Seg w' ((c, 1) :: f :: rf) := by
    have := h.ring
    rw [hf] at this
    refine seg_keep this fun a ha => hm.block a.1 ?_
    have ha' : a ∈ ((c, 1) : Pl) :: L.map Nd.pl := by
      rw [← hf] at ha
      simp only [List.mem_cons, List.mem_append, List.not_mem_nil, or_false] at ha ⊢
      rcases ha with h | h | h
      · exact .inl h
      · exact .inr h
      · exact .inl h
    exact (h.mb_pl ha').symm
  have hap0 := h.apart
  have hsub : ∀ a ∈ ((c, 1) : Pl) :: f :: rf, a ∈ ((c, 1) : Pl) :: L.map Nd.pl := fun a ha => by
    rw [← hf] at ha
    simp only [List.mem_cons, List.mem_append, List.not_mem_nil, or_false] at ha ⊢
    rcases ha with h | h | h
    · exact .inl h
    · exact .inr h
    · exact .inl h
  have hxa : ∀ a ∈ ((c, 1) : Pl) :: L.map Nd.pl, x.b ≠ a.1 := fun a ha => by
    simp only [List.mem_cons, List.mem_map] at ha
    rcases ha with rfl | ⟨n, hn, rfl⟩
    · exact xc
    · exact xL n hn
  have hap : Apart (x.pl :: (c, 1) :: f :: rf) := fun a ha b hb e => by
    rcases List.mem_cons.1 ha with rfl | ha <;> rcases List.mem_cons.1 hb with rfl | hb
    · rfl
    · exact absurd e (hxa b (hsub b hb))
    · exact absurd e.symm (hxa a (hsub a ha))
    · exact hap0 a (hsub a ha) b (hsub b hb) e
  have hpl : (((c, 1) : Pl) :: L.map Nd.pl).Nodup := by
    have h1 : ((((c, 1) : Pl) :: L.map Nd.pl).map (·.1)).Nodup := by simp only [List.map_cons, List.map_map]; exact h.nd
    exact List.Pairwise.of_map _ (fun a b h e => h (by rw [e])) h1
  have hnd2 : (f :: rf).Nodup := by
    rw [← hf]
    exact List.nodup_append.2 ⟨(List.nodup_cons.1 hpl).2, by simp, fun a ha b hb => by simp at hb; subst hb; exact fun e => (List.nodup_cons.1 hpl).1 (e ▸ ha)⟩
  have hseg := seg_first hap hring (fun hx => hxa _ (hsub _ hx) rfl) (fun hx => by rw [← hf] at hx; simp only [List.dropLast_concat] at hx; exact (List.nodup_cons.1 hpl).1 hx) (List.nodup_cons.1 hnd2).1
    (by simp only [Nd.pl, Nat.zero_add]; rw [hcel _ _ xm]; exact hx3) (by simp only [Nd.pl, Nat.zero_add]; rw [hcel _ _ xm]; exact hx4)
  have hst := fst_still (w := w') (c := c) (L := x :: L) mc mx mf
  have hkv : (aput x.k (ptr x.pl) l).Perm ((x :: L).map entry) := (aput_perm_new (h.kvMiss hp hxk)).trans ((hp.cons _))
  refine ⟨⟨h.base.1, h.base.2.1, fun m hm => ?_⟩, ?_, ?_, by rw [fre_fst, hfre c hcm]; exact h.fc, ?_, fun m hm' => ?_, ⟨_, ?_, hkv⟩, ?_, ?_, fun m hm => ?_, by rw [List.length_cons]; omega, h.big⟩
  · rcases List.mem_cons.1 hm with rfl | hm
    · exact hBx
    · exact h.base.2.2 m hm
  · rw [hst c 0 ⟨by omega, by omega⟩, hcel _ _ hcm]; exact h.m
  · rw [hst c 6 ⟨by omega, by omega⟩, hcel _ _ hcm]; exact h.rm
  · rw [List.map_cons, List.cons_append, hf]; exact hseg
  · have n0 : Node w m ∧ m.b ≠ mb ∧ m.b ≠ c := by
      rcases List.mem_cons.1 hm' with rfl | hm'
      · exact ⟨hx, xm, xc⟩
      · exact ⟨h.node m hm', hLm m hm', hLc m hm'⟩
    obtain ⟨hn0, n1, n2⟩ := n0
    have ce : ∀ o, o < 3 → cel (fstW w' (c, 1) x.pl f) m.b o = cel w m.b o := fun o ho => by rw [hst _ _ ⟨fun e => n2 e.1, by omega⟩, hcel _ _ n1]
    exact ⟨by rw [ce 0 (by omega)]; exact hn0.k, by rw [ce 1 (by omega)]; exact hn0.v, by rw [ce 2 (by omega)]; exact hn0.p, by rw [fre_fst, hfre _ n1]; exact hn0.fre, hn0.ok, hn0.ov⟩
  · rw [mp_fst (Ne.symm hcm) (Ne.symm xm) ((h.mb_pl mf0))]; exact hm.map
  · have : (x.b :: c :: L.map (·.b)).Nodup := List.nodup_cons.2 ⟨fun hm => by
      rcases List.mem_cons.1 hm with e | hm
      · exact xc e
      · obtain ⟨n, hn, e⟩ := List.mem_map.1 hm; exact xL n hn e.symm, h.nd⟩
    exact (List.Perm.swap _ _ _).nodup_iff.1 this
  · rw [List.map_cons, List.nodup_cons]
    exact ⟨fun hm => by obtain ⟨n, hn, e⟩ := List.mem_map.1 hm; exact hxk n hn e, h.keys⟩
  · rcases List.mem_cons.1 hm with rfl | hm
    · exact hok
    · exact h.okk m hm
end
end Go.Sh.Lru
