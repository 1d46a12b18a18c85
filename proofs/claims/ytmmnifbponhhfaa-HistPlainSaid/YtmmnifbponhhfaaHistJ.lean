/- HistVanish: what was not synced may vanish with its epoch, if nobody has read it; what was synced may not; what was read by one that stays may not. Conditions: none. -/
import Derived.Test.YtmmnifbponhhfaaHistH
set_option linter.unusedSimpArgs false
set_option linter.unusedVariables false
namespace Go.Proofs.Ytmmnifbponhhfaa
open Go.Sh Go.Sh.Hi
set_option maxRecDepth 100000
abbrev NS' : Value := .slice none 0 0
/-! ### in plain words -/
section
variable {f g : Nat → Value} {n s : Nat} {rv rv' : Value} {rd : Bool} {x : Im}
def cmE (f : Nat → Value) (k : Nat) : Ev := ⟨1, 1, 4, (k : Int), NS', f k, [], [((k : Int), 0, oneD (k : Int))]⟩
def cms (f : Nat → Value) (n : Nat) : List Ev := (List.range n).map fun j => cmE f (j + 1)
theorem cms_succ : cms f (n + 1) = cms f n ++ [cmE f (n + 1)] := by simp [cms, List.range_succ]
theorem cms_len : (cms f n).length = n := by simp [cms]
theorem cms_congr (h : ∀ k, k ≤ n → f k = g k) : cms f n = cms g n := by
  unfold cms
  refine List.map_congr_left fun j hj => ?_
  have := List.mem_range.1 hj
  unfold cmE
  rw [h (j + 1) (by omega)]
theorem cms_alone : ∀ n, (aloneF Z96 (cms f n)).2 = true ∧ ∀ b : Int, arGet b (aloneF Z96 (cms f n)).1 = if 1 ≤ b ∧ b ≤ (n : Int) then some (oneD b) else none
  | 0 => ⟨rfl, fun b => by rw [if_neg (by omega)]; rfl⟩
  | n + 1 => by
    obtain ⟨i1, i2⟩ := cms_alone n
    rw [cms_succ, aloneF_snoc]
    refine ⟨by rw [i1]; rfl, fun b => ?_⟩
    show arGet b (arPut ((n + 1 : Nat) : Int) (oneD ((n + 1 : Nat) : Int)) _) = _
    rw [arGet_put]
    by_cases h : b = ((n + 1 : Nat) : Int)
    · subst h; rw [if_pos rfl, if_pos (by omega)]
    · rw [if_neg h, i2]
      by_cases h2 : 1 ≤ b ∧ b ≤ (n : Int)
      · rw [if_pos h2, if_pos (by omega)]
      · rw [if_neg h2, if_neg (by omega)]
theorem great_pos {e : Ev} {pre : List Ev} (h : 0 < e.lsn) : greatF e pre = e := if_pos h
theorem cms_play {cuts : List Int} : ∀ n, playF Z96 (cms f n) cuts = ⟨(aloneF Z96 (cms f n)).1, true, cms f n, [], cuts⟩
  | 0 => rfl
  | n + 1 => by
    rw [cms_succ, playF_snoc, cms_play n, aloneF_snoc]
    simp only [Hi.stepF]
    rw [if_pos (show (cmE f (n + 1)).kind = 1 from rfl), if_neg (by simp), great_pos (show (0 : Int) < ((n + 1 : Nat) : Int) by omega)]
    rfl
theorem cms_filter {c : Nat} {G : Ev} (hG : G.node = 1 ∧ G.epoch = 4) : ∀ n, (cms f n).filter (keepB G (c : Int)) = cms f (min n c)
  | 0 => by simp [cms]
  | n + 1 => by
    rw [cms_succ, List.filter_append, cms_filter hG n]
    by_cases h : n + 1 ≤ c
    · have hk : keepB G (c : Int) (cmE f (n + 1)) = true := by
        have h1 : ¬ ((c : Int) < ((n + 1 : Nat) : Int)) := by omega
        unfold keepB same cmE
        simp only [hG.1, hG.2, decide_true, Bool.and_true, decide_eq_false h1, Bool.and_false, Bool.not_false]
      rw [List.filter_cons_of_pos hk, List.filter_nil, Nat.min_eq_left (by omega), Nat.min_eq_left h, cms_succ]
    · have hk : ¬ keepB G (c : Int) (cmE f (n + 1)) = true := by
        have h1 : (c : Int) < ((n + 1 : Nat) : Int) := by omega
        unfold keepB same cmE
        simp only [hG.1, hG.2, decide_true, Bool.and_true, decide_eq_true h1, Bool.not_true, Bool.false_eq_true, not_false_eq_true]
      rw [List.filter_cons_of_neg hk, List.filter_nil, List.append_nil, Nat.min_eq_right (by omega), Nat.min_eq_right (by omega)]
def syE (s : Nat) : List Ev := if 0 < s then [⟨2, 1, 4, (s : Int), NS', NS', [], []⟩] else []
def rdE (n : Nat) (rd : Bool) (rv : Value) : List Ev := if rd = true then [⟨1, 2, 5, 1, rv, NS', [((n : Int), 0, oneD (n : Int))], []⟩] else []
abbrev gnE : Ev := ⟨3, 1, 4, 0, NS', NS', [], []⟩
abbrev fnE (rv : Value) (x : Im) : Ev := ⟨4, 0, 0, 0, rv, NS', [x], []⟩
def vanL (f : Nat → Value) (n s : Nat) (rd : Bool) (rv : Value) : List Ev := cms f n ++ syE s ++ rdE n rd rv
theorem maxL_append {p : Ev → Bool} {m : Int} {l l' : List Ev} : maxL p m (l ++ l') = maxL p (maxL p m l) l' := by simp [maxL]
theorem cms_max1 {G : Ev} (hG : G.node = 1 ∧ G.epoch = 4) : ∀ n, maxL (fun x => same x G && decide (x.kind = 1)) 0 (cms f n) = (n : Int)
  | 0 => rfl
  | n + 1 => by
    rw [cms_succ, maxL_snoc, cms_max1 hG n]
    simp [cmE, same, hG]
    omega
theorem cms_max2 {G : Ev} : ∀ n, maxL (fun x => same x G && decide (x.kind = 2)) 0 (cms f n) = 0
  | 0 => rfl
  | n + 1 => by
    rw [cms_succ, maxL_snoc, cms_max2 n]
    simp [cmE]
theorem cutsR_none : ∀ (l pre : List Ev), (∀ e ∈ l, e.kind ≠ 3) → cutsR pre l = []
  | [], _, _ => rfl
  | e :: l, pre, h => by
    simp only [cutsR]
    rw [if_neg (h e (by simp)), cutsR_none l _ fun x hx => h x (by simp [hx])]; rfl
theorem van_kinds : ∀ e ∈ vanL f n s rd rv, e.kind = 1 ∨ e.kind = 2 := fun e he => by
  unfold vanL at he
  rcases List.mem_append.1 he with he | he
  · rcases List.mem_append.1 he with he | he
    · obtain ⟨j, _, rfl⟩ := List.mem_map.1 he; exact .inl rfl
    · unfold syE at he; split at he
      · rw [List.mem_singleton.1 he]; exact .inr rfl
      · simp at he
  · unfold rdE at he; split at he
    · rw [List.mem_singleton.1 he]; exact .inl rfl
    · simp at he
theorem van_cuts (hs : s ≤ n) : cutsR [] (vanL f n s rd rv ++ [gnE, fnE rv' x]) = [((s : Int), (n : Int))] := by
  rw [cutsR_append, cutsR_none _ _ fun e he => by rcases van_kinds e he with h | h <;> rw [h] <;> decide]
  have h1 : leastF (vanL f n s rd rv) gnE = (s : Int) := by
    unfold leastF vanL
    rw [maxL_append, maxL_append, cms_max2]
    unfold syE rdE
    by_cases h : 0 < s
    · rw [if_pos h]
      cases rd <;> simp [maxL, same]
    · have : s = 0 := by omega
      subst this
      cases rd <;> simp [maxL, same]
  have h2 : mostF (vanL f n s rd rv) gnE = (n : Int) := by
    unfold mostF
    rw [h1]
    unfold vanL
    rw [maxL_append, maxL_append, cms_max1 ⟨rfl, rfl⟩]
    unfold syE rdE
    by_cases h : 0 < s
    · rw [if_pos h]
      cases rd <;> simp [maxL, same] <;> omega
    · rw [if_neg h]
      cases rd <;> simp [maxL, same] <;> omega
  simp [cutsR, h1, h2]
theorem van_err (hs : s ≤ n) (hn : n ≤ 20) : errF (vanL f n s rd rv ++ [gnE, fnE rv' x]) = 0 := by
  have hl : (vanL f n s rd rv ++ [gnE, fnE rv' x]).length ≤ 24 := by
    unfold vanL syE rdE
    simp only [List.length_append, cms_len, List.length_cons, List.length_nil]
    split <;> split <;> simp <;> omega
  unfold errF
  rw [if_neg (by omega), van_cuts hs]
  have hw : waysF [((s : Int), (n : Int))] = some (1 * ((n : Int) - s + 1)) := by
    simp only [waysF, List.foldl_cons, List.foldl_nil]
    rw [if_neg (by omega)]
  rw [hw]
  simp only [reduceCtorEq, if_false]
  have hk : kindsF (vanL f n s rd rv ++ [gnE, fnE rv' x]) = true := by
    unfold kindsF
    rw [List.all_append, Bool.and_eq_true]
    refine ⟨List.all_eq_true.2 fun e he => ?_, rfl⟩
    rcases van_kinds e he with h | h <;> rw [h] <;> rfl
  rw [if_pos hk]
theorem van_ok {c : Nat} (hc : c ≤ n) (hn : 1 ≤ n) (hx : x.1 = (n : Int)) : Hi.okF Z96 (vanL f n s rd rv ++ [gnE, fnE rv' x]) [(c : Int)] =
    (decide ((if n ≤ c then oneD (n : Int) else Z96) = x.2.2) && (!rd || decide ((if n ≤ c then oneD (n : Int) else Z96) = oneD (n : Int)))) := by
  obtain ⟨a1, a2⟩ := cms_alone (f := f) n
  obtain ⟨b1, b2⟩ := cms_alone (f := f) c
  have hgn : arGet (n : Int) (aloneF Z96 (cms f n)).1 = some (oneD (n : Int)) := by rw [a2, if_pos (by omega)]
  have hgc : (arGet (n : Int) (aloneF Z96 (cms f c)).1).getD Z96 = if n ≤ c then oneD (n : Int) else Z96 := by
    rw [b2]
    by_cases h : n ≤ c
    · rw [if_pos (by omega), if_pos h]; rfl
    · rw [if_neg (by omega), if_neg h]; rfl
  have h1 : playF Z96 (cms f n ++ syE s) [(c : Int)] = ⟨(aloneF Z96 (cms f n)).1, true, cms f n, [], [(c : Int)]⟩ := by
    unfold syE
    split
    · rw [playF_snoc, cms_play]; rfl
    · rw [List.append_nil, cms_play]
  have h2 : playF Z96 (vanL f n s rd rv) [(c : Int)] = ⟨(aloneF Z96 (cms f n)).1, true, cms f n ++ rdE n rd rv, [], [(c : Int)]⟩ := by
    unfold vanL
    cases rd with
    | false => simp only [rdE, Bool.false_eq_true, if_false, List.append_nil]; exact h1
    | true =>
      simp only [rdE, if_true]
      rw [playF_snoc, h1]
      simp only [Hi.stepF, if_true]
      rw [if_neg (by simp), great_pos (show (0 : Int) < 1 by decide)]
      simp [readsF, writeF, hgn]
  have hfil : (cms f n ++ rdE n rd rv).filter (keepB gnE (c : Int)) = cms f c ++ rdE n rd rv := by
    rw [List.filter_append, cms_filter ⟨rfl, rfl⟩ n, Nat.min_eq_right hc]
    congr 1
    cases rd <;> simp [rdE, keepB, same]
  have hal : aloneF Z96 (cms f c ++ rdE n rd rv) = ((aloneF Z96 (cms f c)).1, (!rd || decide ((if n ≤ c then oneD (n : Int) else Z96) = oneD (n : Int)))) := by
    cases rd with
    | false => simp only [rdE, Bool.false_eq_true, if_false, List.append_nil, Bool.not_false, Bool.true_or]; rw [← b1]
    | true =>
      simp only [rdE, if_true]
      rw [aloneF_snoc, b1]
      simp [readsF, writeF, hgc]
  have h3 : playF Z96 (vanL f n s rd rv ++ [gnE, fnE rv' x]) [(c : Int)] = ⟨(aloneF Z96 (cms f c)).1, readsF Z96 (aloneF Z96 (cms f c)).1 [x], cms f c ++ rdE n rd rv, [(1, 4)], []⟩ := by
    rw [show vanL f n s rd rv ++ [gnE, fnE rv' x] = (vanL f n s rd rv ++ [gnE]) ++ [fnE rv' x] by simp, playF_snoc, playF_snoc, h2]
    simp only [Hi.stepF, gnE, fnE, show ((3 : Int) = 1) = False from by simp, show ((4 : Int) = 1) = False from by simp, show ((4 : Int) = 3) = False from by simp, if_false, if_true, List.headD_cons, List.tail_cons, List.nil_append, Bool.true_and]
    rw [hfil, hal]
  unfold Hi.okF
  rw [h3, hal]
  simp only [readsF, List.all_cons, List.all_nil, Bool.and_true, hx, hgc]
theorem van_judge (hs : s ≤ n) (hn : 1 ≤ n) (hx : x.1 = (n : Int)) : judgeF Z96 (vanL f n s rd rv ++ [gnE, fnE rv' x]) =
    (List.range (n - s + 1)).any fun N => decide ((if n ≤ s + N then oneD (n : Int) else Z96) = x.2.2) && (!rd || decide ((if n ≤ s + N then oneD (n : Int) else Z96) = oneD (n : Int))) := by
  have hch : choicesF (vanL f n s rd rv ++ [gnE, fnE rv' x]) = [rangeF ((s : Int), (n : Int))] := by unfold choicesF; rw [van_cuts hs]; rfl
  have hrl : (rangeF ((s : Int), (n : Int))).length = n - s + 1 := by
    simp only [rangeF, List.length_map, List.length_range]; omega
  have hpr : prodL (lensF (vanL f n s rd rv ++ [gnE, fnE rv' x])) = n - s + 1 := by unfold lensF; rw [hch]; simp [prodL, hrl]
  have key : ∀ N, N < n - s + 1 → cutsAt (vanL f n s rd rv ++ [gnE, fnE rv' x]) N = [((s + N : Nat) : Int)] := fun N hN => by
    unfold cutsAt lensF
    rw [hch]
    simp only [List.map_cons, List.map_nil, hrl, dig, pickF, Nat.mod_eq_of_lt hN]
    have e : (rangeF ((s : Int), (n : Int))).getD N 0 = ((s + N : Nat) : Int) := by
      rw [List.getD_eq_getElem?_getD]
      unfold rangeF
      rw [List.getElem?_map, List.getElem?_range (by simp only; omega)]
      simp
    rw [e]
  unfold judgeF
  rw [hpr, Bool.eq_iff_iff, List.any_eq_true, List.any_eq_true]
  refine exists_congr fun N => and_congr_right fun hN => ?_
  have hN := List.mem_range.1 hN
  rw [key N hN, van_ok (by omega) hn hx]
theorem van_no (hs : s ≤ n) (hn : 1 ≤ n) (h20 : n ≤ 20) : judgeF Z96 (vanL f n s rd rv ++ [gnE, fnE rv' ((n : Int), 0, Z96)]) = (decide (s < n) && !rd) := by
  rw [van_judge hs hn rfl]
  have hne : Z96 ≠ oneD (n : Int) := oneD_ne (by omega) (by omega)
  rw [Bool.eq_iff_iff, List.any_eq_true]
  simp only [Bool.and_eq_true, decide_eq_true_eq, Bool.or_eq_true]
  refine ⟨fun ⟨N, hN, h1, h2⟩ => ?_, fun ⟨h1, h2⟩ => ⟨0, List.mem_range.2 (by omega), ?_, .inl h2⟩⟩
  · by_cases hc : n ≤ s + N
    · rw [if_pos hc] at h1; exact absurd h1.symm hne
    · rw [if_neg hc] at h2
      refine ⟨by omega, ?_⟩
      rcases h2 with h2 | h2
      · exact h2
      · exact absurd h2 hne
  · rw [if_neg (by omega)]
theorem van_yes (hs : s ≤ n) (hn : 1 ≤ n) : judgeF Z96 (vanL f n s rd rv ++ [gnE, fnE rv' ((n : Int), 0, oneD (n : Int))]) = true := by
  rw [van_judge hs hn rfl, List.any_eq_true]
  refine ⟨n - s, List.mem_range.2 (by omega), ?_⟩
  rw [if_pos (by omega)]
  simp
end
end Go.Proofs.Ytmmnifbponhhfaa
