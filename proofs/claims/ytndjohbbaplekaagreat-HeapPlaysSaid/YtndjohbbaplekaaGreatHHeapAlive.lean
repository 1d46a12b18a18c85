/- The first call of the statements of chapter 4: 'alive' is true. Conditions: none. -/
import Derived.Test.YtndjohbbaplekaaGreatHHeapCi
import Derived.Test.YtndjohbbaplekaaGreatHShR
set_option linter.unusedSimpArgs false
set_option linter.unusedVariables false
namespace Go.Proofs.YtndjohbbaplekaaGreatH
open Go.Sh Go.Sh.Hp
set_option maxRecDepth 100000

theorem alive_c {w : World} {Q : Value → World → Prop} (hq : ∀ w', Keep (fun _ => False) w w' → Q (.bool true) w') : callS Tryz.prog 8 #[] Q w := by
  refine ref8 ?_
  unfold S8
  refine Hi.new_c (F := fun b => siz w ≤ b) (Nat.le_refl _) fun w1 f1 m1 k1 => ?_
  have s1 := k1.size
  have K1 : Keep (fun b => siz w ≤ b) w w1 := k1.none
  simp only [stp, Nat.reduceAdd, Int.reduceLT, Int.reduceLE, Int.reduceEq, Int.reduceNe, ne_eq, bne_self_eq_false, beq_self_eq_true]
  refine Hi.put_c m1 (fun b hb => Nat.le_trans s1 hb) rfl (by omega) fun w2 sl2 mo2 f2 b2 m2 h2 p2 k2 => ?_
  have K2 := K1.trans (k2.mono fun b _ h => h)
  have s2 := K2.size
  have e1 : (((0 : Nat) + 1 : Nat) : Int) = 1 := rfl
  simp only [e1, stp, Nat.reduceAdd, Int.reduceLT, Int.reduceLE, Int.reduceEq, Int.reduceNe, ne_eq, bne_self_eq_false, beq_self_eq_true]
  refine Hi.put_c m2 (fun b hb => Nat.le_trans s2 hb) rfl (by omega) fun w3 sl3 mo3 f3 b3 m3 h3 p3 k3 => ?_
  have K3 := K2.trans (k3.mono fun b _ h => h)
  have e2 : (((0 : Nat) + 1 + 1 : Nat) : Int) = 2 := rfl
  simp only [e2, stp, Nat.reduceAdd, Int.reduceLT, Int.reduceLE, Int.reduceEq, Int.reduceNe, ne_eq, bne_self_eq_false, beq_self_eq_true]
  have hh2 : Heap 1 f2 := h2 (fun k _ hk => by omega)
  have hh3 : Heap 2 f3 := h3 hh2
  have hp : (items 2 f3).Perm [⟨b3, 3, 2, .int .i64 30⟩, ⟨b2, 5, 1, .int .i64 50⟩] := p3.trans (List.Perm.cons _ p2)
  have hroot : f3 0 = ⟨b3, 3, 2, .int .i64 30⟩ := by
    have hmem : f3 0 ∈ [(⟨b3, 3, 2, .int .i64 30⟩ : It), ⟨b2, 5, 1, .int .i64 50⟩] := hp.subset (mem_items.2 ⟨0, by omega, rfl⟩)
    simp only [List.mem_cons, List.not_mem_nil, or_false] at hmem
    rcases hmem with h | h
    · exact h
    · exfalso
      obtain ⟨k, hk, hfk⟩ := mem_items.1 (hp.symm.subset (List.mem_cons_self ..))
      have := root_min hh3 k hk
      rw [hfk, h] at this
      exact this (.inl (show (3 : Int) < 5 by decide))
  refine Hi.take_c m3 (by omega) (by rw [hroot]; exact (show (3 : Int) ≤ 4 by decide)) fun w4 sl4 f4 n4 hn4 m4 h4 p4 k4 => ?_
  have hn : n4 = 1 := by omega
  subst hn
  have K4 := K3.trans (k4.mono fun b _ h => h)
  rw [hroot] at p4 ⊢
  have hp4 : (items 1 f4).Perm [⟨b2, 5, 1, .int .i64 50⟩] := List.Perm.cons_inv (p4.trans hp)
  have h40 : f4 0 = ⟨b2, 5, 1, .int .i64 50⟩ := by
    have := hp4.subset (mem_items.2 ⟨0, by omega, rfl⟩)
    simpa using this
  simp only [stp, Nat.reduceAdd, Int.reduceLT, Int.reduceLE, Int.reduceEq, Int.reduceNe, ne_eq, bne_self_eq_false, beq_self_eq_true]
  refine Hi.take_none m4 (.inr (by rw [h40]; exact (show (4 : Int) < 5 by decide))) fun w5 k5 => ?_
  have m5 := m4.still k5
  have K5 := K4.trans (k5.none (F := fun b => siz w ≤ b))
  simp only [stp, Nat.reduceAdd, Int.reduceLT, Int.reduceLE, Int.reduceEq, Int.reduceNe, ne_eq, bne_self_eq_false, beq_self_eq_true]
  refine Hi.len_c m5 ?_
  have e3 : ((1 : Nat) : Int) = 1 := rfl
  simp only [e3, stp, Nat.reduceAdd, Int.reduceLT, Int.reduceLE, Int.reduceEq, Int.reduceNe, ne_eq, bne_self_eq_false, beq_self_eq_true]
  refine hq _ ⟨K5.os, K5.tape, K5.output, K5.size, fun b hb _ => K5.block b hb (by omega)⟩
end Go.Proofs.YtndjohbbaplekaaGreatH
