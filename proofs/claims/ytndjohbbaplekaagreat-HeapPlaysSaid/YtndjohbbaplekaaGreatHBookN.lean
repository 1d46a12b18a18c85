/- The book of lists: kinds of which it has none. Conditions: as each says. -/
import Derived.Test.YtndjohbbaplekaaGreatHT
import Derived.Test.YtndjohbbaplekaaGreatHShL
import Derived.Test.YtndjohbbaplekaaGreatHBook
set_option linter.unusedSimpArgs false
set_option linter.unusedVariables false
namespace Go.Proofs.YtndjohbbaplekaaGreatH.Bk
open Go.Sh Go.Proofs.YtndjohbbaplekaaGreatH
set_option maxRecDepth 100000
section
variable {w : World} {Q : Value → World → Prop} {b : Nat}
theorem stillTexts0 (c : cel w b 0 = some (.slice none 0 0)) (hq : Q (.bool true) w) : callS Tryz.prog 102 #[.pointer (some ⟨b, 0, none⟩)] Q w := by
  refine ref102 ?_
  unfold S102
  refine lp1 (fun m x w' => x = .int .i64 0 ∧ w' = w) 0 ⟨rfl, rfl⟩ ?_
  rintro m x w1 ⟨rfl, rfl⟩ J hJ _j
  simp only [stp, Nat.reduceAdd, Int.reduceLT, Int.reduceLE, Int.reduceEq, Int.reduceNe, ne_eq, bne_self_eq_false, beq_self_eq_true, stm, c, Option.isSome_some, Option.getD_some]
  exact hq
theorem putTexts0 (c : cel w b 0 = some (.slice none 0 0)) (hq : Q (.tuple #[]) w) : callS Tryz.prog 120 #[.pointer (some ⟨b, 0, none⟩)] Q w := by
  refine ref120 ?_
  unfold S120
  refine lp1 (fun m x w' => x = .int .i64 0 ∧ w' = w) 0 ⟨rfl, rfl⟩ ?_
  rintro m x w1 ⟨rfl, rfl⟩ J hJ _j
  simp only [stp, Nat.reduceAdd, Int.reduceLT, Int.reduceLE, Int.reduceEq, Int.reduceNe, ne_eq, bne_self_eq_false, beq_self_eq_true, stm, c, Option.isSome_some, Option.getD_some]
  exact hq
theorem growTexts0 (c : cel w b 0 = some (.slice none 0 0)) (hq : Q (.slice none 0 0) w) : callS Tryz.prog 132 #[.pointer (some ⟨b, 0, none⟩)] Q w := by
  refine ref132 ?_
  unfold S132
  refine lp2 (fun m x y w' => x = .slice none 0 0 ∧ y = .int .i64 0 ∧ w' = w) 0 ⟨rfl, rfl, rfl⟩ ?_
  rintro m x y w1 ⟨rfl, rfl, rfl⟩ J hJ _j
  simp only [stp, Nat.reduceAdd, Int.reduceLT, Int.reduceLE, Int.reduceEq, Int.reduceNe, ne_eq, bne_self_eq_false, beq_self_eq_true, stm, c, Option.isSome_some, Option.getD_some]
  exact hq
theorem markedTexts0 (hq : Q (.bool true) w) : callS Tryz.prog 147 #[.slice none 0 0] Q w := by
  refine ref147 ?_
  unfold S147
  refine lp1 (fun m x w' => x = .int .i64 0 ∧ w' = w) 0 ⟨rfl, rfl⟩ ?_
  rintro m x w1 ⟨rfl, rfl⟩ J hJ _j
  simp only [stp, Nat.reduceAdd, Int.reduceLT, Int.reduceLE, Int.reduceEq, Int.reduceNe, ne_eq, bne_self_eq_false, beq_self_eq_true, stm]
  exact hq
theorem stillNums0 (c : cel w b 4 = some (.slice none 0 0)) (hq : Q (.bool true) w) : callS Tryz.prog 104 #[.pointer (some ⟨b, 0, none⟩)] Q w := by
  refine ref104 ?_
  unfold S104
  refine lp1 (fun m x w' => x = .int .i64 0 ∧ w' = w) 0 ⟨rfl, rfl⟩ ?_
  rintro m x w1 ⟨rfl, rfl⟩ J hJ _j
  simp only [stp, Nat.reduceAdd, Int.reduceLT, Int.reduceLE, Int.reduceEq, Int.reduceNe, ne_eq, bne_self_eq_false, beq_self_eq_true, stm, c, Option.isSome_some, Option.getD_some]
  exact hq
theorem putNums0 (c : cel w b 4 = some (.slice none 0 0)) (hq : Q (.tuple #[]) w) : callS Tryz.prog 122 #[.pointer (some ⟨b, 0, none⟩)] Q w := by
  refine ref122 ?_
  unfold S122
  refine lp1 (fun m x w' => x = .int .i64 0 ∧ w' = w) 0 ⟨rfl, rfl⟩ ?_
  rintro m x w1 ⟨rfl, rfl⟩ J hJ _j
  simp only [stp, Nat.reduceAdd, Int.reduceLT, Int.reduceLE, Int.reduceEq, Int.reduceNe, ne_eq, bne_self_eq_false, beq_self_eq_true, stm, c, Option.isSome_some, Option.getD_some]
  exact hq
theorem growNums0 (c : cel w b 4 = some (.slice none 0 0)) (hq : Q (.slice none 0 0) w) : callS Tryz.prog 134 #[.pointer (some ⟨b, 0, none⟩)] Q w := by
  refine ref134 ?_
  unfold S134
  refine lp2 (fun m x y w' => x = .slice none 0 0 ∧ y = .int .i64 0 ∧ w' = w) 0 ⟨rfl, rfl, rfl⟩ ?_
  rintro m x y w1 ⟨rfl, rfl, rfl⟩ J hJ _j
  simp only [stp, Nat.reduceAdd, Int.reduceLT, Int.reduceLE, Int.reduceEq, Int.reduceNe, ne_eq, bne_self_eq_false, beq_self_eq_true, stm, c, Option.isSome_some, Option.getD_some]
  exact hq
theorem markedNums0 (hq : Q (.bool true) w) : callS Tryz.prog 149 #[.slice none 0 0] Q w := by
  refine ref149 ?_
  unfold S149
  refine lp1 (fun m x w' => x = .int .i64 0 ∧ w' = w) 0 ⟨rfl, rfl⟩ ?_
  rintro m x w1 ⟨rfl, rfl⟩ J hJ _j
  simp only [stp, Nat.reduceAdd, Int.reduceLT, Int.reduceLE, Int.reduceEq, Int.reduceNe, ne_eq, bne_self_eq_false, beq_self_eq_true, stm]
  exact hq
theorem stillSpans0 (c : cel w b 6 = some (.slice none 0 0)) (hq : Q (.bool true) w) : callS Tryz.prog 105 #[.pointer (some ⟨b, 0, none⟩)] Q w := by
  refine ref105 ?_
  unfold S105
  refine lp1 (fun m x w' => x = .int .i64 0 ∧ w' = w) 0 ⟨rfl, rfl⟩ ?_
  rintro m x w1 ⟨rfl, rfl⟩ J hJ _j
  simp only [stp, Nat.reduceAdd, Int.reduceLT, Int.reduceLE, Int.reduceEq, Int.reduceNe, ne_eq, bne_self_eq_false, beq_self_eq_true, stm, c, Option.isSome_some, Option.getD_some]
  exact hq
theorem putSpans0 (c : cel w b 6 = some (.slice none 0 0)) (hq : Q (.tuple #[]) w) : callS Tryz.prog 123 #[.pointer (some ⟨b, 0, none⟩)] Q w := by
  refine ref123 ?_
  unfold S123
  refine lp1 (fun m x w' => x = .int .i64 0 ∧ w' = w) 0 ⟨rfl, rfl⟩ ?_
  rintro m x w1 ⟨rfl, rfl⟩ J hJ _j
  simp only [stp, Nat.reduceAdd, Int.reduceLT, Int.reduceLE, Int.reduceEq, Int.reduceNe, ne_eq, bne_self_eq_false, beq_self_eq_true, stm, c, Option.isSome_some, Option.getD_some]
  exact hq
theorem growSpans0 (c : cel w b 6 = some (.slice none 0 0)) (hq : Q (.slice none 0 0) w) : callS Tryz.prog 135 #[.pointer (some ⟨b, 0, none⟩)] Q w := by
  refine ref135 ?_
  unfold S135
  refine lp2 (fun m x y w' => x = .slice none 0 0 ∧ y = .int .i64 0 ∧ w' = w) 0 ⟨rfl, rfl, rfl⟩ ?_
  rintro m x y w1 ⟨rfl, rfl, rfl⟩ J hJ _j
  simp only [stp, Nat.reduceAdd, Int.reduceLT, Int.reduceLE, Int.reduceEq, Int.reduceNe, ne_eq, bne_self_eq_false, beq_self_eq_true, stm, c, Option.isSome_some, Option.getD_some]
  exact hq
theorem markedSpans0 (hq : Q (.bool true) w) : callS Tryz.prog 150 #[.slice none 0 0] Q w := by
  refine ref150 ?_
  unfold S150
  refine lp1 (fun m x w' => x = .int .i64 0 ∧ w' = w) 0 ⟨rfl, rfl⟩ ?_
  rintro m x w1 ⟨rfl, rfl⟩ J hJ _j
  simp only [stp, Nat.reduceAdd, Int.reduceLT, Int.reduceLE, Int.reduceEq, Int.reduceNe, ne_eq, bne_self_eq_false, beq_self_eq_true, stm]
  exact hq
theorem stillLocks0 (c : cel w b 8 = some (.slice none 0 0)) (hq : Q (.bool true) w) : callS Tryz.prog 106 #[.pointer (some ⟨b, 0, none⟩)] Q w := by
  refine ref106 ?_
  unfold S106
  refine lp1 (fun m x w' => x = .int .i64 0 ∧ w' = w) 0 ⟨rfl, rfl⟩ ?_
  rintro m x w1 ⟨rfl, rfl⟩ J hJ _j
  simp only [stp, Nat.reduceAdd, Int.reduceLT, Int.reduceLE, Int.reduceEq, Int.reduceNe, ne_eq, bne_self_eq_false, beq_self_eq_true, stm, c, Option.isSome_some, Option.getD_some]
  exact hq
theorem putLocks0 (c : cel w b 8 = some (.slice none 0 0)) (hq : Q (.tuple #[]) w) : callS Tryz.prog 124 #[.pointer (some ⟨b, 0, none⟩)] Q w := by
  refine ref124 ?_
  unfold S124
  refine lp1 (fun m x w' => x = .int .i64 0 ∧ w' = w) 0 ⟨rfl, rfl⟩ ?_
  rintro m x w1 ⟨rfl, rfl⟩ J hJ _j
  simp only [stp, Nat.reduceAdd, Int.reduceLT, Int.reduceLE, Int.reduceEq, Int.reduceNe, ne_eq, bne_self_eq_false, beq_self_eq_true, stm, c, Option.isSome_some, Option.getD_some]
  exact hq
theorem growLocks0 (c : cel w b 8 = some (.slice none 0 0)) (hq : Q (.slice none 0 0) w) : callS Tryz.prog 136 #[.pointer (some ⟨b, 0, none⟩)] Q w := by
  refine ref136 ?_
  unfold S136
  refine lp2 (fun m x y w' => x = .slice none 0 0 ∧ y = .int .i64 0 ∧ w' = w) 0 ⟨rfl, rfl, rfl⟩ ?_
  rintro m x y w1 ⟨rfl, rfl, rfl⟩ J hJ _j
  simp only [stp, Nat.reduceAdd, Int.reduceLT, Int.reduceLE, Int.reduceEq, Int.reduceNe, ne_eq, bne_self_eq_false, beq_self_eq_true, stm, c, Option.isSome_some, Option.getD_some]
  exact hq
theorem markedLocks0 (hq : Q (.bool true) w) : callS Tryz.prog 151 #[.slice none 0 0] Q w := by
  refine ref151 ?_
  unfold S151
  refine lp1 (fun m x w' => x = .int .i64 0 ∧ w' = w) 0 ⟨rfl, rfl⟩ ?_
  rintro m x w1 ⟨rfl, rfl⟩ J hJ _j
  simp only [stp, Nat.reduceAdd, Int.reduceLT, Int.reduceLE, Int.reduceEq, Int.reduceNe, ne_eq, bne_self_eq_false, beq_self_eq_true, stm]
  exact hq
theorem stillImages0 (c : cel w b 10 = some (.slice none 0 0)) (hq : Q (.bool true) w) : callS Tryz.prog 107 #[.pointer (some ⟨b, 0, none⟩)] Q w := by
  refine ref107 ?_
  unfold S107
  refine lp1 (fun m x w' => x = .int .i64 0 ∧ w' = w) 0 ⟨rfl, rfl⟩ ?_
  rintro m x w1 ⟨rfl, rfl⟩ J hJ _j
  simp only [stp, Nat.reduceAdd, Int.reduceLT, Int.reduceLE, Int.reduceEq, Int.reduceNe, ne_eq, bne_self_eq_false, beq_self_eq_true, stm, c, Option.isSome_some, Option.getD_some]
  exact hq
theorem putImages0 (c : cel w b 10 = some (.slice none 0 0)) (hq : Q (.tuple #[]) w) : callS Tryz.prog 125 #[.pointer (some ⟨b, 0, none⟩)] Q w := by
  refine ref125 ?_
  unfold S125
  refine lp1 (fun m x w' => x = .int .i64 0 ∧ w' = w) 0 ⟨rfl, rfl⟩ ?_
  rintro m x w1 ⟨rfl, rfl⟩ J hJ _j
  simp only [stp, Nat.reduceAdd, Int.reduceLT, Int.reduceLE, Int.reduceEq, Int.reduceNe, ne_eq, bne_self_eq_false, beq_self_eq_true, stm, c, Option.isSome_some, Option.getD_some]
  exact hq
theorem growImages0 (c : cel w b 10 = some (.slice none 0 0)) (hq : Q (.slice none 0 0) w) : callS Tryz.prog 137 #[.pointer (some ⟨b, 0, none⟩)] Q w := by
  refine ref137 ?_
  unfold S137
  refine lp2 (fun m x y w' => x = .slice none 0 0 ∧ y = .int .i64 0 ∧ w' = w) 0 ⟨rfl, rfl, rfl⟩ ?_
  rintro m x y w1 ⟨rfl, rfl, rfl⟩ J hJ _j
  simp only [stp, Nat.reduceAdd, Int.reduceLT, Int.reduceLE, Int.reduceEq, Int.reduceNe, ne_eq, bne_self_eq_false, beq_self_eq_true, stm, c, Option.isSome_some, Option.getD_some]
  exact hq
theorem markedImages0 (hq : Q (.bool true) w) : callS Tryz.prog 152 #[.slice none 0 0] Q w := by
  refine ref152 ?_
  unfold S152
  refine lp1 (fun m x w' => x = .int .i64 0 ∧ w' = w) 0 ⟨rfl, rfl⟩ ?_
  rintro m x w1 ⟨rfl, rfl⟩ J hJ _j
  simp only [stp, Nat.reduceAdd, Int.reduceLT, Int.reduceLE, Int.reduceEq, Int.reduceNe, ne_eq, bne_self_eq_false, beq_self_eq_true, stm]
  exact hq
theorem stillRecords0 (c : cel w b 12 = some (.slice none 0 0)) (hq : Q (.bool true) w) : callS Tryz.prog 108 #[.pointer (some ⟨b, 0, none⟩)] Q w := by
  refine ref108 ?_
  unfold S108
  refine lp1 (fun m x w' => x = .int .i64 0 ∧ w' = w) 0 ⟨rfl, rfl⟩ ?_
  rintro m x w1 ⟨rfl, rfl⟩ J hJ _j
  simp only [stp, Nat.reduceAdd, Int.reduceLT, Int.reduceLE, Int.reduceEq, Int.reduceNe, ne_eq, bne_self_eq_false, beq_self_eq_true, stm, c, Option.isSome_some, Option.getD_some]
  exact hq
theorem putRecords0 (c : cel w b 12 = some (.slice none 0 0)) (hq : Q (.tuple #[]) w) : callS Tryz.prog 117 #[.pointer (some ⟨b, 0, none⟩)] Q w := by
  refine ref117 ?_
  unfold S117
  refine lp1 (fun m x w' => x = .int .i64 0 ∧ w' = w) 0 ⟨rfl, rfl⟩ ?_
  rintro m x w1 ⟨rfl, rfl⟩ J hJ _j
  simp only [stp, Nat.reduceAdd, Int.reduceLT, Int.reduceLE, Int.reduceEq, Int.reduceNe, ne_eq, bne_self_eq_false, beq_self_eq_true, stm, c, Option.isSome_some, Option.getD_some]
  exact hq
theorem growRecords0 (c : cel w b 12 = some (.slice none 0 0)) (hq : Q (.slice none 0 0) w) : callS Tryz.prog 138 #[.pointer (some ⟨b, 0, none⟩)] Q w := by
  refine ref138 ?_
  unfold S138
  refine lp2 (fun m x y w' => x = .slice none 0 0 ∧ y = .int .i64 0 ∧ w' = w) 0 ⟨rfl, rfl, rfl⟩ ?_
  rintro m x y w1 ⟨rfl, rfl, rfl⟩ J hJ _j
  simp only [stp, Nat.reduceAdd, Int.reduceLT, Int.reduceLE, Int.reduceEq, Int.reduceNe, ne_eq, bne_self_eq_false, beq_self_eq_true, stm, c, Option.isSome_some, Option.getD_some]
  exact hq
theorem markedRecords0 (hq : Q (.bool true) w) : callS Tryz.prog 153 #[.slice none 0 0] Q w := by
  refine ref153 ?_
  unfold S153
  refine lp1 (fun m x w' => x = .int .i64 0 ∧ w' = w) 0 ⟨rfl, rfl⟩ ?_
  rintro m x w1 ⟨rfl, rfl⟩ J hJ _j
  simp only [stp, Nat.reduceAdd, Int.reduceLT, Int.reduceLE, Int.reduceEq, Int.reduceNe, ne_eq, bne_self_eq_false, beq_self_eq_true, stm]
  exact hq
theorem stillPackets0 (c : cel w b 14 = some (.slice none 0 0)) (hq : Q (.bool true) w) : callS Tryz.prog 109 #[.pointer (some ⟨b, 0, none⟩)] Q w := by
  refine ref109 ?_
  unfold S109
  refine lp1 (fun m x w' => x = .int .i64 0 ∧ w' = w) 0 ⟨rfl, rfl⟩ ?_
  rintro m x w1 ⟨rfl, rfl⟩ J hJ _j
  simp only [stp, Nat.reduceAdd, Int.reduceLT, Int.reduceLE, Int.reduceEq, Int.reduceNe, ne_eq, bne_self_eq_false, beq_self_eq_true, stm, c, Option.isSome_some, Option.getD_some]
  exact hq
theorem putPackets0 (c : cel w b 14 = some (.slice none 0 0)) (hq : Q (.tuple #[]) w) : callS Tryz.prog 126 #[.pointer (some ⟨b, 0, none⟩)] Q w := by
  refine ref126 ?_
  unfold S126
  refine lp1 (fun m x w' => x = .int .i64 0 ∧ w' = w) 0 ⟨rfl, rfl⟩ ?_
  rintro m x w1 ⟨rfl, rfl⟩ J hJ _j
  simp only [stp, Nat.reduceAdd, Int.reduceLT, Int.reduceLE, Int.reduceEq, Int.reduceNe, ne_eq, bne_self_eq_false, beq_self_eq_true, stm, c, Option.isSome_some, Option.getD_some]
  exact hq
theorem growPackets0 (c : cel w b 14 = some (.slice none 0 0)) (hq : Q (.slice none 0 0) w) : callS Tryz.prog 139 #[.pointer (some ⟨b, 0, none⟩)] Q w := by
  refine ref139 ?_
  unfold S139
  refine lp2 (fun m x y w' => x = .slice none 0 0 ∧ y = .int .i64 0 ∧ w' = w) 0 ⟨rfl, rfl, rfl⟩ ?_
  rintro m x y w1 ⟨rfl, rfl, rfl⟩ J hJ _j
  simp only [stp, Nat.reduceAdd, Int.reduceLT, Int.reduceLE, Int.reduceEq, Int.reduceNe, ne_eq, bne_self_eq_false, beq_self_eq_true, stm, c, Option.isSome_some, Option.getD_some]
  exact hq
theorem markedPackets0 (hq : Q (.bool true) w) : callS Tryz.prog 154 #[.slice none 0 0] Q w := by
  refine ref154 ?_
  unfold S154
  refine lp1 (fun m x w' => x = .int .i64 0 ∧ w' = w) 0 ⟨rfl, rfl⟩ ?_
  rintro m x w1 ⟨rfl, rfl⟩ J hJ _j
  simp only [stp, Nat.reduceAdd, Int.reduceLT, Int.reduceLE, Int.reduceEq, Int.reduceNe, ne_eq, bne_self_eq_false, beq_self_eq_true, stm]
  exact hq
theorem stillFrames0 (c : cel w b 16 = some (.slice none 0 0)) (hq : Q (.bool true) w) : callS Tryz.prog 110 #[.pointer (some ⟨b, 0, none⟩)] Q w := by
  refine ref110 ?_
  unfold S110
  refine lp1 (fun m x w' => x = .int .i64 0 ∧ w' = w) 0 ⟨rfl, rfl⟩ ?_
  rintro m x w1 ⟨rfl, rfl⟩ J hJ _j
  simp only [stp, Nat.reduceAdd, Int.reduceLT, Int.reduceLE, Int.reduceEq, Int.reduceNe, ne_eq, bne_self_eq_false, beq_self_eq_true, stm, c, Option.isSome_some, Option.getD_some]
  exact hq
theorem putFrames0 (c : cel w b 16 = some (.slice none 0 0)) (hq : Q (.tuple #[]) w) : callS Tryz.prog 127 #[.pointer (some ⟨b, 0, none⟩)] Q w := by
  refine ref127 ?_
  unfold S127
  refine lp1 (fun m x w' => x = .int .i64 0 ∧ w' = w) 0 ⟨rfl, rfl⟩ ?_
  rintro m x w1 ⟨rfl, rfl⟩ J hJ _j
  simp only [stp, Nat.reduceAdd, Int.reduceLT, Int.reduceLE, Int.reduceEq, Int.reduceNe, ne_eq, bne_self_eq_false, beq_self_eq_true, stm, c, Option.isSome_some, Option.getD_some]
  exact hq
theorem growFrames0 (c : cel w b 16 = some (.slice none 0 0)) (hq : Q (.slice none 0 0) w) : callS Tryz.prog 140 #[.pointer (some ⟨b, 0, none⟩)] Q w := by
  refine ref140 ?_
  unfold S140
  refine lp2 (fun m x y w' => x = .slice none 0 0 ∧ y = .int .i64 0 ∧ w' = w) 0 ⟨rfl, rfl, rfl⟩ ?_
  rintro m x y w1 ⟨rfl, rfl, rfl⟩ J hJ _j
  simp only [stp, Nat.reduceAdd, Int.reduceLT, Int.reduceLE, Int.reduceEq, Int.reduceNe, ne_eq, bne_self_eq_false, beq_self_eq_true, stm, c, Option.isSome_some, Option.getD_some]
  exact hq
theorem markedFrames0 (hq : Q (.bool true) w) : callS Tryz.prog 155 #[.slice none 0 0] Q w := by
  refine ref155 ?_
  unfold S155
  refine lp1 (fun m x w' => x = .int .i64 0 ∧ w' = w) 0 ⟨rfl, rfl⟩ ?_
  rintro m x w1 ⟨rfl, rfl⟩ J hJ _j
  simp only [stp, Nat.reduceAdd, Int.reduceLT, Int.reduceLE, Int.reduceEq, Int.reduceNe, ne_eq, bne_self_eq_false, beq_self_eq_true, stm]
  exact hq
theorem stillWaits0 (c : cel w b 18 = some (.slice none 0 0)) (hq : Q (.bool true) w) : callS Tryz.prog 111 #[.pointer (some ⟨b, 0, none⟩)] Q w := by
  refine ref111 ?_
  unfold S111
  refine lp1 (fun m x w' => x = .int .i64 0 ∧ w' = w) 0 ⟨rfl, rfl⟩ ?_
  rintro m x w1 ⟨rfl, rfl⟩ J hJ _j
  simp only [stp, Nat.reduceAdd, Int.reduceLT, Int.reduceLE, Int.reduceEq, Int.reduceNe, ne_eq, bne_self_eq_false, beq_self_eq_true, stm, c, Option.isSome_some, Option.getD_some]
  exact hq
theorem putWaits0 (c : cel w b 18 = some (.slice none 0 0)) (hq : Q (.tuple #[]) w) : callS Tryz.prog 128 #[.pointer (some ⟨b, 0, none⟩)] Q w := by
  refine ref128 ?_
  unfold S128
  refine lp1 (fun m x w' => x = .int .i64 0 ∧ w' = w) 0 ⟨rfl, rfl⟩ ?_
  rintro m x w1 ⟨rfl, rfl⟩ J hJ _j
  simp only [stp, Nat.reduceAdd, Int.reduceLT, Int.reduceLE, Int.reduceEq, Int.reduceNe, ne_eq, bne_self_eq_false, beq_self_eq_true, stm, c, Option.isSome_some, Option.getD_some]
  exact hq
theorem growWaits0 (c : cel w b 18 = some (.slice none 0 0)) (hq : Q (.slice none 0 0) w) : callS Tryz.prog 141 #[.pointer (some ⟨b, 0, none⟩)] Q w := by
  refine ref141 ?_
  unfold S141
  refine lp2 (fun m x y w' => x = .slice none 0 0 ∧ y = .int .i64 0 ∧ w' = w) 0 ⟨rfl, rfl, rfl⟩ ?_
  rintro m x y w1 ⟨rfl, rfl, rfl⟩ J hJ _j
  simp only [stp, Nat.reduceAdd, Int.reduceLT, Int.reduceLE, Int.reduceEq, Int.reduceNe, ne_eq, bne_self_eq_false, beq_self_eq_true, stm, c, Option.isSome_some, Option.getD_some]
  exact hq
theorem markedWaits0 (hq : Q (.bool true) w) : callS Tryz.prog 156 #[.slice none 0 0] Q w := by
  refine ref156 ?_
  unfold S156
  refine lp1 (fun m x w' => x = .int .i64 0 ∧ w' = w) 0 ⟨rfl, rfl⟩ ?_
  rintro m x w1 ⟨rfl, rfl⟩ J hJ _j
  simp only [stp, Nat.reduceAdd, Int.reduceLT, Int.reduceLE, Int.reduceEq, Int.reduceNe, ne_eq, bne_self_eq_false, beq_self_eq_true, stm]
  exact hq
theorem stillRevokes0 (c : cel w b 20 = some (.slice none 0 0)) (hq : Q (.bool true) w) : callS Tryz.prog 112 #[.pointer (some ⟨b, 0, none⟩)] Q w := by
  refine ref112 ?_
  unfold S112
  refine lp1 (fun m x w' => x = .int .i64 0 ∧ w' = w) 0 ⟨rfl, rfl⟩ ?_
  rintro m x w1 ⟨rfl, rfl⟩ J hJ _j
  simp only [stp, Nat.reduceAdd, Int.reduceLT, Int.reduceLE, Int.reduceEq, Int.reduceNe, ne_eq, bne_self_eq_false, beq_self_eq_true, stm, c, Option.isSome_some, Option.getD_some]
  exact hq
theorem putRevokes0 (c : cel w b 20 = some (.slice none 0 0)) (hq : Q (.tuple #[]) w) : callS Tryz.prog 129 #[.pointer (some ⟨b, 0, none⟩)] Q w := by
  refine ref129 ?_
  unfold S129
  refine lp1 (fun m x w' => x = .int .i64 0 ∧ w' = w) 0 ⟨rfl, rfl⟩ ?_
  rintro m x w1 ⟨rfl, rfl⟩ J hJ _j
  simp only [stp, Nat.reduceAdd, Int.reduceLT, Int.reduceLE, Int.reduceEq, Int.reduceNe, ne_eq, bne_self_eq_false, beq_self_eq_true, stm, c, Option.isSome_some, Option.getD_some]
  exact hq
theorem growRevokes0 (c : cel w b 20 = some (.slice none 0 0)) (hq : Q (.slice none 0 0) w) : callS Tryz.prog 142 #[.pointer (some ⟨b, 0, none⟩)] Q w := by
  refine ref142 ?_
  unfold S142
  refine lp2 (fun m x y w' => x = .slice none 0 0 ∧ y = .int .i64 0 ∧ w' = w) 0 ⟨rfl, rfl, rfl⟩ ?_
  rintro m x y w1 ⟨rfl, rfl, rfl⟩ J hJ _j
  simp only [stp, Nat.reduceAdd, Int.reduceLT, Int.reduceLE, Int.reduceEq, Int.reduceNe, ne_eq, bne_self_eq_false, beq_self_eq_true, stm, c, Option.isSome_some, Option.getD_some]
  exact hq
theorem markedRevokes0 (hq : Q (.bool true) w) : callS Tryz.prog 157 #[.slice none 0 0] Q w := by
  refine ref157 ?_
  unfold S157
  refine lp1 (fun m x w' => x = .int .i64 0 ∧ w' = w) 0 ⟨rfl, rfl⟩ ?_
  rintro m x w1 ⟨rfl, rfl⟩ J hJ _j
  simp only [stp, Nat.reduceAdd, Int.reduceLT, Int.reduceLE, Int.reduceEq, Int.reduceNe, ne_eq, bne_self_eq_false, beq_self_eq_true, stm]
  exact hq
theorem stillEntries0 (c : cel w b 22 = some (.slice none 0 0)) (hq : Q (.bool true) w) : callS Tryz.prog 113 #[.pointer (some ⟨b, 0, none⟩)] Q w := by
  refine ref113 ?_
  unfold S113
  refine lp1 (fun m x w' => x = .int .i64 0 ∧ w' = w) 0 ⟨rfl, rfl⟩ ?_
  rintro m x w1 ⟨rfl, rfl⟩ J hJ _j
  simp only [stp, Nat.reduceAdd, Int.reduceLT, Int.reduceLE, Int.reduceEq, Int.reduceNe, ne_eq, bne_self_eq_false, beq_self_eq_true, stm, c, Option.isSome_some, Option.getD_some]
  exact hq
theorem putEntries0 (c : cel w b 22 = some (.slice none 0 0)) (hq : Q (.tuple #[]) w) : callS Tryz.prog 130 #[.pointer (some ⟨b, 0, none⟩)] Q w := by
  refine ref130 ?_
  unfold S130
  refine lp1 (fun m x w' => x = .int .i64 0 ∧ w' = w) 0 ⟨rfl, rfl⟩ ?_
  rintro m x w1 ⟨rfl, rfl⟩ J hJ _j
  simp only [stp, Nat.reduceAdd, Int.reduceLT, Int.reduceLE, Int.reduceEq, Int.reduceNe, ne_eq, bne_self_eq_false, beq_self_eq_true, stm, c, Option.isSome_some, Option.getD_some]
  exact hq
theorem growEntries0 (c : cel w b 22 = some (.slice none 0 0)) (hq : Q (.slice none 0 0) w) : callS Tryz.prog 143 #[.pointer (some ⟨b, 0, none⟩)] Q w := by
  refine ref143 ?_
  unfold S143
  refine lp2 (fun m x y w' => x = .slice none 0 0 ∧ y = .int .i64 0 ∧ w' = w) 0 ⟨rfl, rfl, rfl⟩ ?_
  rintro m x y w1 ⟨rfl, rfl, rfl⟩ J hJ _j
  simp only [stp, Nat.reduceAdd, Int.reduceLT, Int.reduceLE, Int.reduceEq, Int.reduceNe, ne_eq, bne_self_eq_false, beq_self_eq_true, stm, c, Option.isSome_some, Option.getD_some]
  exact hq
theorem markedEntries0 (hq : Q (.bool true) w) : callS Tryz.prog 158 #[.slice none 0 0] Q w := by
  refine ref158 ?_
  unfold S158
  refine lp1 (fun m x w' => x = .int .i64 0 ∧ w' = w) 0 ⟨rfl, rfl⟩ ?_
  rintro m x w1 ⟨rfl, rfl⟩ J hJ _j
  simp only [stp, Nat.reduceAdd, Int.reduceLT, Int.reduceLE, Int.reduceEq, Int.reduceNe, ne_eq, bne_self_eq_false, beq_self_eq_true, stm]
  exact hq
theorem stillParts0 (c : cel w b 24 = some (.slice none 0 0)) (hq : Q (.bool true) w) : callS Tryz.prog 114 #[.pointer (some ⟨b, 0, none⟩)] Q w := by
  refine ref114 ?_
  unfold S114
  refine lp1 (fun m x w' => x = .int .i64 0 ∧ w' = w) 0 ⟨rfl, rfl⟩ ?_
  rintro m x w1 ⟨rfl, rfl⟩ J hJ _j
  simp only [stp, Nat.reduceAdd, Int.reduceLT, Int.reduceLE, Int.reduceEq, Int.reduceNe, ne_eq, bne_self_eq_false, beq_self_eq_true, stm, c, Option.isSome_some, Option.getD_some]
  exact hq
theorem putParts0 (c : cel w b 24 = some (.slice none 0 0)) (hq : Q (.tuple #[]) w) : callS Tryz.prog 131 #[.pointer (some ⟨b, 0, none⟩)] Q w := by
  refine ref131 ?_
  unfold S131
  refine lp1 (fun m x w' => x = .int .i64 0 ∧ w' = w) 0 ⟨rfl, rfl⟩ ?_
  rintro m x w1 ⟨rfl, rfl⟩ J hJ _j
  simp only [stp, Nat.reduceAdd, Int.reduceLT, Int.reduceLE, Int.reduceEq, Int.reduceNe, ne_eq, bne_self_eq_false, beq_self_eq_true, stm, c, Option.isSome_some, Option.getD_some]
  exact hq
theorem growParts0 (c : cel w b 24 = some (.slice none 0 0)) (hq : Q (.slice none 0 0) w) : callS Tryz.prog 144 #[.pointer (some ⟨b, 0, none⟩)] Q w := by
  refine ref144 ?_
  unfold S144
  refine lp2 (fun m x y w' => x = .slice none 0 0 ∧ y = .int .i64 0 ∧ w' = w) 0 ⟨rfl, rfl, rfl⟩ ?_
  rintro m x y w1 ⟨rfl, rfl, rfl⟩ J hJ _j
  simp only [stp, Nat.reduceAdd, Int.reduceLT, Int.reduceLE, Int.reduceEq, Int.reduceNe, ne_eq, bne_self_eq_false, beq_self_eq_true, stm, c, Option.isSome_some, Option.getD_some]
  exact hq
theorem markedParts0 (hq : Q (.bool true) w) : callS Tryz.prog 159 #[.slice none 0 0] Q w := by
  refine ref159 ?_
  unfold S159
  refine lp1 (fun m x w' => x = .int .i64 0 ∧ w' = w) 0 ⟨rfl, rfl⟩ ?_
  rintro m x w1 ⟨rfl, rfl⟩ J hJ _j
  simp only [stp, Nat.reduceAdd, Int.reduceLT, Int.reduceLE, Int.reduceEq, Int.reduceNe, ne_eq, bne_self_eq_false, beq_self_eq_true, stm]
  exact hq
theorem stillMsgs0 (c : cel w b 26 = some (.slice none 0 0)) (hq : Q (.bool true) w) : callS Tryz.prog 115 #[.pointer (some ⟨b, 0, none⟩)] Q w := by
  refine ref115 ?_
  unfold S115
  refine lp1 (fun m x w' => x = .int .i64 0 ∧ w' = w) 0 ⟨rfl, rfl⟩ ?_
  rintro m x w1 ⟨rfl, rfl⟩ J hJ _j
  simp only [stp, Nat.reduceAdd, Int.reduceLT, Int.reduceLE, Int.reduceEq, Int.reduceNe, ne_eq, bne_self_eq_false, beq_self_eq_true, stm, c, Option.isSome_some, Option.getD_some]
  exact hq
theorem putMsgs0 (c : cel w b 26 = some (.slice none 0 0)) (hq : Q (.tuple #[]) w) : callS Tryz.prog 118 #[.pointer (some ⟨b, 0, none⟩)] Q w := by
  refine ref118 ?_
  unfold S118
  refine lp1 (fun m x w' => x = .int .i64 0 ∧ w' = w) 0 ⟨rfl, rfl⟩ ?_
  rintro m x w1 ⟨rfl, rfl⟩ J hJ _j
  simp only [stp, Nat.reduceAdd, Int.reduceLT, Int.reduceLE, Int.reduceEq, Int.reduceNe, ne_eq, bne_self_eq_false, beq_self_eq_true, stm, c, Option.isSome_some, Option.getD_some]
  exact hq
theorem growMsgs0 (c : cel w b 26 = some (.slice none 0 0)) (hq : Q (.slice none 0 0) w) : callS Tryz.prog 145 #[.pointer (some ⟨b, 0, none⟩)] Q w := by
  refine ref145 ?_
  unfold S145
  refine lp2 (fun m x y w' => x = .slice none 0 0 ∧ y = .int .i64 0 ∧ w' = w) 0 ⟨rfl, rfl, rfl⟩ ?_
  rintro m x y w1 ⟨rfl, rfl, rfl⟩ J hJ _j
  simp only [stp, Nat.reduceAdd, Int.reduceLT, Int.reduceLE, Int.reduceEq, Int.reduceNe, ne_eq, bne_self_eq_false, beq_self_eq_true, stm, c, Option.isSome_some, Option.getD_some]
  exact hq
theorem markedMsgs0 (hq : Q (.bool true) w) : callS Tryz.prog 160 #[.slice none 0 0] Q w := by
  refine ref160 ?_
  unfold S160
  refine lp1 (fun m x w' => x = .int .i64 0 ∧ w' = w) 0 ⟨rfl, rfl⟩ ?_
  rintro m x w1 ⟨rfl, rfl⟩ J hJ _j
  simp only [stp, Nat.reduceAdd, Int.reduceLT, Int.reduceLE, Int.reduceEq, Int.reduceNe, ne_eq, bne_self_eq_false, beq_self_eq_true, stm]
  exact hq
theorem stillSteps0 (c : cel w b 28 = some (.slice none 0 0)) (hq : Q (.bool true) w) : callS Tryz.prog 116 #[.pointer (some ⟨b, 0, none⟩)] Q w := by
  refine ref116 ?_
  unfold S116
  refine lp1 (fun m x w' => x = .int .i64 0 ∧ w' = w) 0 ⟨rfl, rfl⟩ ?_
  rintro m x w1 ⟨rfl, rfl⟩ J hJ _j
  simp only [stp, Nat.reduceAdd, Int.reduceLT, Int.reduceLE, Int.reduceEq, Int.reduceNe, ne_eq, bne_self_eq_false, beq_self_eq_true, stm, c, Option.isSome_some, Option.getD_some]
  exact hq
theorem putSteps0 (c : cel w b 28 = some (.slice none 0 0)) (hq : Q (.tuple #[]) w) : callS Tryz.prog 119 #[.pointer (some ⟨b, 0, none⟩)] Q w := by
  refine ref119 ?_
  unfold S119
  refine lp1 (fun m x w' => x = .int .i64 0 ∧ w' = w) 0 ⟨rfl, rfl⟩ ?_
  rintro m x w1 ⟨rfl, rfl⟩ J hJ _j
  simp only [stp, Nat.reduceAdd, Int.reduceLT, Int.reduceLE, Int.reduceEq, Int.reduceNe, ne_eq, bne_self_eq_false, beq_self_eq_true, stm, c, Option.isSome_some, Option.getD_some]
  exact hq
theorem growSteps0 (c : cel w b 28 = some (.slice none 0 0)) (hq : Q (.slice none 0 0) w) : callS Tryz.prog 146 #[.pointer (some ⟨b, 0, none⟩)] Q w := by
  refine ref146 ?_
  unfold S146
  refine lp2 (fun m x y w' => x = .slice none 0 0 ∧ y = .int .i64 0 ∧ w' = w) 0 ⟨rfl, rfl, rfl⟩ ?_
  rintro m x y w1 ⟨rfl, rfl, rfl⟩ J hJ _j
  simp only [stp, Nat.reduceAdd, Int.reduceLT, Int.reduceLE, Int.reduceEq, Int.reduceNe, ne_eq, bne_self_eq_false, beq_self_eq_true, stm, c, Option.isSome_some, Option.getD_some]
  exact hq
theorem markedSteps0 (hq : Q (.bool true) w) : callS Tryz.prog 161 #[.slice none 0 0] Q w := by
  refine ref161 ?_
  unfold S161
  refine lp1 (fun m x w' => x = .int .i64 0 ∧ w' = w) 0 ⟨rfl, rfl⟩ ?_
  rintro m x w1 ⟨rfl, rfl⟩ J hJ _j
  simp only [stp, Nat.reduceAdd, Int.reduceLT, Int.reduceLE, Int.reduceEq, Int.reduceNe, ne_eq, bne_self_eq_false, beq_self_eq_true, stm]
  exact hq
end
end Go.Proofs.YtndjohbbaplekaaGreatH.Bk
