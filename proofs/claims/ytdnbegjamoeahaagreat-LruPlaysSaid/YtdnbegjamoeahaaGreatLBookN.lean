/- The book of lists: kinds of which it has none. Conditions: as each says. -/
import Derived.Test.YtdnbegjamoeahaaGreatLT
import Derived.Test.YtdnbegjamoeahaaGreatLShL
import Derived.Test.YtdnbegjamoeahaaGreatLBook
set_option linter.unusedSimpArgs false
set_option linter.unusedVariables false
namespace Go.Proofs.YtdnbegjamoeahaaGreatL.Bk
open Go.Sh Go.Proofs.YtdnbegjamoeahaaGreatL
set_option maxRecDepth 100000
section
variable {w : World} {Q : Value → World → Prop} {b : Nat}
theorem stillTexts0 (c : cel w b 0 = some (.slice none 0 0)) (hq : Q (.bool true) w) : callS Tryz.prog 121 #[.pointer (some ⟨b, 0, none⟩)] Q w := by
  refine ref121 ?_
  unfold S121
  refine lp1 (fun m x w' => x = .int .i64 0 ∧ w' = w) 0 ⟨rfl, rfl⟩ ?_
  rintro m x w1 ⟨rfl, rfl⟩ J hJ _j
  simp only [stp, Nat.reduceAdd, Int.reduceLT, Int.reduceLE, Int.reduceEq, Int.reduceNe, ne_eq, bne_self_eq_false, beq_self_eq_true, stm, c, Option.isSome_some, Option.getD_some]
  exact hq
theorem putTexts0 (c : cel w b 0 = some (.slice none 0 0)) (hq : Q (.tuple #[]) w) : callS Tryz.prog 139 #[.pointer (some ⟨b, 0, none⟩)] Q w := by
  refine ref139 ?_
  unfold S139
  refine lp1 (fun m x w' => x = .int .i64 0 ∧ w' = w) 0 ⟨rfl, rfl⟩ ?_
  rintro m x w1 ⟨rfl, rfl⟩ J hJ _j
  simp only [stp, Nat.reduceAdd, Int.reduceLT, Int.reduceLE, Int.reduceEq, Int.reduceNe, ne_eq, bne_self_eq_false, beq_self_eq_true, stm, c, Option.isSome_some, Option.getD_some]
  exact hq
theorem growTexts0 (c : cel w b 0 = some (.slice none 0 0)) (hq : Q (.slice none 0 0) w) : callS Tryz.prog 151 #[.pointer (some ⟨b, 0, none⟩)] Q w := by
  refine ref151 ?_
  unfold S151
  refine lp2 (fun m x y w' => x = .slice none 0 0 ∧ y = .int .i64 0 ∧ w' = w) 0 ⟨rfl, rfl, rfl⟩ ?_
  rintro m x y w1 ⟨rfl, rfl, rfl⟩ J hJ _j
  simp only [stp, Nat.reduceAdd, Int.reduceLT, Int.reduceLE, Int.reduceEq, Int.reduceNe, ne_eq, bne_self_eq_false, beq_self_eq_true, stm, c, Option.isSome_some, Option.getD_some]
  exact hq
theorem markedTexts0 (hq : Q (.bool true) w) : callS Tryz.prog 166 #[.slice none 0 0] Q w := by
  refine ref166 ?_
  unfold S166
  refine lp1 (fun m x w' => x = .int .i64 0 ∧ w' = w) 0 ⟨rfl, rfl⟩ ?_
  rintro m x w1 ⟨rfl, rfl⟩ J hJ _j
  simp only [stp, Nat.reduceAdd, Int.reduceLT, Int.reduceLE, Int.reduceEq, Int.reduceNe, ne_eq, bne_self_eq_false, beq_self_eq_true, stm]
  exact hq
theorem stillNums0 (c : cel w b 4 = some (.slice none 0 0)) (hq : Q (.bool true) w) : callS Tryz.prog 123 #[.pointer (some ⟨b, 0, none⟩)] Q w := by
  refine ref123 ?_
  unfold S123
  refine lp1 (fun m x w' => x = .int .i64 0 ∧ w' = w) 0 ⟨rfl, rfl⟩ ?_
  rintro m x w1 ⟨rfl, rfl⟩ J hJ _j
  simp only [stp, Nat.reduceAdd, Int.reduceLT, Int.reduceLE, Int.reduceEq, Int.reduceNe, ne_eq, bne_self_eq_false, beq_self_eq_true, stm, c, Option.isSome_some, Option.getD_some]
  exact hq
theorem putNums0 (c : cel w b 4 = some (.slice none 0 0)) (hq : Q (.tuple #[]) w) : callS Tryz.prog 141 #[.pointer (some ⟨b, 0, none⟩)] Q w := by
  refine ref141 ?_
  unfold S141
  refine lp1 (fun m x w' => x = .int .i64 0 ∧ w' = w) 0 ⟨rfl, rfl⟩ ?_
  rintro m x w1 ⟨rfl, rfl⟩ J hJ _j
  simp only [stp, Nat.reduceAdd, Int.reduceLT, Int.reduceLE, Int.reduceEq, Int.reduceNe, ne_eq, bne_self_eq_false, beq_self_eq_true, stm, c, Option.isSome_some, Option.getD_some]
  exact hq
theorem growNums0 (c : cel w b 4 = some (.slice none 0 0)) (hq : Q (.slice none 0 0) w) : callS Tryz.prog 153 #[.pointer (some ⟨b, 0, none⟩)] Q w := by
  refine ref153 ?_
  unfold S153
  refine lp2 (fun m x y w' => x = .slice none 0 0 ∧ y = .int .i64 0 ∧ w' = w) 0 ⟨rfl, rfl, rfl⟩ ?_
  rintro m x y w1 ⟨rfl, rfl, rfl⟩ J hJ _j
  simp only [stp, Nat.reduceAdd, Int.reduceLT, Int.reduceLE, Int.reduceEq, Int.reduceNe, ne_eq, bne_self_eq_false, beq_self_eq_true, stm, c, Option.isSome_some, Option.getD_some]
  exact hq
theorem markedNums0 (hq : Q (.bool true) w) : callS Tryz.prog 168 #[.slice none 0 0] Q w := by
  refine ref168 ?_
  unfold S168
  refine lp1 (fun m x w' => x = .int .i64 0 ∧ w' = w) 0 ⟨rfl, rfl⟩ ?_
  rintro m x w1 ⟨rfl, rfl⟩ J hJ _j
  simp only [stp, Nat.reduceAdd, Int.reduceLT, Int.reduceLE, Int.reduceEq, Int.reduceNe, ne_eq, bne_self_eq_false, beq_self_eq_true, stm]
  exact hq
theorem stillSpans0 (c : cel w b 6 = some (.slice none 0 0)) (hq : Q (.bool true) w) : callS Tryz.prog 124 #[.pointer (some ⟨b, 0, none⟩)] Q w := by
  refine ref124 ?_
  unfold S124
  refine lp1 (fun m x w' => x = .int .i64 0 ∧ w' = w) 0 ⟨rfl, rfl⟩ ?_
  rintro m x w1 ⟨rfl, rfl⟩ J hJ _j
  simp only [stp, Nat.reduceAdd, Int.reduceLT, Int.reduceLE, Int.reduceEq, Int.reduceNe, ne_eq, bne_self_eq_false, beq_self_eq_true, stm, c, Option.isSome_some, Option.getD_some]
  exact hq
theorem putSpans0 (c : cel w b 6 = some (.slice none 0 0)) (hq : Q (.tuple #[]) w) : callS Tryz.prog 142 #[.pointer (some ⟨b, 0, none⟩)] Q w := by
  refine ref142 ?_
  unfold S142
  refine lp1 (fun m x w' => x = .int .i64 0 ∧ w' = w) 0 ⟨rfl, rfl⟩ ?_
  rintro m x w1 ⟨rfl, rfl⟩ J hJ _j
  simp only [stp, Nat.reduceAdd, Int.reduceLT, Int.reduceLE, Int.reduceEq, Int.reduceNe, ne_eq, bne_self_eq_false, beq_self_eq_true, stm, c, Option.isSome_some, Option.getD_some]
  exact hq
theorem growSpans0 (c : cel w b 6 = some (.slice none 0 0)) (hq : Q (.slice none 0 0) w) : callS Tryz.prog 154 #[.pointer (some ⟨b, 0, none⟩)] Q w := by
  refine ref154 ?_
  unfold S154
  refine lp2 (fun m x y w' => x = .slice none 0 0 ∧ y = .int .i64 0 ∧ w' = w) 0 ⟨rfl, rfl, rfl⟩ ?_
  rintro m x y w1 ⟨rfl, rfl, rfl⟩ J hJ _j
  simp only [stp, Nat.reduceAdd, Int.reduceLT, Int.reduceLE, Int.reduceEq, Int.reduceNe, ne_eq, bne_self_eq_false, beq_self_eq_true, stm, c, Option.isSome_some, Option.getD_some]
  exact hq
theorem markedSpans0 (hq : Q (.bool true) w) : callS Tryz.prog 169 #[.slice none 0 0] Q w := by
  refine ref169 ?_
  unfold S169
  refine lp1 (fun m x w' => x = .int .i64 0 ∧ w' = w) 0 ⟨rfl, rfl⟩ ?_
  rintro m x w1 ⟨rfl, rfl⟩ J hJ _j
  simp only [stp, Nat.reduceAdd, Int.reduceLT, Int.reduceLE, Int.reduceEq, Int.reduceNe, ne_eq, bne_self_eq_false, beq_self_eq_true, stm]
  exact hq
theorem stillLocks0 (c : cel w b 8 = some (.slice none 0 0)) (hq : Q (.bool true) w) : callS Tryz.prog 125 #[.pointer (some ⟨b, 0, none⟩)] Q w := by
  refine ref125 ?_
  unfold S125
  refine lp1 (fun m x w' => x = .int .i64 0 ∧ w' = w) 0 ⟨rfl, rfl⟩ ?_
  rintro m x w1 ⟨rfl, rfl⟩ J hJ _j
  simp only [stp, Nat.reduceAdd, Int.reduceLT, Int.reduceLE, Int.reduceEq, Int.reduceNe, ne_eq, bne_self_eq_false, beq_self_eq_true, stm, c, Option.isSome_some, Option.getD_some]
  exact hq
theorem putLocks0 (c : cel w b 8 = some (.slice none 0 0)) (hq : Q (.tuple #[]) w) : callS Tryz.prog 143 #[.pointer (some ⟨b, 0, none⟩)] Q w := by
  refine ref143 ?_
  unfold S143
  refine lp1 (fun m x w' => x = .int .i64 0 ∧ w' = w) 0 ⟨rfl, rfl⟩ ?_
  rintro m x w1 ⟨rfl, rfl⟩ J hJ _j
  simp only [stp, Nat.reduceAdd, Int.reduceLT, Int.reduceLE, Int.reduceEq, Int.reduceNe, ne_eq, bne_self_eq_false, beq_self_eq_true, stm, c, Option.isSome_some, Option.getD_some]
  exact hq
theorem growLocks0 (c : cel w b 8 = some (.slice none 0 0)) (hq : Q (.slice none 0 0) w) : callS Tryz.prog 155 #[.pointer (some ⟨b, 0, none⟩)] Q w := by
  refine ref155 ?_
  unfold S155
  refine lp2 (fun m x y w' => x = .slice none 0 0 ∧ y = .int .i64 0 ∧ w' = w) 0 ⟨rfl, rfl, rfl⟩ ?_
  rintro m x y w1 ⟨rfl, rfl, rfl⟩ J hJ _j
  simp only [stp, Nat.reduceAdd, Int.reduceLT, Int.reduceLE, Int.reduceEq, Int.reduceNe, ne_eq, bne_self_eq_false, beq_self_eq_true, stm, c, Option.isSome_some, Option.getD_some]
  exact hq
theorem markedLocks0 (hq : Q (.bool true) w) : callS Tryz.prog 170 #[.slice none 0 0] Q w := by
  refine ref170 ?_
  unfold S170
  refine lp1 (fun m x w' => x = .int .i64 0 ∧ w' = w) 0 ⟨rfl, rfl⟩ ?_
  rintro m x w1 ⟨rfl, rfl⟩ J hJ _j
  simp only [stp, Nat.reduceAdd, Int.reduceLT, Int.reduceLE, Int.reduceEq, Int.reduceNe, ne_eq, bne_self_eq_false, beq_self_eq_true, stm]
  exact hq
theorem stillImages0 (c : cel w b 10 = some (.slice none 0 0)) (hq : Q (.bool true) w) : callS Tryz.prog 126 #[.pointer (some ⟨b, 0, none⟩)] Q w := by
  refine ref126 ?_
  unfold S126
  refine lp1 (fun m x w' => x = .int .i64 0 ∧ w' = w) 0 ⟨rfl, rfl⟩ ?_
  rintro m x w1 ⟨rfl, rfl⟩ J hJ _j
  simp only [stp, Nat.reduceAdd, Int.reduceLT, Int.reduceLE, Int.reduceEq, Int.reduceNe, ne_eq, bne_self_eq_false, beq_self_eq_true, stm, c, Option.isSome_some, Option.getD_some]
  exact hq
theorem putImages0 (c : cel w b 10 = some (.slice none 0 0)) (hq : Q (.tuple #[]) w) : callS Tryz.prog 144 #[.pointer (some ⟨b, 0, none⟩)] Q w := by
  refine ref144 ?_
  unfold S144
  refine lp1 (fun m x w' => x = .int .i64 0 ∧ w' = w) 0 ⟨rfl, rfl⟩ ?_
  rintro m x w1 ⟨rfl, rfl⟩ J hJ _j
  simp only [stp, Nat.reduceAdd, Int.reduceLT, Int.reduceLE, Int.reduceEq, Int.reduceNe, ne_eq, bne_self_eq_false, beq_self_eq_true, stm, c, Option.isSome_some, Option.getD_some]
  exact hq
theorem growImages0 (c : cel w b 10 = some (.slice none 0 0)) (hq : Q (.slice none 0 0) w) : callS Tryz.prog 156 #[.pointer (some ⟨b, 0, none⟩)] Q w := by
  refine ref156 ?_
  unfold S156
  refine lp2 (fun m x y w' => x = .slice none 0 0 ∧ y = .int .i64 0 ∧ w' = w) 0 ⟨rfl, rfl, rfl⟩ ?_
  rintro m x y w1 ⟨rfl, rfl, rfl⟩ J hJ _j
  simp only [stp, Nat.reduceAdd, Int.reduceLT, Int.reduceLE, Int.reduceEq, Int.reduceNe, ne_eq, bne_self_eq_false, beq_self_eq_true, stm, c, Option.isSome_some, Option.getD_some]
  exact hq
theorem markedImages0 (hq : Q (.bool true) w) : callS Tryz.prog 171 #[.slice none 0 0] Q w := by
  refine ref171 ?_
  unfold S171
  refine lp1 (fun m x w' => x = .int .i64 0 ∧ w' = w) 0 ⟨rfl, rfl⟩ ?_
  rintro m x w1 ⟨rfl, rfl⟩ J hJ _j
  simp only [stp, Nat.reduceAdd, Int.reduceLT, Int.reduceLE, Int.reduceEq, Int.reduceNe, ne_eq, bne_self_eq_false, beq_self_eq_true, stm]
  exact hq
theorem stillRecords0 (c : cel w b 12 = some (.slice none 0 0)) (hq : Q (.bool true) w) : callS Tryz.prog 127 #[.pointer (some ⟨b, 0, none⟩)] Q w := by
  refine ref127 ?_
  unfold S127
  refine lp1 (fun m x w' => x = .int .i64 0 ∧ w' = w) 0 ⟨rfl, rfl⟩ ?_
  rintro m x w1 ⟨rfl, rfl⟩ J hJ _j
  simp only [stp, Nat.reduceAdd, Int.reduceLT, Int.reduceLE, Int.reduceEq, Int.reduceNe, ne_eq, bne_self_eq_false, beq_self_eq_true, stm, c, Option.isSome_some, Option.getD_some]
  exact hq
theorem putRecords0 (c : cel w b 12 = some (.slice none 0 0)) (hq : Q (.tuple #[]) w) : callS Tryz.prog 136 #[.pointer (some ⟨b, 0, none⟩)] Q w := by
  refine ref136 ?_
  unfold S136
  refine lp1 (fun m x w' => x = .int .i64 0 ∧ w' = w) 0 ⟨rfl, rfl⟩ ?_
  rintro m x w1 ⟨rfl, rfl⟩ J hJ _j
  simp only [stp, Nat.reduceAdd, Int.reduceLT, Int.reduceLE, Int.reduceEq, Int.reduceNe, ne_eq, bne_self_eq_false, beq_self_eq_true, stm, c, Option.isSome_some, Option.getD_some]
  exact hq
theorem growRecords0 (c : cel w b 12 = some (.slice none 0 0)) (hq : Q (.slice none 0 0) w) : callS Tryz.prog 157 #[.pointer (some ⟨b, 0, none⟩)] Q w := by
  refine ref157 ?_
  unfold S157
  refine lp2 (fun m x y w' => x = .slice none 0 0 ∧ y = .int .i64 0 ∧ w' = w) 0 ⟨rfl, rfl, rfl⟩ ?_
  rintro m x y w1 ⟨rfl, rfl, rfl⟩ J hJ _j
  simp only [stp, Nat.reduceAdd, Int.reduceLT, Int.reduceLE, Int.reduceEq, Int.reduceNe, ne_eq, bne_self_eq_false, beq_self_eq_true, stm, c, Option.isSome_some, Option.getD_some]
  exact hq
theorem markedRecords0 (hq : Q (.bool true) w) : callS Tryz.prog 172 #[.slice none 0 0] Q w := by
  refine ref172 ?_
  unfold S172
  refine lp1 (fun m x w' => x = .int .i64 0 ∧ w' = w) 0 ⟨rfl, rfl⟩ ?_
  rintro m x w1 ⟨rfl, rfl⟩ J hJ _j
  simp only [stp, Nat.reduceAdd, Int.reduceLT, Int.reduceLE, Int.reduceEq, Int.reduceNe, ne_eq, bne_self_eq_false, beq_self_eq_true, stm]
  exact hq
theorem stillPackets0 (c : cel w b 14 = some (.slice none 0 0)) (hq : Q (.bool true) w) : callS Tryz.prog 128 #[.pointer (some ⟨b, 0, none⟩)] Q w := by
  refine ref128 ?_
  unfold S128
  refine lp1 (fun m x w' => x = .int .i64 0 ∧ w' = w) 0 ⟨rfl, rfl⟩ ?_
  rintro m x w1 ⟨rfl, rfl⟩ J hJ _j
  simp only [stp, Nat.reduceAdd, Int.reduceLT, Int.reduceLE, Int.reduceEq, Int.reduceNe, ne_eq, bne_self_eq_false, beq_self_eq_true, stm, c, Option.isSome_some, Option.getD_some]
  exact hq
theorem putPackets0 (c : cel w b 14 = some (.slice none 0 0)) (hq : Q (.tuple #[]) w) : callS Tryz.prog 145 #[.pointer (some ⟨b, 0, none⟩)] Q w := by
  refine ref145 ?_
  unfold S145
  refine lp1 (fun m x w' => x = .int .i64 0 ∧ w' = w) 0 ⟨rfl, rfl⟩ ?_
  rintro m x w1 ⟨rfl, rfl⟩ J hJ _j
  simp only [stp, Nat.reduceAdd, Int.reduceLT, Int.reduceLE, Int.reduceEq, Int.reduceNe, ne_eq, bne_self_eq_false, beq_self_eq_true, stm, c, Option.isSome_some, Option.getD_some]
  exact hq
theorem growPackets0 (c : cel w b 14 = some (.slice none 0 0)) (hq : Q (.slice none 0 0) w) : callS Tryz.prog 158 #[.pointer (some ⟨b, 0, none⟩)] Q w := by
  refine ref158 ?_
  unfold S158
  refine lp2 (fun m x y w' => x = .slice none 0 0 ∧ y = .int .i64 0 ∧ w' = w) 0 ⟨rfl, rfl, rfl⟩ ?_
  rintro m x y w1 ⟨rfl, rfl, rfl⟩ J hJ _j
  simp only [stp, Nat.reduceAdd, Int.reduceLT, Int.reduceLE, Int.reduceEq, Int.reduceNe, ne_eq, bne_self_eq_false, beq_self_eq_true, stm, c, Option.isSome_some, Option.getD_some]
  exact hq
theorem markedPackets0 (hq : Q (.bool true) w) : callS Tryz.prog 173 #[.slice none 0 0] Q w := by
  refine ref173 ?_
  unfold S173
  refine lp1 (fun m x w' => x = .int .i64 0 ∧ w' = w) 0 ⟨rfl, rfl⟩ ?_
  rintro m x w1 ⟨rfl, rfl⟩ J hJ _j
  simp only [stp, Nat.reduceAdd, Int.reduceLT, Int.reduceLE, Int.reduceEq, Int.reduceNe, ne_eq, bne_self_eq_false, beq_self_eq_true, stm]
  exact hq
theorem stillFrames0 (c : cel w b 16 = some (.slice none 0 0)) (hq : Q (.bool true) w) : callS Tryz.prog 129 #[.pointer (some ⟨b, 0, none⟩)] Q w := by
  refine ref129 ?_
  unfold S129
  refine lp1 (fun m x w' => x = .int .i64 0 ∧ w' = w) 0 ⟨rfl, rfl⟩ ?_
  rintro m x w1 ⟨rfl, rfl⟩ J hJ _j
  simp only [stp, Nat.reduceAdd, Int.reduceLT, Int.reduceLE, Int.reduceEq, Int.reduceNe, ne_eq, bne_self_eq_false, beq_self_eq_true, stm, c, Option.isSome_some, Option.getD_some]
  exact hq
theorem putFrames0 (c : cel w b 16 = some (.slice none 0 0)) (hq : Q (.tuple #[]) w) : callS Tryz.prog 146 #[.pointer (some ⟨b, 0, none⟩)] Q w := by
  refine ref146 ?_
  unfold S146
  refine lp1 (fun m x w' => x = .int .i64 0 ∧ w' = w) 0 ⟨rfl, rfl⟩ ?_
  rintro m x w1 ⟨rfl, rfl⟩ J hJ _j
  simp only [stp, Nat.reduceAdd, Int.reduceLT, Int.reduceLE, Int.reduceEq, Int.reduceNe, ne_eq, bne_self_eq_false, beq_self_eq_true, stm, c, Option.isSome_some, Option.getD_some]
  exact hq
theorem growFrames0 (c : cel w b 16 = some (.slice none 0 0)) (hq : Q (.slice none 0 0) w) : callS Tryz.prog 159 #[.pointer (some ⟨b, 0, none⟩)] Q w := by
  refine ref159 ?_
  unfold S159
  refine lp2 (fun m x y w' => x = .slice none 0 0 ∧ y = .int .i64 0 ∧ w' = w) 0 ⟨rfl, rfl, rfl⟩ ?_
  rintro m x y w1 ⟨rfl, rfl, rfl⟩ J hJ _j
  simp only [stp, Nat.reduceAdd, Int.reduceLT, Int.reduceLE, Int.reduceEq, Int.reduceNe, ne_eq, bne_self_eq_false, beq_self_eq_true, stm, c, Option.isSome_some, Option.getD_some]
  exact hq
theorem markedFrames0 (hq : Q (.bool true) w) : callS Tryz.prog 174 #[.slice none 0 0] Q w := by
  refine ref174 ?_
  unfold S174
  refine lp1 (fun m x w' => x = .int .i64 0 ∧ w' = w) 0 ⟨rfl, rfl⟩ ?_
  rintro m x w1 ⟨rfl, rfl⟩ J hJ _j
  simp only [stp, Nat.reduceAdd, Int.reduceLT, Int.reduceLE, Int.reduceEq, Int.reduceNe, ne_eq, bne_self_eq_false, beq_self_eq_true, stm]
  exact hq
theorem stillWaits0 (c : cel w b 18 = some (.slice none 0 0)) (hq : Q (.bool true) w) : callS Tryz.prog 130 #[.pointer (some ⟨b, 0, none⟩)] Q w := by
  refine ref130 ?_
  unfold S130
  refine lp1 (fun m x w' => x = .int .i64 0 ∧ w' = w) 0 ⟨rfl, rfl⟩ ?_
  rintro m x w1 ⟨rfl, rfl⟩ J hJ _j
  simp only [stp, Nat.reduceAdd, Int.reduceLT, Int.reduceLE, Int.reduceEq, Int.reduceNe, ne_eq, bne_self_eq_false, beq_self_eq_true, stm, c, Option.isSome_some, Option.getD_some]
  exact hq
theorem putWaits0 (c : cel w b 18 = some (.slice none 0 0)) (hq : Q (.tuple #[]) w) : callS Tryz.prog 147 #[.pointer (some ⟨b, 0, none⟩)] Q w := by
  refine ref147 ?_
  unfold S147
  refine lp1 (fun m x w' => x = .int .i64 0 ∧ w' = w) 0 ⟨rfl, rfl⟩ ?_
  rintro m x w1 ⟨rfl, rfl⟩ J hJ _j
  simp only [stp, Nat.reduceAdd, Int.reduceLT, Int.reduceLE, Int.reduceEq, Int.reduceNe, ne_eq, bne_self_eq_false, beq_self_eq_true, stm, c, Option.isSome_some, Option.getD_some]
  exact hq
theorem growWaits0 (c : cel w b 18 = some (.slice none 0 0)) (hq : Q (.slice none 0 0) w) : callS Tryz.prog 160 #[.pointer (some ⟨b, 0, none⟩)] Q w := by
  refine ref160 ?_
  unfold S160
  refine lp2 (fun m x y w' => x = .slice none 0 0 ∧ y = .int .i64 0 ∧ w' = w) 0 ⟨rfl, rfl, rfl⟩ ?_
  rintro m x y w1 ⟨rfl, rfl, rfl⟩ J hJ _j
  simp only [stp, Nat.reduceAdd, Int.reduceLT, Int.reduceLE, Int.reduceEq, Int.reduceNe, ne_eq, bne_self_eq_false, beq_self_eq_true, stm, c, Option.isSome_some, Option.getD_some]
  exact hq
theorem markedWaits0 (hq : Q (.bool true) w) : callS Tryz.prog 175 #[.slice none 0 0] Q w := by
  refine ref175 ?_
  unfold S175
  refine lp1 (fun m x w' => x = .int .i64 0 ∧ w' = w) 0 ⟨rfl, rfl⟩ ?_
  rintro m x w1 ⟨rfl, rfl⟩ J hJ _j
  simp only [stp, Nat.reduceAdd, Int.reduceLT, Int.reduceLE, Int.reduceEq, Int.reduceNe, ne_eq, bne_self_eq_false, beq_self_eq_true, stm]
  exact hq
theorem stillRevokes0 (c : cel w b 20 = some (.slice none 0 0)) (hq : Q (.bool true) w) : callS Tryz.prog 131 #[.pointer (some ⟨b, 0, none⟩)] Q w := by
  refine ref131 ?_
  unfold S131
  refine lp1 (fun m x w' => x = .int .i64 0 ∧ w' = w) 0 ⟨rfl, rfl⟩ ?_
  rintro m x w1 ⟨rfl, rfl⟩ J hJ _j
  simp only [stp, Nat.reduceAdd, Int.reduceLT, Int.reduceLE, Int.reduceEq, Int.reduceNe, ne_eq, bne_self_eq_false, beq_self_eq_true, stm, c, Option.isSome_some, Option.getD_some]
  exact hq
theorem putRevokes0 (c : cel w b 20 = some (.slice none 0 0)) (hq : Q (.tuple #[]) w) : callS Tryz.prog 148 #[.pointer (some ⟨b, 0, none⟩)] Q w := by
  refine ref148 ?_
  unfold S148
  refine lp1 (fun m x w' => x = .int .i64 0 ∧ w' = w) 0 ⟨rfl, rfl⟩ ?_
  rintro m x w1 ⟨rfl, rfl⟩ J hJ _j
  simp only [stp, Nat.reduceAdd, Int.reduceLT, Int.reduceLE, Int.reduceEq, Int.reduceNe, ne_eq, bne_self_eq_false, beq_self_eq_true, stm, c, Option.isSome_some, Option.getD_some]
  exact hq
theorem growRevokes0 (c : cel w b 20 = some (.slice none 0 0)) (hq : Q (.slice none 0 0) w) : callS Tryz.prog 161 #[.pointer (some ⟨b, 0, none⟩)] Q w := by
  refine ref161 ?_
  unfold S161
  refine lp2 (fun m x y w' => x = .slice none 0 0 ∧ y = .int .i64 0 ∧ w' = w) 0 ⟨rfl, rfl, rfl⟩ ?_
  rintro m x y w1 ⟨rfl, rfl, rfl⟩ J hJ _j
  simp only [stp, Nat.reduceAdd, Int.reduceLT, Int.reduceLE, Int.reduceEq, Int.reduceNe, ne_eq, bne_self_eq_false, beq_self_eq_true, stm, c, Option.isSome_some, Option.getD_some]
  exact hq
theorem markedRevokes0 (hq : Q (.bool true) w) : callS Tryz.prog 176 #[.slice none 0 0] Q w := by
  refine ref176 ?_
  unfold S176
  refine lp1 (fun m x w' => x = .int .i64 0 ∧ w' = w) 0 ⟨rfl, rfl⟩ ?_
  rintro m x w1 ⟨rfl, rfl⟩ J hJ _j
  simp only [stp, Nat.reduceAdd, Int.reduceLT, Int.reduceLE, Int.reduceEq, Int.reduceNe, ne_eq, bne_self_eq_false, beq_self_eq_true, stm]
  exact hq
theorem stillEntries0 (c : cel w b 22 = some (.slice none 0 0)) (hq : Q (.bool true) w) : callS Tryz.prog 132 #[.pointer (some ⟨b, 0, none⟩)] Q w := by
  refine ref132 ?_
  unfold S132
  refine lp1 (fun m x w' => x = .int .i64 0 ∧ w' = w) 0 ⟨rfl, rfl⟩ ?_
  rintro m x w1 ⟨rfl, rfl⟩ J hJ _j
  simp only [stp, Nat.reduceAdd, Int.reduceLT, Int.reduceLE, Int.reduceEq, Int.reduceNe, ne_eq, bne_self_eq_false, beq_self_eq_true, stm, c, Option.isSome_some, Option.getD_some]
  exact hq
theorem putEntries0 (c : cel w b 22 = some (.slice none 0 0)) (hq : Q (.tuple #[]) w) : callS Tryz.prog 149 #[.pointer (some ⟨b, 0, none⟩)] Q w := by
  refine ref149 ?_
  unfold S149
  refine lp1 (fun m x w' => x = .int .i64 0 ∧ w' = w) 0 ⟨rfl, rfl⟩ ?_
  rintro m x w1 ⟨rfl, rfl⟩ J hJ _j
  simp only [stp, Nat.reduceAdd, Int.reduceLT, Int.reduceLE, Int.reduceEq, Int.reduceNe, ne_eq, bne_self_eq_false, beq_self_eq_true, stm, c, Option.isSome_some, Option.getD_some]
  exact hq
theorem growEntries0 (c : cel w b 22 = some (.slice none 0 0)) (hq : Q (.slice none 0 0) w) : callS Tryz.prog 162 #[.pointer (some ⟨b, 0, none⟩)] Q w := by
  refine ref162 ?_
  unfold S162
  refine lp2 (fun m x y w' => x = .slice none 0 0 ∧ y = .int .i64 0 ∧ w' = w) 0 ⟨rfl, rfl, rfl⟩ ?_
  rintro m x y w1 ⟨rfl, rfl, rfl⟩ J hJ _j
  simp only [stp, Nat.reduceAdd, Int.reduceLT, Int.reduceLE, Int.reduceEq, Int.reduceNe, ne_eq, bne_self_eq_false, beq_self_eq_true, stm, c, Option.isSome_some, Option.getD_some]
  exact hq
theorem markedEntries0 (hq : Q (.bool true) w) : callS Tryz.prog 177 #[.slice none 0 0] Q w := by
  refine ref177 ?_
  unfold S177
  refine lp1 (fun m x w' => x = .int .i64 0 ∧ w' = w) 0 ⟨rfl, rfl⟩ ?_
  rintro m x w1 ⟨rfl, rfl⟩ J hJ _j
  simp only [stp, Nat.reduceAdd, Int.reduceLT, Int.reduceLE, Int.reduceEq, Int.reduceNe, ne_eq, bne_self_eq_false, beq_self_eq_true, stm]
  exact hq
theorem stillParts0 (c : cel w b 24 = some (.slice none 0 0)) (hq : Q (.bool true) w) : callS Tryz.prog 133 #[.pointer (some ⟨b, 0, none⟩)] Q w := by
  refine ref133 ?_
  unfold S133
  refine lp1 (fun m x w' => x = .int .i64 0 ∧ w' = w) 0 ⟨rfl, rfl⟩ ?_
  rintro m x w1 ⟨rfl, rfl⟩ J hJ _j
  simp only [stp, Nat.reduceAdd, Int.reduceLT, Int.reduceLE, Int.reduceEq, Int.reduceNe, ne_eq, bne_self_eq_false, beq_self_eq_true, stm, c, Option.isSome_some, Option.getD_some]
  exact hq
theorem putParts0 (c : cel w b 24 = some (.slice none 0 0)) (hq : Q (.tuple #[]) w) : callS Tryz.prog 150 #[.pointer (some ⟨b, 0, none⟩)] Q w := by
  refine ref150 ?_
  unfold S150
  refine lp1 (fun m x w' => x = .int .i64 0 ∧ w' = w) 0 ⟨rfl, rfl⟩ ?_
  rintro m x w1 ⟨rfl, rfl⟩ J hJ _j
  simp only [stp, Nat.reduceAdd, Int.reduceLT, Int.reduceLE, Int.reduceEq, Int.reduceNe, ne_eq, bne_self_eq_false, beq_self_eq_true, stm, c, Option.isSome_some, Option.getD_some]
  exact hq
theorem growParts0 (c : cel w b 24 = some (.slice none 0 0)) (hq : Q (.slice none 0 0) w) : callS Tryz.prog 163 #[.pointer (some ⟨b, 0, none⟩)] Q w := by
  refine ref163 ?_
  unfold S163
  refine lp2 (fun m x y w' => x = .slice none 0 0 ∧ y = .int .i64 0 ∧ w' = w) 0 ⟨rfl, rfl, rfl⟩ ?_
  rintro m x y w1 ⟨rfl, rfl, rfl⟩ J hJ _j
  simp only [stp, Nat.reduceAdd, Int.reduceLT, Int.reduceLE, Int.reduceEq, Int.reduceNe, ne_eq, bne_self_eq_false, beq_self_eq_true, stm, c, Option.isSome_some, Option.getD_some]
  exact hq
theorem markedParts0 (hq : Q (.bool true) w) : callS Tryz.prog 178 #[.slice none 0 0] Q w := by
  refine ref178 ?_
  unfold S178
  refine lp1 (fun m x w' => x = .int .i64 0 ∧ w' = w) 0 ⟨rfl, rfl⟩ ?_
  rintro m x w1 ⟨rfl, rfl⟩ J hJ _j
  simp only [stp, Nat.reduceAdd, Int.reduceLT, Int.reduceLE, Int.reduceEq, Int.reduceNe, ne_eq, bne_self_eq_false, beq_self_eq_true, stm]
  exact hq
theorem stillMsgs0 (c : cel w b 26 = some (.slice none 0 0)) (hq : Q (.bool true) w) : callS Tryz.prog 134 #[.pointer (some ⟨b, 0, none⟩)] Q w := by
  refine ref134 ?_
  unfold S134
  refine lp1 (fun m x w' => x = .int .i64 0 ∧ w' = w) 0 ⟨rfl, rfl⟩ ?_
  rintro m x w1 ⟨rfl, rfl⟩ J hJ _j
  simp only [stp, Nat.reduceAdd, Int.reduceLT, Int.reduceLE, Int.reduceEq, Int.reduceNe, ne_eq, bne_self_eq_false, beq_self_eq_true, stm, c, Option.isSome_some, Option.getD_some]
  exact hq
theorem putMsgs0 (c : cel w b 26 = some (.slice none 0 0)) (hq : Q (.tuple #[]) w) : callS Tryz.prog 137 #[.pointer (some ⟨b, 0, none⟩)] Q w := by
  refine ref137 ?_
  unfold S137
  refine lp1 (fun m x w' => x = .int .i64 0 ∧ w' = w) 0 ⟨rfl, rfl⟩ ?_
  rintro m x w1 ⟨rfl, rfl⟩ J hJ _j
  simp only [stp, Nat.reduceAdd, Int.reduceLT, Int.reduceLE, Int.reduceEq, Int.reduceNe, ne_eq, bne_self_eq_false, beq_self_eq_true, stm, c, Option.isSome_some, Option.getD_some]
  exact hq
theorem growMsgs0 (c : cel w b 26 = some (.slice none 0 0)) (hq : Q (.slice none 0 0) w) : callS Tryz.prog 164 #[.pointer (some ⟨b, 0, none⟩)] Q w := by
  refine ref164 ?_
  unfold S164
  refine lp2 (fun m x y w' => x = .slice none 0 0 ∧ y = .int .i64 0 ∧ w' = w) 0 ⟨rfl, rfl, rfl⟩ ?_
  rintro m x y w1 ⟨rfl, rfl, rfl⟩ J hJ _j
  simp only [stp, Nat.reduceAdd, Int.reduceLT, Int.reduceLE, Int.reduceEq, Int.reduceNe, ne_eq, bne_self_eq_false, beq_self_eq_true, stm, c, Option.isSome_some, Option.getD_some]
  exact hq
theorem markedMsgs0 (hq : Q (.bool true) w) : callS Tryz.prog 179 #[.slice none 0 0] Q w := by
  refine ref179 ?_
  unfold S179
  refine lp1 (fun m x w' => x = .int .i64 0 ∧ w' = w) 0 ⟨rfl, rfl⟩ ?_
  rintro m x w1 ⟨rfl, rfl⟩ J hJ _j
  simp only [stp, Nat.reduceAdd, Int.reduceLT, Int.reduceLE, Int.reduceEq, Int.reduceNe, ne_eq, bne_self_eq_false, beq_self_eq_true, stm]
  exact hq
theorem stillSteps0 (c : cel w b 28 = some (.slice none 0 0)) (hq : Q (.bool true) w) : callS Tryz.prog 135 #[.pointer (some ⟨b, 0, none⟩)] Q w := by
  refine ref135 ?_
  unfold S135
  refine lp1 (fun m x w' => x = .int .i64 0 ∧ w' = w) 0 ⟨rfl, rfl⟩ ?_
  rintro m x w1 ⟨rfl, rfl⟩ J hJ _j
  simp only [stp, Nat.reduceAdd, Int.reduceLT, Int.reduceLE, Int.reduceEq, Int.reduceNe, ne_eq, bne_self_eq_false, beq_self_eq_true, stm, c, Option.isSome_some, Option.getD_some]
  exact hq
theorem putSteps0 (c : cel w b 28 = some (.slice none 0 0)) (hq : Q (.tuple #[]) w) : callS Tryz.prog 138 #[.pointer (some ⟨b, 0, none⟩)] Q w := by
  refine ref138 ?_
  unfold S138
  refine lp1 (fun m x w' => x = .int .i64 0 ∧ w' = w) 0 ⟨rfl, rfl⟩ ?_
  rintro m x w1 ⟨rfl, rfl⟩ J hJ _j
  simp only [stp, Nat.reduceAdd, Int.reduceLT, Int.reduceLE, Int.reduceEq, Int.reduceNe, ne_eq, bne_self_eq_false, beq_self_eq_true, stm, c, Option.isSome_some, Option.getD_some]
  exact hq
theorem growSteps0 (c : cel w b 28 = some (.slice none 0 0)) (hq : Q (.slice none 0 0) w) : callS Tryz.prog 165 #[.pointer (some ⟨b, 0, none⟩)] Q w := by
  refine ref165 ?_
  unfold S165
  refine lp2 (fun m x y w' => x = .slice none 0 0 ∧ y = .int .i64 0 ∧ w' = w) 0 ⟨rfl, rfl, rfl⟩ ?_
  rintro m x y w1 ⟨rfl, rfl, rfl⟩ J hJ _j
  simp only [stp, Nat.reduceAdd, Int.reduceLT, Int.reduceLE, Int.reduceEq, Int.reduceNe, ne_eq, bne_self_eq_false, beq_self_eq_true, stm, c, Option.isSome_some, Option.getD_some]
  exact hq
theorem markedSteps0 (hq : Q (.bool true) w) : callS Tryz.prog 180 #[.slice none 0 0] Q w := by
  refine ref180 ?_
  unfold S180
  refine lp1 (fun m x w' => x = .int .i64 0 ∧ w' = w) 0 ⟨rfl, rfl⟩ ?_
  rintro m x w1 ⟨rfl, rfl⟩ J hJ _j
  simp only [stp, Nat.reduceAdd, Int.reduceLT, Int.reduceLE, Int.reduceEq, Int.reduceNe, ne_eq, bne_self_eq_false, beq_self_eq_true, stm]
  exact hq
end
end Go.Proofs.YtdnbegjamoeahaaGreatL.Bk
