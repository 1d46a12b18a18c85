/- The book of lists: kinds of which it has none. Conditions: as each says. -/
import Derived.Test.YtmmnifbponhhfaaGreatTT
import Derived.Test.YtmmnifbponhhfaaGreatTShL
import Derived.Test.YtmmnifbponhhfaaGreatTBook
set_option linter.unusedSimpArgs false
set_option linter.unusedVariables false
namespace Go.Proofs.YtmmnifbponhhfaaGreatT.Bk
open Go.Sh Go.Proofs.YtmmnifbponhhfaaGreatT
set_option maxRecDepth 100000
section
variable {w : World} {Q : Value → World → Prop} {b : Nat}
theorem stillTexts0 (c : cel w b 0 = some (.slice none 0 0)) (hq : Q (.bool true) w) : callS Tryz.prog 37 #[.pointer (some ⟨b, 0, none⟩)] Q w := by
  refine ref37 ?_
  unfold S37
  refine lp1 (fun m x w' => x = .int .i64 0 ∧ w' = w) 0 ⟨rfl, rfl⟩ ?_
  rintro m x w1 ⟨rfl, rfl⟩ J hJ _j
  simp only [stp, Nat.reduceAdd, Int.reduceLT, Int.reduceLE, Int.reduceEq, Int.reduceNe, ne_eq, bne_self_eq_false, beq_self_eq_true, stm, c, Option.isSome_some, Option.getD_some]
  exact hq
theorem putTexts0 (c : cel w b 0 = some (.slice none 0 0)) (hq : Q (.tuple #[]) w) : callS Tryz.prog 55 #[.pointer (some ⟨b, 0, none⟩)] Q w := by
  refine ref55 ?_
  unfold S55
  refine lp1 (fun m x w' => x = .int .i64 0 ∧ w' = w) 0 ⟨rfl, rfl⟩ ?_
  rintro m x w1 ⟨rfl, rfl⟩ J hJ _j
  simp only [stp, Nat.reduceAdd, Int.reduceLT, Int.reduceLE, Int.reduceEq, Int.reduceNe, ne_eq, bne_self_eq_false, beq_self_eq_true, stm, c, Option.isSome_some, Option.getD_some]
  exact hq
theorem growTexts0 (c : cel w b 0 = some (.slice none 0 0)) (hq : Q (.slice none 0 0) w) : callS Tryz.prog 67 #[.pointer (some ⟨b, 0, none⟩)] Q w := by
  refine ref67 ?_
  unfold S67
  refine lp2 (fun m x y w' => x = .slice none 0 0 ∧ y = .int .i64 0 ∧ w' = w) 0 ⟨rfl, rfl, rfl⟩ ?_
  rintro m x y w1 ⟨rfl, rfl, rfl⟩ J hJ _j
  simp only [stp, Nat.reduceAdd, Int.reduceLT, Int.reduceLE, Int.reduceEq, Int.reduceNe, ne_eq, bne_self_eq_false, beq_self_eq_true, stm, c, Option.isSome_some, Option.getD_some]
  exact hq
theorem markedTexts0 (hq : Q (.bool true) w) : callS Tryz.prog 82 #[.slice none 0 0] Q w := by
  refine ref82 ?_
  unfold S82
  refine lp1 (fun m x w' => x = .int .i64 0 ∧ w' = w) 0 ⟨rfl, rfl⟩ ?_
  rintro m x w1 ⟨rfl, rfl⟩ J hJ _j
  simp only [stp, Nat.reduceAdd, Int.reduceLT, Int.reduceLE, Int.reduceEq, Int.reduceNe, ne_eq, bne_self_eq_false, beq_self_eq_true, stm]
  exact hq
theorem stillInts0 (c : cel w b 2 = some (.slice none 0 0)) (hq : Q (.bool true) w) : callS Tryz.prog 38 #[.pointer (some ⟨b, 0, none⟩)] Q w := by
  refine ref38 ?_
  unfold S38
  refine lp1 (fun m x w' => x = .int .i64 0 ∧ w' = w) 0 ⟨rfl, rfl⟩ ?_
  rintro m x w1 ⟨rfl, rfl⟩ J hJ _j
  simp only [stp, Nat.reduceAdd, Int.reduceLT, Int.reduceLE, Int.reduceEq, Int.reduceNe, ne_eq, bne_self_eq_false, beq_self_eq_true, stm, c, Option.isSome_some, Option.getD_some]
  exact hq
theorem putInts0 (c : cel w b 2 = some (.slice none 0 0)) (hq : Q (.tuple #[]) w) : callS Tryz.prog 56 #[.pointer (some ⟨b, 0, none⟩)] Q w := by
  refine ref56 ?_
  unfold S56
  refine lp1 (fun m x w' => x = .int .i64 0 ∧ w' = w) 0 ⟨rfl, rfl⟩ ?_
  rintro m x w1 ⟨rfl, rfl⟩ J hJ _j
  simp only [stp, Nat.reduceAdd, Int.reduceLT, Int.reduceLE, Int.reduceEq, Int.reduceNe, ne_eq, bne_self_eq_false, beq_self_eq_true, stm, c, Option.isSome_some, Option.getD_some]
  exact hq
theorem growInts0 (c : cel w b 2 = some (.slice none 0 0)) (hq : Q (.slice none 0 0) w) : callS Tryz.prog 68 #[.pointer (some ⟨b, 0, none⟩)] Q w := by
  refine ref68 ?_
  unfold S68
  refine lp2 (fun m x y w' => x = .slice none 0 0 ∧ y = .int .i64 0 ∧ w' = w) 0 ⟨rfl, rfl, rfl⟩ ?_
  rintro m x y w1 ⟨rfl, rfl, rfl⟩ J hJ _j
  simp only [stp, Nat.reduceAdd, Int.reduceLT, Int.reduceLE, Int.reduceEq, Int.reduceNe, ne_eq, bne_self_eq_false, beq_self_eq_true, stm, c, Option.isSome_some, Option.getD_some]
  exact hq
theorem markedInts0 (hq : Q (.bool true) w) : callS Tryz.prog 83 #[.slice none 0 0] Q w := by
  refine ref83 ?_
  unfold S83
  refine lp1 (fun m x w' => x = .int .i64 0 ∧ w' = w) 0 ⟨rfl, rfl⟩ ?_
  rintro m x w1 ⟨rfl, rfl⟩ J hJ _j
  simp only [stp, Nat.reduceAdd, Int.reduceLT, Int.reduceLE, Int.reduceEq, Int.reduceNe, ne_eq, bne_self_eq_false, beq_self_eq_true, stm]
  exact hq
theorem stillSpans0 (c : cel w b 6 = some (.slice none 0 0)) (hq : Q (.bool true) w) : callS Tryz.prog 40 #[.pointer (some ⟨b, 0, none⟩)] Q w := by
  refine ref40 ?_
  unfold S40
  refine lp1 (fun m x w' => x = .int .i64 0 ∧ w' = w) 0 ⟨rfl, rfl⟩ ?_
  rintro m x w1 ⟨rfl, rfl⟩ J hJ _j
  simp only [stp, Nat.reduceAdd, Int.reduceLT, Int.reduceLE, Int.reduceEq, Int.reduceNe, ne_eq, bne_self_eq_false, beq_self_eq_true, stm, c, Option.isSome_some, Option.getD_some]
  exact hq
theorem putSpans0 (c : cel w b 6 = some (.slice none 0 0)) (hq : Q (.tuple #[]) w) : callS Tryz.prog 58 #[.pointer (some ⟨b, 0, none⟩)] Q w := by
  refine ref58 ?_
  unfold S58
  refine lp1 (fun m x w' => x = .int .i64 0 ∧ w' = w) 0 ⟨rfl, rfl⟩ ?_
  rintro m x w1 ⟨rfl, rfl⟩ J hJ _j
  simp only [stp, Nat.reduceAdd, Int.reduceLT, Int.reduceLE, Int.reduceEq, Int.reduceNe, ne_eq, bne_self_eq_false, beq_self_eq_true, stm, c, Option.isSome_some, Option.getD_some]
  exact hq
theorem growSpans0 (c : cel w b 6 = some (.slice none 0 0)) (hq : Q (.slice none 0 0) w) : callS Tryz.prog 70 #[.pointer (some ⟨b, 0, none⟩)] Q w := by
  refine ref70 ?_
  unfold S70
  refine lp2 (fun m x y w' => x = .slice none 0 0 ∧ y = .int .i64 0 ∧ w' = w) 0 ⟨rfl, rfl, rfl⟩ ?_
  rintro m x y w1 ⟨rfl, rfl, rfl⟩ J hJ _j
  simp only [stp, Nat.reduceAdd, Int.reduceLT, Int.reduceLE, Int.reduceEq, Int.reduceNe, ne_eq, bne_self_eq_false, beq_self_eq_true, stm, c, Option.isSome_some, Option.getD_some]
  exact hq
theorem markedSpans0 (hq : Q (.bool true) w) : callS Tryz.prog 85 #[.slice none 0 0] Q w := by
  refine ref85 ?_
  unfold S85
  refine lp1 (fun m x w' => x = .int .i64 0 ∧ w' = w) 0 ⟨rfl, rfl⟩ ?_
  rintro m x w1 ⟨rfl, rfl⟩ J hJ _j
  simp only [stp, Nat.reduceAdd, Int.reduceLT, Int.reduceLE, Int.reduceEq, Int.reduceNe, ne_eq, bne_self_eq_false, beq_self_eq_true, stm]
  exact hq
theorem stillLocks0 (c : cel w b 8 = some (.slice none 0 0)) (hq : Q (.bool true) w) : callS Tryz.prog 41 #[.pointer (some ⟨b, 0, none⟩)] Q w := by
  refine ref41 ?_
  unfold S41
  refine lp1 (fun m x w' => x = .int .i64 0 ∧ w' = w) 0 ⟨rfl, rfl⟩ ?_
  rintro m x w1 ⟨rfl, rfl⟩ J hJ _j
  simp only [stp, Nat.reduceAdd, Int.reduceLT, Int.reduceLE, Int.reduceEq, Int.reduceNe, ne_eq, bne_self_eq_false, beq_self_eq_true, stm, c, Option.isSome_some, Option.getD_some]
  exact hq
theorem putLocks0 (c : cel w b 8 = some (.slice none 0 0)) (hq : Q (.tuple #[]) w) : callS Tryz.prog 59 #[.pointer (some ⟨b, 0, none⟩)] Q w := by
  refine ref59 ?_
  unfold S59
  refine lp1 (fun m x w' => x = .int .i64 0 ∧ w' = w) 0 ⟨rfl, rfl⟩ ?_
  rintro m x w1 ⟨rfl, rfl⟩ J hJ _j
  simp only [stp, Nat.reduceAdd, Int.reduceLT, Int.reduceLE, Int.reduceEq, Int.reduceNe, ne_eq, bne_self_eq_false, beq_self_eq_true, stm, c, Option.isSome_some, Option.getD_some]
  exact hq
theorem growLocks0 (c : cel w b 8 = some (.slice none 0 0)) (hq : Q (.slice none 0 0) w) : callS Tryz.prog 71 #[.pointer (some ⟨b, 0, none⟩)] Q w := by
  refine ref71 ?_
  unfold S71
  refine lp2 (fun m x y w' => x = .slice none 0 0 ∧ y = .int .i64 0 ∧ w' = w) 0 ⟨rfl, rfl, rfl⟩ ?_
  rintro m x y w1 ⟨rfl, rfl, rfl⟩ J hJ _j
  simp only [stp, Nat.reduceAdd, Int.reduceLT, Int.reduceLE, Int.reduceEq, Int.reduceNe, ne_eq, bne_self_eq_false, beq_self_eq_true, stm, c, Option.isSome_some, Option.getD_some]
  exact hq
theorem markedLocks0 (hq : Q (.bool true) w) : callS Tryz.prog 86 #[.slice none 0 0] Q w := by
  refine ref86 ?_
  unfold S86
  refine lp1 (fun m x w' => x = .int .i64 0 ∧ w' = w) 0 ⟨rfl, rfl⟩ ?_
  rintro m x w1 ⟨rfl, rfl⟩ J hJ _j
  simp only [stp, Nat.reduceAdd, Int.reduceLT, Int.reduceLE, Int.reduceEq, Int.reduceNe, ne_eq, bne_self_eq_false, beq_self_eq_true, stm]
  exact hq
theorem stillRecords0 (c : cel w b 12 = some (.slice none 0 0)) (hq : Q (.bool true) w) : callS Tryz.prog 43 #[.pointer (some ⟨b, 0, none⟩)] Q w := by
  refine ref43 ?_
  unfold S43
  refine lp1 (fun m x w' => x = .int .i64 0 ∧ w' = w) 0 ⟨rfl, rfl⟩ ?_
  rintro m x w1 ⟨rfl, rfl⟩ J hJ _j
  simp only [stp, Nat.reduceAdd, Int.reduceLT, Int.reduceLE, Int.reduceEq, Int.reduceNe, ne_eq, bne_self_eq_false, beq_self_eq_true, stm, c, Option.isSome_some, Option.getD_some]
  exact hq
theorem putRecords0 (c : cel w b 12 = some (.slice none 0 0)) (hq : Q (.tuple #[]) w) : callS Tryz.prog 52 #[.pointer (some ⟨b, 0, none⟩)] Q w := by
  refine ref52 ?_
  unfold S52
  refine lp1 (fun m x w' => x = .int .i64 0 ∧ w' = w) 0 ⟨rfl, rfl⟩ ?_
  rintro m x w1 ⟨rfl, rfl⟩ J hJ _j
  simp only [stp, Nat.reduceAdd, Int.reduceLT, Int.reduceLE, Int.reduceEq, Int.reduceNe, ne_eq, bne_self_eq_false, beq_self_eq_true, stm, c, Option.isSome_some, Option.getD_some]
  exact hq
theorem growRecords0 (c : cel w b 12 = some (.slice none 0 0)) (hq : Q (.slice none 0 0) w) : callS Tryz.prog 73 #[.pointer (some ⟨b, 0, none⟩)] Q w := by
  refine ref73 ?_
  unfold S73
  refine lp2 (fun m x y w' => x = .slice none 0 0 ∧ y = .int .i64 0 ∧ w' = w) 0 ⟨rfl, rfl, rfl⟩ ?_
  rintro m x y w1 ⟨rfl, rfl, rfl⟩ J hJ _j
  simp only [stp, Nat.reduceAdd, Int.reduceLT, Int.reduceLE, Int.reduceEq, Int.reduceNe, ne_eq, bne_self_eq_false, beq_self_eq_true, stm, c, Option.isSome_some, Option.getD_some]
  exact hq
theorem markedRecords0 (hq : Q (.bool true) w) : callS Tryz.prog 88 #[.slice none 0 0] Q w := by
  refine ref88 ?_
  unfold S88
  refine lp1 (fun m x w' => x = .int .i64 0 ∧ w' = w) 0 ⟨rfl, rfl⟩ ?_
  rintro m x w1 ⟨rfl, rfl⟩ J hJ _j
  simp only [stp, Nat.reduceAdd, Int.reduceLT, Int.reduceLE, Int.reduceEq, Int.reduceNe, ne_eq, bne_self_eq_false, beq_self_eq_true, stm]
  exact hq
theorem stillPackets0 (c : cel w b 14 = some (.slice none 0 0)) (hq : Q (.bool true) w) : callS Tryz.prog 44 #[.pointer (some ⟨b, 0, none⟩)] Q w := by
  refine ref44 ?_
  unfold S44
  refine lp1 (fun m x w' => x = .int .i64 0 ∧ w' = w) 0 ⟨rfl, rfl⟩ ?_
  rintro m x w1 ⟨rfl, rfl⟩ J hJ _j
  simp only [stp, Nat.reduceAdd, Int.reduceLT, Int.reduceLE, Int.reduceEq, Int.reduceNe, ne_eq, bne_self_eq_false, beq_self_eq_true, stm, c, Option.isSome_some, Option.getD_some]
  exact hq
theorem putPackets0 (c : cel w b 14 = some (.slice none 0 0)) (hq : Q (.tuple #[]) w) : callS Tryz.prog 61 #[.pointer (some ⟨b, 0, none⟩)] Q w := by
  refine ref61 ?_
  unfold S61
  refine lp1 (fun m x w' => x = .int .i64 0 ∧ w' = w) 0 ⟨rfl, rfl⟩ ?_
  rintro m x w1 ⟨rfl, rfl⟩ J hJ _j
  simp only [stp, Nat.reduceAdd, Int.reduceLT, Int.reduceLE, Int.reduceEq, Int.reduceNe, ne_eq, bne_self_eq_false, beq_self_eq_true, stm, c, Option.isSome_some, Option.getD_some]
  exact hq
theorem growPackets0 (c : cel w b 14 = some (.slice none 0 0)) (hq : Q (.slice none 0 0) w) : callS Tryz.prog 74 #[.pointer (some ⟨b, 0, none⟩)] Q w := by
  refine ref74 ?_
  unfold S74
  refine lp2 (fun m x y w' => x = .slice none 0 0 ∧ y = .int .i64 0 ∧ w' = w) 0 ⟨rfl, rfl, rfl⟩ ?_
  rintro m x y w1 ⟨rfl, rfl, rfl⟩ J hJ _j
  simp only [stp, Nat.reduceAdd, Int.reduceLT, Int.reduceLE, Int.reduceEq, Int.reduceNe, ne_eq, bne_self_eq_false, beq_self_eq_true, stm, c, Option.isSome_some, Option.getD_some]
  exact hq
theorem markedPackets0 (hq : Q (.bool true) w) : callS Tryz.prog 89 #[.slice none 0 0] Q w := by
  refine ref89 ?_
  unfold S89
  refine lp1 (fun m x w' => x = .int .i64 0 ∧ w' = w) 0 ⟨rfl, rfl⟩ ?_
  rintro m x w1 ⟨rfl, rfl⟩ J hJ _j
  simp only [stp, Nat.reduceAdd, Int.reduceLT, Int.reduceLE, Int.reduceEq, Int.reduceNe, ne_eq, bne_self_eq_false, beq_self_eq_true, stm]
  exact hq
theorem stillFrames0 (c : cel w b 16 = some (.slice none 0 0)) (hq : Q (.bool true) w) : callS Tryz.prog 45 #[.pointer (some ⟨b, 0, none⟩)] Q w := by
  refine ref45 ?_
  unfold S45
  refine lp1 (fun m x w' => x = .int .i64 0 ∧ w' = w) 0 ⟨rfl, rfl⟩ ?_
  rintro m x w1 ⟨rfl, rfl⟩ J hJ _j
  simp only [stp, Nat.reduceAdd, Int.reduceLT, Int.reduceLE, Int.reduceEq, Int.reduceNe, ne_eq, bne_self_eq_false, beq_self_eq_true, stm, c, Option.isSome_some, Option.getD_some]
  exact hq
theorem putFrames0 (c : cel w b 16 = some (.slice none 0 0)) (hq : Q (.tuple #[]) w) : callS Tryz.prog 62 #[.pointer (some ⟨b, 0, none⟩)] Q w := by
  refine ref62 ?_
  unfold S62
  refine lp1 (fun m x w' => x = .int .i64 0 ∧ w' = w) 0 ⟨rfl, rfl⟩ ?_
  rintro m x w1 ⟨rfl, rfl⟩ J hJ _j
  simp only [stp, Nat.reduceAdd, Int.reduceLT, Int.reduceLE, Int.reduceEq, Int.reduceNe, ne_eq, bne_self_eq_false, beq_self_eq_true, stm, c, Option.isSome_some, Option.getD_some]
  exact hq
theorem growFrames0 (c : cel w b 16 = some (.slice none 0 0)) (hq : Q (.slice none 0 0) w) : callS Tryz.prog 75 #[.pointer (some ⟨b, 0, none⟩)] Q w := by
  refine ref75 ?_
  unfold S75
  refine lp2 (fun m x y w' => x = .slice none 0 0 ∧ y = .int .i64 0 ∧ w' = w) 0 ⟨rfl, rfl, rfl⟩ ?_
  rintro m x y w1 ⟨rfl, rfl, rfl⟩ J hJ _j
  simp only [stp, Nat.reduceAdd, Int.reduceLT, Int.reduceLE, Int.reduceEq, Int.reduceNe, ne_eq, bne_self_eq_false, beq_self_eq_true, stm, c, Option.isSome_some, Option.getD_some]
  exact hq
theorem markedFrames0 (hq : Q (.bool true) w) : callS Tryz.prog 90 #[.slice none 0 0] Q w := by
  refine ref90 ?_
  unfold S90
  refine lp1 (fun m x w' => x = .int .i64 0 ∧ w' = w) 0 ⟨rfl, rfl⟩ ?_
  rintro m x w1 ⟨rfl, rfl⟩ J hJ _j
  simp only [stp, Nat.reduceAdd, Int.reduceLT, Int.reduceLE, Int.reduceEq, Int.reduceNe, ne_eq, bne_self_eq_false, beq_self_eq_true, stm]
  exact hq
theorem stillWaits0 (c : cel w b 18 = some (.slice none 0 0)) (hq : Q (.bool true) w) : callS Tryz.prog 46 #[.pointer (some ⟨b, 0, none⟩)] Q w := by
  refine ref46 ?_
  unfold S46
  refine lp1 (fun m x w' => x = .int .i64 0 ∧ w' = w) 0 ⟨rfl, rfl⟩ ?_
  rintro m x w1 ⟨rfl, rfl⟩ J hJ _j
  simp only [stp, Nat.reduceAdd, Int.reduceLT, Int.reduceLE, Int.reduceEq, Int.reduceNe, ne_eq, bne_self_eq_false, beq_self_eq_true, stm, c, Option.isSome_some, Option.getD_some]
  exact hq
theorem putWaits0 (c : cel w b 18 = some (.slice none 0 0)) (hq : Q (.tuple #[]) w) : callS Tryz.prog 63 #[.pointer (some ⟨b, 0, none⟩)] Q w := by
  refine ref63 ?_
  unfold S63
  refine lp1 (fun m x w' => x = .int .i64 0 ∧ w' = w) 0 ⟨rfl, rfl⟩ ?_
  rintro m x w1 ⟨rfl, rfl⟩ J hJ _j
  simp only [stp, Nat.reduceAdd, Int.reduceLT, Int.reduceLE, Int.reduceEq, Int.reduceNe, ne_eq, bne_self_eq_false, beq_self_eq_true, stm, c, Option.isSome_some, Option.getD_some]
  exact hq
theorem growWaits0 (c : cel w b 18 = some (.slice none 0 0)) (hq : Q (.slice none 0 0) w) : callS Tryz.prog 76 #[.pointer (some ⟨b, 0, none⟩)] Q w := by
  refine ref76 ?_
  unfold S76
  refine lp2 (fun m x y w' => x = .slice none 0 0 ∧ y = .int .i64 0 ∧ w' = w) 0 ⟨rfl, rfl, rfl⟩ ?_
  rintro m x y w1 ⟨rfl, rfl, rfl⟩ J hJ _j
  simp only [stp, Nat.reduceAdd, Int.reduceLT, Int.reduceLE, Int.reduceEq, Int.reduceNe, ne_eq, bne_self_eq_false, beq_self_eq_true, stm, c, Option.isSome_some, Option.getD_some]
  exact hq
theorem markedWaits0 (hq : Q (.bool true) w) : callS Tryz.prog 91 #[.slice none 0 0] Q w := by
  refine ref91 ?_
  unfold S91
  refine lp1 (fun m x w' => x = .int .i64 0 ∧ w' = w) 0 ⟨rfl, rfl⟩ ?_
  rintro m x w1 ⟨rfl, rfl⟩ J hJ _j
  simp only [stp, Nat.reduceAdd, Int.reduceLT, Int.reduceLE, Int.reduceEq, Int.reduceNe, ne_eq, bne_self_eq_false, beq_self_eq_true, stm]
  exact hq
theorem stillRevokes0 (c : cel w b 20 = some (.slice none 0 0)) (hq : Q (.bool true) w) : callS Tryz.prog 47 #[.pointer (some ⟨b, 0, none⟩)] Q w := by
  refine ref47 ?_
  unfold S47
  refine lp1 (fun m x w' => x = .int .i64 0 ∧ w' = w) 0 ⟨rfl, rfl⟩ ?_
  rintro m x w1 ⟨rfl, rfl⟩ J hJ _j
  simp only [stp, Nat.reduceAdd, Int.reduceLT, Int.reduceLE, Int.reduceEq, Int.reduceNe, ne_eq, bne_self_eq_false, beq_self_eq_true, stm, c, Option.isSome_some, Option.getD_some]
  exact hq
theorem putRevokes0 (c : cel w b 20 = some (.slice none 0 0)) (hq : Q (.tuple #[]) w) : callS Tryz.prog 64 #[.pointer (some ⟨b, 0, none⟩)] Q w := by
  refine ref64 ?_
  unfold S64
  refine lp1 (fun m x w' => x = .int .i64 0 ∧ w' = w) 0 ⟨rfl, rfl⟩ ?_
  rintro m x w1 ⟨rfl, rfl⟩ J hJ _j
  simp only [stp, Nat.reduceAdd, Int.reduceLT, Int.reduceLE, Int.reduceEq, Int.reduceNe, ne_eq, bne_self_eq_false, beq_self_eq_true, stm, c, Option.isSome_some, Option.getD_some]
  exact hq
theorem growRevokes0 (c : cel w b 20 = some (.slice none 0 0)) (hq : Q (.slice none 0 0) w) : callS Tryz.prog 77 #[.pointer (some ⟨b, 0, none⟩)] Q w := by
  refine ref77 ?_
  unfold S77
  refine lp2 (fun m x y w' => x = .slice none 0 0 ∧ y = .int .i64 0 ∧ w' = w) 0 ⟨rfl, rfl, rfl⟩ ?_
  rintro m x y w1 ⟨rfl, rfl, rfl⟩ J hJ _j
  simp only [stp, Nat.reduceAdd, Int.reduceLT, Int.reduceLE, Int.reduceEq, Int.reduceNe, ne_eq, bne_self_eq_false, beq_self_eq_true, stm, c, Option.isSome_some, Option.getD_some]
  exact hq
theorem markedRevokes0 (hq : Q (.bool true) w) : callS Tryz.prog 92 #[.slice none 0 0] Q w := by
  refine ref92 ?_
  unfold S92
  refine lp1 (fun m x w' => x = .int .i64 0 ∧ w' = w) 0 ⟨rfl, rfl⟩ ?_
  rintro m x w1 ⟨rfl, rfl⟩ J hJ _j
  simp only [stp, Nat.reduceAdd, Int.reduceLT, Int.reduceLE, Int.reduceEq, Int.reduceNe, ne_eq, bne_self_eq_false, beq_self_eq_true, stm]
  exact hq
theorem stillEntries0 (c : cel w b 22 = some (.slice none 0 0)) (hq : Q (.bool true) w) : callS Tryz.prog 48 #[.pointer (some ⟨b, 0, none⟩)] Q w := by
  refine ref48 ?_
  unfold S48
  refine lp1 (fun m x w' => x = .int .i64 0 ∧ w' = w) 0 ⟨rfl, rfl⟩ ?_
  rintro m x w1 ⟨rfl, rfl⟩ J hJ _j
  simp only [stp, Nat.reduceAdd, Int.reduceLT, Int.reduceLE, Int.reduceEq, Int.reduceNe, ne_eq, bne_self_eq_false, beq_self_eq_true, stm, c, Option.isSome_some, Option.getD_some]
  exact hq
theorem putEntries0 (c : cel w b 22 = some (.slice none 0 0)) (hq : Q (.tuple #[]) w) : callS Tryz.prog 65 #[.pointer (some ⟨b, 0, none⟩)] Q w := by
  refine ref65 ?_
  unfold S65
  refine lp1 (fun m x w' => x = .int .i64 0 ∧ w' = w) 0 ⟨rfl, rfl⟩ ?_
  rintro m x w1 ⟨rfl, rfl⟩ J hJ _j
  simp only [stp, Nat.reduceAdd, Int.reduceLT, Int.reduceLE, Int.reduceEq, Int.reduceNe, ne_eq, bne_self_eq_false, beq_self_eq_true, stm, c, Option.isSome_some, Option.getD_some]
  exact hq
theorem growEntries0 (c : cel w b 22 = some (.slice none 0 0)) (hq : Q (.slice none 0 0) w) : callS Tryz.prog 78 #[.pointer (some ⟨b, 0, none⟩)] Q w := by
  refine ref78 ?_
  unfold S78
  refine lp2 (fun m x y w' => x = .slice none 0 0 ∧ y = .int .i64 0 ∧ w' = w) 0 ⟨rfl, rfl, rfl⟩ ?_
  rintro m x y w1 ⟨rfl, rfl, rfl⟩ J hJ _j
  simp only [stp, Nat.reduceAdd, Int.reduceLT, Int.reduceLE, Int.reduceEq, Int.reduceNe, ne_eq, bne_self_eq_false, beq_self_eq_true, stm, c, Option.isSome_some, Option.getD_some]
  exact hq
theorem markedEntries0 (hq : Q (.bool true) w) : callS Tryz.prog 93 #[.slice none 0 0] Q w := by
  refine ref93 ?_
  unfold S93
  refine lp1 (fun m x w' => x = .int .i64 0 ∧ w' = w) 0 ⟨rfl, rfl⟩ ?_
  rintro m x w1 ⟨rfl, rfl⟩ J hJ _j
  simp only [stp, Nat.reduceAdd, Int.reduceLT, Int.reduceLE, Int.reduceEq, Int.reduceNe, ne_eq, bne_self_eq_false, beq_self_eq_true, stm]
  exact hq
theorem stillParts0 (c : cel w b 24 = some (.slice none 0 0)) (hq : Q (.bool true) w) : callS Tryz.prog 49 #[.pointer (some ⟨b, 0, none⟩)] Q w := by
  refine ref49 ?_
  unfold S49
  refine lp1 (fun m x w' => x = .int .i64 0 ∧ w' = w) 0 ⟨rfl, rfl⟩ ?_
  rintro m x w1 ⟨rfl, rfl⟩ J hJ _j
  simp only [stp, Nat.reduceAdd, Int.reduceLT, Int.reduceLE, Int.reduceEq, Int.reduceNe, ne_eq, bne_self_eq_false, beq_self_eq_true, stm, c, Option.isSome_some, Option.getD_some]
  exact hq
theorem putParts0 (c : cel w b 24 = some (.slice none 0 0)) (hq : Q (.tuple #[]) w) : callS Tryz.prog 66 #[.pointer (some ⟨b, 0, none⟩)] Q w := by
  refine ref66 ?_
  unfold S66
  refine lp1 (fun m x w' => x = .int .i64 0 ∧ w' = w) 0 ⟨rfl, rfl⟩ ?_
  rintro m x w1 ⟨rfl, rfl⟩ J hJ _j
  simp only [stp, Nat.reduceAdd, Int.reduceLT, Int.reduceLE, Int.reduceEq, Int.reduceNe, ne_eq, bne_self_eq_false, beq_self_eq_true, stm, c, Option.isSome_some, Option.getD_some]
  exact hq
theorem growParts0 (c : cel w b 24 = some (.slice none 0 0)) (hq : Q (.slice none 0 0) w) : callS Tryz.prog 79 #[.pointer (some ⟨b, 0, none⟩)] Q w := by
  refine ref79 ?_
  unfold S79
  refine lp2 (fun m x y w' => x = .slice none 0 0 ∧ y = .int .i64 0 ∧ w' = w) 0 ⟨rfl, rfl, rfl⟩ ?_
  rintro m x y w1 ⟨rfl, rfl, rfl⟩ J hJ _j
  simp only [stp, Nat.reduceAdd, Int.reduceLT, Int.reduceLE, Int.reduceEq, Int.reduceNe, ne_eq, bne_self_eq_false, beq_self_eq_true, stm, c, Option.isSome_some, Option.getD_some]
  exact hq
theorem markedParts0 (hq : Q (.bool true) w) : callS Tryz.prog 94 #[.slice none 0 0] Q w := by
  refine ref94 ?_
  unfold S94
  refine lp1 (fun m x w' => x = .int .i64 0 ∧ w' = w) 0 ⟨rfl, rfl⟩ ?_
  rintro m x w1 ⟨rfl, rfl⟩ J hJ _j
  simp only [stp, Nat.reduceAdd, Int.reduceLT, Int.reduceLE, Int.reduceEq, Int.reduceNe, ne_eq, bne_self_eq_false, beq_self_eq_true, stm]
  exact hq
theorem stillMsgs0 (c : cel w b 26 = some (.slice none 0 0)) (hq : Q (.bool true) w) : callS Tryz.prog 50 #[.pointer (some ⟨b, 0, none⟩)] Q w := by
  refine ref50 ?_
  unfold S50
  refine lp1 (fun m x w' => x = .int .i64 0 ∧ w' = w) 0 ⟨rfl, rfl⟩ ?_
  rintro m x w1 ⟨rfl, rfl⟩ J hJ _j
  simp only [stp, Nat.reduceAdd, Int.reduceLT, Int.reduceLE, Int.reduceEq, Int.reduceNe, ne_eq, bne_self_eq_false, beq_self_eq_true, stm, c, Option.isSome_some, Option.getD_some]
  exact hq
theorem putMsgs0 (c : cel w b 26 = some (.slice none 0 0)) (hq : Q (.tuple #[]) w) : callS Tryz.prog 53 #[.pointer (some ⟨b, 0, none⟩)] Q w := by
  refine ref53 ?_
  unfold S53
  refine lp1 (fun m x w' => x = .int .i64 0 ∧ w' = w) 0 ⟨rfl, rfl⟩ ?_
  rintro m x w1 ⟨rfl, rfl⟩ J hJ _j
  simp only [stp, Nat.reduceAdd, Int.reduceLT, Int.reduceLE, Int.reduceEq, Int.reduceNe, ne_eq, bne_self_eq_false, beq_self_eq_true, stm, c, Option.isSome_some, Option.getD_some]
  exact hq
theorem growMsgs0 (c : cel w b 26 = some (.slice none 0 0)) (hq : Q (.slice none 0 0) w) : callS Tryz.prog 80 #[.pointer (some ⟨b, 0, none⟩)] Q w := by
  refine ref80 ?_
  unfold S80
  refine lp2 (fun m x y w' => x = .slice none 0 0 ∧ y = .int .i64 0 ∧ w' = w) 0 ⟨rfl, rfl, rfl⟩ ?_
  rintro m x y w1 ⟨rfl, rfl, rfl⟩ J hJ _j
  simp only [stp, Nat.reduceAdd, Int.reduceLT, Int.reduceLE, Int.reduceEq, Int.reduceNe, ne_eq, bne_self_eq_false, beq_self_eq_true, stm, c, Option.isSome_some, Option.getD_some]
  exact hq
theorem markedMsgs0 (hq : Q (.bool true) w) : callS Tryz.prog 95 #[.slice none 0 0] Q w := by
  refine ref95 ?_
  unfold S95
  refine lp1 (fun m x w' => x = .int .i64 0 ∧ w' = w) 0 ⟨rfl, rfl⟩ ?_
  rintro m x w1 ⟨rfl, rfl⟩ J hJ _j
  simp only [stp, Nat.reduceAdd, Int.reduceLT, Int.reduceLE, Int.reduceEq, Int.reduceNe, ne_eq, bne_self_eq_false, beq_self_eq_true, stm]
  exact hq
theorem stillSteps0 (c : cel w b 28 = some (.slice none 0 0)) (hq : Q (.bool true) w) : callS Tryz.prog 51 #[.pointer (some ⟨b, 0, none⟩)] Q w := by
  refine ref51 ?_
  unfold S51
  refine lp1 (fun m x w' => x = .int .i64 0 ∧ w' = w) 0 ⟨rfl, rfl⟩ ?_
  rintro m x w1 ⟨rfl, rfl⟩ J hJ _j
  simp only [stp, Nat.reduceAdd, Int.reduceLT, Int.reduceLE, Int.reduceEq, Int.reduceNe, ne_eq, bne_self_eq_false, beq_self_eq_true, stm, c, Option.isSome_some, Option.getD_some]
  exact hq
theorem putSteps0 (c : cel w b 28 = some (.slice none 0 0)) (hq : Q (.tuple #[]) w) : callS Tryz.prog 54 #[.pointer (some ⟨b, 0, none⟩)] Q w := by
  refine ref54 ?_
  unfold S54
  refine lp1 (fun m x w' => x = .int .i64 0 ∧ w' = w) 0 ⟨rfl, rfl⟩ ?_
  rintro m x w1 ⟨rfl, rfl⟩ J hJ _j
  simp only [stp, Nat.reduceAdd, Int.reduceLT, Int.reduceLE, Int.reduceEq, Int.reduceNe, ne_eq, bne_self_eq_false, beq_self_eq_true, stm, c, Option.isSome_some, Option.getD_some]
  exact hq
theorem growSteps0 (c : cel w b 28 = some (.slice none 0 0)) (hq : Q (.slice none 0 0) w) : callS Tryz.prog 81 #[.pointer (some ⟨b, 0, none⟩)] Q w := by
  refine ref81 ?_
  unfold S81
  refine lp2 (fun m x y w' => x = .slice none 0 0 ∧ y = .int .i64 0 ∧ w' = w) 0 ⟨rfl, rfl, rfl⟩ ?_
  rintro m x y w1 ⟨rfl, rfl, rfl⟩ J hJ _j
  simp only [stp, Nat.reduceAdd, Int.reduceLT, Int.reduceLE, Int.reduceEq, Int.reduceNe, ne_eq, bne_self_eq_false, beq_self_eq_true, stm, c, Option.isSome_some, Option.getD_some]
  exact hq
theorem markedSteps0 (hq : Q (.bool true) w) : callS Tryz.prog 96 #[.slice none 0 0] Q w := by
  refine ref96 ?_
  unfold S96
  refine lp1 (fun m x w' => x = .int .i64 0 ∧ w' = w) 0 ⟨rfl, rfl⟩ ?_
  rintro m x w1 ⟨rfl, rfl⟩ J hJ _j
  simp only [stp, Nat.reduceAdd, Int.reduceLT, Int.reduceLE, Int.reduceEq, Int.reduceNe, ne_eq, bne_self_eq_false, beq_self_eq_true, stm]
  exact hq
end
end Go.Proofs.YtmmnifbponhhfaaGreatT.Bk
