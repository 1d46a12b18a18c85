/-
  No cell of these rows narrows 'for every input' (looked for: loops, veiled, ifaces, maps, wideKeys, modest, calm, conditions, laid).
  DERIVED. THE GIVEN ROWS OF THIS SEAT. 5 by the template 'for every input the law returns true; each argument reads behind the call as it read before'; 0 by the template 'total and deterministic' (their statements: YtiomanikpboclaaTotals.lean).
  GIVEN WITH THE SEED: the statements are not yours to turn. If you find one false, say at which input.
  Laid BY PROGRAM, IN A SANDBOX (cutbox-rows.mjs): the forced cells as the released guide's own fill.sh prints them over the translation cac88a22dd5b066f… (all of the seat's roots in one cut). By AI agents, Wed Nov 11 2026. No macro, syntax, notation, axiom, sorry.
-/
import Derived.Test.YtiomanikpboclaaChecked
import GoSem.Claim
import GoSem.ClaimJoined
import GoSem.ClaimMapViews
import Derived.JoinedTies
import Derived.KernelRfl
namespace Go.Proofs.Ytiomanikpboclaa
/- THE CELL 'sum', in the pinned program and in every row, IS THE sha256 OF THE DUMP (.gsa) THAT YtiomanikpboclaaProg.lean LOADS. Nothing in Lean hashes anything: it is a label: what it is worth is what the hold of that sum in a sandbox is worth. -/
noncomputable def Try.pinned : Pinned := { name := "ytiomanikpboclaa", sum := "cac88a22dd5b066ff752fd8e3fa51dad338a9ba8953b7d76f002a96605def4ea", checked := Try.checked }
namespace Rows
def none {H : Type} : Left H := { results := [], args := [] }

/-- 'commonslaw18.TableUpgrades': WHATEVER THE INPUT: true; the input reads as it did. -/
def tableUpgradesSpec : ChangeSpec := { name := "tableUpgrades", fn := fun _ => fun
  | [d1, d2] => { results := [.lit (.bool true)], args := [d1, d2] }
  | _ => none }
def tableUpgradesRow : OpenClaim := { program := "ytiomanikpboclaa", sum := "cac88a22dd5b066ff752fd8e3fa51dad338a9ba8953b7d76f002a96605def4ea", func := "commons/commonslaw18.TableUpgrades", spec := "tableUpgrades", unfollowed := true, recurses := true, apart := false }
def TableUpgradesSaid : Prop := tableUpgradesRow.holds Try.pinned (OpenSpec.ofChange tableUpgradesSpec)

/-- ITS FALSE NEIGHBOUR: 'it returns false'. Refute it at one input. -/
def tableUpgradesWrong : ChangeSpec := { name := "tableUpgrades", fn := fun _ => fun
  | [d1, d2] => { results := [.lit (.bool false)], args := [d1, d2] }
  | _ => none }
def TableUpgradesWrongFalsely : Prop := tableUpgradesRow.holds Try.pinned (OpenSpec.ofChange tableUpgradesWrong)

/-- 'commonslaw18.TableClaims': WHATEVER THE INPUT: true; the input reads as it did. -/
def tableClaimsSpec : ChangeSpec := { name := "tableClaims", fn := fun _ => fun
  | [d1, d2, d3] => { results := [.lit (.bool true)], args := [d1, d2, d3] }
  | _ => none }
def tableClaimsRow : OpenClaim := { program := "ytiomanikpboclaa", sum := "cac88a22dd5b066ff752fd8e3fa51dad338a9ba8953b7d76f002a96605def4ea", func := "commons/commonslaw18.TableClaims", spec := "tableClaims", unfollowed := true, recurses := true, apart := false }
def TableClaimsSaid : Prop := tableClaimsRow.holds Try.pinned (OpenSpec.ofChange tableClaimsSpec)

/-- ITS FALSE NEIGHBOUR: 'it returns false'. Refute it at one input. -/
def tableClaimsWrong : ChangeSpec := { name := "tableClaims", fn := fun _ => fun
  | [d1, d2, d3] => { results := [.lit (.bool false)], args := [d1, d2, d3] }
  | _ => none }
def TableClaimsWrongFalsely : Prop := tableClaimsRow.holds Try.pinned (OpenSpec.ofChange tableClaimsWrong)

/-- 'commonslaw18.TableFair': WHATEVER THE INPUT: true; the input reads as it did. -/
def tableFairSpec : ChangeSpec := { name := "tableFair", fn := fun _ => fun
  | [d1, d2] => { results := [.lit (.bool true)], args := [d1, d2] }
  | _ => none }
def tableFairRow : OpenClaim := { program := "ytiomanikpboclaa", sum := "cac88a22dd5b066ff752fd8e3fa51dad338a9ba8953b7d76f002a96605def4ea", func := "commons/commonslaw18.TableFair", spec := "tableFair", unfollowed := true, recurses := true, apart := false }
def TableFairSaid : Prop := tableFairRow.holds Try.pinned (OpenSpec.ofChange tableFairSpec)

/-- ITS FALSE NEIGHBOUR: 'it returns false'. Refute it at one input. -/
def tableFairWrong : ChangeSpec := { name := "tableFair", fn := fun _ => fun
  | [d1, d2] => { results := [.lit (.bool false)], args := [d1, d2] }
  | _ => none }
def TableFairWrongFalsely : Prop := tableFairRow.holds Try.pinned (OpenSpec.ofChange tableFairWrong)

/-- 'commonslaw18.TableKeeps': WHATEVER THE INPUT: true; the input reads as it did. -/
def tableKeepsSpec : ChangeSpec := { name := "tableKeeps", fn := fun _ => fun
  | [d1, d2, d3, d4] => { results := [.lit (.bool true)], args := [d1, d2, d3, d4] }
  | _ => none }
def tableKeepsRow : OpenClaim := { program := "ytiomanikpboclaa", sum := "cac88a22dd5b066ff752fd8e3fa51dad338a9ba8953b7d76f002a96605def4ea", func := "commons/commonslaw18.TableKeeps", spec := "tableKeeps", unfollowed := true, recurses := true, apart := false }
def TableKeepsSaid : Prop := tableKeepsRow.holds Try.pinned (OpenSpec.ofChange tableKeepsSpec)

/-- ITS FALSE NEIGHBOUR: 'it returns false'. Refute it at one input. -/
def tableKeepsWrong : ChangeSpec := { name := "tableKeeps", fn := fun _ => fun
  | [d1, d2, d3, d4] => { results := [.lit (.bool false)], args := [d1, d2, d3, d4] }
  | _ => none }
def TableKeepsWrongFalsely : Prop := tableKeepsRow.holds Try.pinned (OpenSpec.ofChange tableKeepsWrong)

/-- 'commonslaw18.TableNone': WHATEVER THE INPUT: true; the input reads as it did. -/
def tableNoneSpec : ChangeSpec := { name := "tableNone", fn := fun _ => fun
  | [d1, d2] => { results := [.lit (.bool true)], args := [d1, d2] }
  | _ => none }
def tableNoneRow : OpenClaim := { program := "ytiomanikpboclaa", sum := "cac88a22dd5b066ff752fd8e3fa51dad338a9ba8953b7d76f002a96605def4ea", func := "commons/commonslaw18.TableNone", spec := "tableNone", unfollowed := true, recurses := true, apart := false }
def TableNoneSaid : Prop := tableNoneRow.holds Try.pinned (OpenSpec.ofChange tableNoneSpec)

/-- ITS FALSE NEIGHBOUR: 'it returns false'. Refute it at one input. -/
def tableNoneWrong : ChangeSpec := { name := "tableNone", fn := fun _ => fun
  | [d1, d2] => { results := [.lit (.bool false)], args := [d1, d2] }
  | _ => none }
def TableNoneWrongFalsely : Prop := tableNoneRow.holds Try.pinned (OpenSpec.ofChange tableNoneWrong)

/- THE SECOND FORM. 'bulk': how many values and letters a reading holds, each counted each time it is reached (what is shared counts as often as it is met; a slice's spare places count too). A statement '..UptoSaid' is the law's where the arguments, and the package variables that the reading takes, are together of bulk at most 1048576: NARROWER than '..Said'. Prove '..Said' where nothing that the law and all that it calls make is longer than what came in: it says more and counts as full. Else prove '..UptoSaid'. A law counts once. -/
mutual
def uptoBulk {H : Type} : DataW H → Nat
  | .lit (.string bytes) => bytes.length + 1
  | .lit _ => 1
  | .nil => 1
  | .ptr d => uptoBulk d + 1
  | .slice elems spare => uptoBulkAll elems + uptoBulkAll spare + 1
  | .agg parts => uptoBulkAll parts + 1
  | .iface _ d => uptoBulk d + 1
  | .map entries => uptoBulkEntries entries + 1
  | .held _ => 1
def uptoBulkAll {H : Type} : List (DataW H) → Nat
  | [] => 0
  | d :: r => uptoBulk d + uptoBulkAll r
def uptoBulkEntries {H : Type} : List (Lit × DataW H) → Nat
  | [] => 0
  | x :: r => uptoBulkEntry x + uptoBulkEntries r
def uptoBulkEntry {H : Type} : Lit × DataW H → Nat
  | (.string bytes, d) => bytes.length + uptoBulk d + 1
  | (_, d) => uptoBulk d + 1
 end
def uptoSmall : (H : Type) → List (DataW H) → Bool := fun _ ds => decide (uptoBulkAll ds ≤ 1048576)
def OpenSpec.upto (s : _root_.Go.ChangeSpec) : _root_.Go.OpenSpec := { _root_.Go.OpenSpec.ofChange s with cond := some uptoSmall }

/-- 'commonslaw18.TableUpgrades', WHERE WHAT IT READS IS OF BULK AT MOST 1048576: true; the input reads as it did. -/
def tableUpgradesUptoRow : OpenClaim := { program := "ytiomanikpboclaa", sum := "cac88a22dd5b066ff752fd8e3fa51dad338a9ba8953b7d76f002a96605def4ea", func := "commons/commonslaw18.TableUpgrades", spec := "tableUpgrades", unfollowed := true, recurses := true, apart := false, narrowed := true }
def TableUpgradesUptoSaid : Prop := tableUpgradesUptoRow.holds Try.pinned (OpenSpec.upto tableUpgradesSpec)

/-- 'commonslaw18.TableClaims', WHERE WHAT IT READS IS OF BULK AT MOST 1048576: true; the input reads as it did. -/
def tableClaimsUptoRow : OpenClaim := { program := "ytiomanikpboclaa", sum := "cac88a22dd5b066ff752fd8e3fa51dad338a9ba8953b7d76f002a96605def4ea", func := "commons/commonslaw18.TableClaims", spec := "tableClaims", unfollowed := true, recurses := true, apart := false, narrowed := true }
def TableClaimsUptoSaid : Prop := tableClaimsUptoRow.holds Try.pinned (OpenSpec.upto tableClaimsSpec)

/-- 'commonslaw18.TableFair', WHERE WHAT IT READS IS OF BULK AT MOST 1048576: true; the input reads as it did. -/
def tableFairUptoRow : OpenClaim := { program := "ytiomanikpboclaa", sum := "cac88a22dd5b066ff752fd8e3fa51dad338a9ba8953b7d76f002a96605def4ea", func := "commons/commonslaw18.TableFair", spec := "tableFair", unfollowed := true, recurses := true, apart := false, narrowed := true }
def TableFairUptoSaid : Prop := tableFairUptoRow.holds Try.pinned (OpenSpec.upto tableFairSpec)

/-- 'commonslaw18.TableKeeps', WHERE WHAT IT READS IS OF BULK AT MOST 1048576: true; the input reads as it did. -/
def tableKeepsUptoRow : OpenClaim := { program := "ytiomanikpboclaa", sum := "cac88a22dd5b066ff752fd8e3fa51dad338a9ba8953b7d76f002a96605def4ea", func := "commons/commonslaw18.TableKeeps", spec := "tableKeeps", unfollowed := true, recurses := true, apart := false, narrowed := true }
def TableKeepsUptoSaid : Prop := tableKeepsUptoRow.holds Try.pinned (OpenSpec.upto tableKeepsSpec)

/-- 'commonslaw18.TableNone', WHERE WHAT IT READS IS OF BULK AT MOST 1048576: true; the input reads as it did. -/
def tableNoneUptoRow : OpenClaim := { program := "ytiomanikpboclaa", sum := "cac88a22dd5b066ff752fd8e3fa51dad338a9ba8953b7d76f002a96605def4ea", func := "commons/commonslaw18.TableNone", spec := "tableNone", unfollowed := true, recurses := true, apart := false, narrowed := true }
def TableNoneUptoSaid : Prop := tableNoneUptoRow.holds Try.pinned (OpenSpec.upto tableNoneSpec)

end Rows
end Go.Proofs.Ytiomanikpboclaa
