/-
  No cell of these rows narrows 'for every input' (looked for: loops, veiled, ifaces, maps, wideKeys, modest, calm, conditions, laid).
  DERIVED. THE GIVEN ROWS OF THIS SEAT. 5 by the template 'for every input the law returns true; each argument reads behind the call as it read before'; 0 by the template 'total and deterministic' (their statements: YtmegjkejinfpcaaTotals.lean).
  GIVEN WITH THE SEED: the statements are not yours to turn. If you find one false, say at which input.
  Laid BY PROGRAM, IN A SANDBOX (cutbox-rows.mjs): the forced cells as the released guide's own fill.sh prints them over the translation cf341e33371109c9… (all of the seat's roots in one cut). By AI agents, Wed Nov 11 2026. No macro, syntax, notation, axiom, sorry.
-/
import Derived.Test.YtmegjkejinfpcaaChecked
import GoSem.Claim
import GoSem.ClaimJoined
import GoSem.ClaimMapViews
import Derived.JoinedTies
import Derived.KernelRfl
namespace Go.Proofs.Ytmegjkejinfpcaa
/- THE CELL 'sum', in the pinned program and in every row, IS THE sha256 OF THE DUMP (.gsa) THAT YtmegjkejinfpcaaProg.lean LOADS. Nothing in Lean hashes anything: it is a label: what it is worth is what the hold of that sum in a sandbox is worth. -/
noncomputable def Try.pinned : Pinned := { name := "ytmegjkejinfpcaa", sum := "cf341e33371109c9525592ba2f78aa9b223caa17014c77f58d07fcb7d65da0fa", checked := Try.checked }
namespace Rows
def none {H : Type} : Left H := { results := [], args := [] }

/-- 'commonslaw17.ModeNorms': WHATEVER THE INPUT: true; the input reads as it did. -/
def modeNormsSpec : ChangeSpec := { name := "modeNorms", fn := fun _ => fun
  | [d1, d2] => { results := [.lit (.bool true)], args := [d1, d2] }
  | _ => none }
def modeNormsRow : OpenClaim := { program := "ytmegjkejinfpcaa", sum := "cf341e33371109c9525592ba2f78aa9b223caa17014c77f58d07fcb7d65da0fa", func := "commons/commonslaw17.ModeNorms", spec := "modeNorms", unfollowed := true, recurses := true, apart := false }
def ModeNormsSaid : Prop := modeNormsRow.holds Try.pinned (OpenSpec.ofChange modeNormsSpec)

/-- ITS FALSE NEIGHBOUR: 'it returns false'. Refute it at one input. -/
def modeNormsWrong : ChangeSpec := { name := "modeNorms", fn := fun _ => fun
  | [d1, d2] => { results := [.lit (.bool false)], args := [d1, d2] }
  | _ => none }
def ModeNormsWrongFalsely : Prop := modeNormsRow.holds Try.pinned (OpenSpec.ofChange modeNormsWrong)

/-- 'commonslaw17.ModeTells': WHATEVER THE INPUT: true; the input reads as it did. -/
def modeTellsSpec : ChangeSpec := { name := "modeTells", fn := fun _ => fun
  | [d1, d2, d3] => { results := [.lit (.bool true)], args := [d1, d2, d3] }
  | _ => none }
def modeTellsRow : OpenClaim := { program := "ytmegjkejinfpcaa", sum := "cf341e33371109c9525592ba2f78aa9b223caa17014c77f58d07fcb7d65da0fa", func := "commons/commonslaw17.ModeTells", spec := "modeTells", unfollowed := true, recurses := true, apart := false }
def ModeTellsSaid : Prop := modeTellsRow.holds Try.pinned (OpenSpec.ofChange modeTellsSpec)

/-- ITS FALSE NEIGHBOUR: 'it returns false'. Refute it at one input. -/
def modeTellsWrong : ChangeSpec := { name := "modeTells", fn := fun _ => fun
  | [d1, d2, d3] => { results := [.lit (.bool false)], args := [d1, d2, d3] }
  | _ => none }
def ModeTellsWrongFalsely : Prop := modeTellsRow.holds Try.pinned (OpenSpec.ofChange modeTellsWrong)

/-- 'commonslaw17.ModeOrder': WHATEVER THE INPUT: true; the input reads as it did. -/
def modeOrderSpec : ChangeSpec := { name := "modeOrder", fn := fun _ => fun
  | [d1, d2, d3] => { results := [.lit (.bool true)], args := [d1, d2, d3] }
  | _ => none }
def modeOrderRow : OpenClaim := { program := "ytmegjkejinfpcaa", sum := "cf341e33371109c9525592ba2f78aa9b223caa17014c77f58d07fcb7d65da0fa", func := "commons/commonslaw17.ModeOrder", spec := "modeOrder", unfollowed := true, recurses := true, apart := false }
def ModeOrderSaid : Prop := modeOrderRow.holds Try.pinned (OpenSpec.ofChange modeOrderSpec)

/-- ITS FALSE NEIGHBOUR: 'it returns false'. Refute it at one input. -/
def modeOrderWrong : ChangeSpec := { name := "modeOrder", fn := fun _ => fun
  | [d1, d2, d3] => { results := [.lit (.bool false)], args := [d1, d2, d3] }
  | _ => none }
def ModeOrderWrongFalsely : Prop := modeOrderRow.holds Try.pinned (OpenSpec.ofChange modeOrderWrong)

/-- 'commonslaw17.ModeNone': WHATEVER THE INPUT: true; the input reads as it did. -/
def modeNoneSpec : ChangeSpec := { name := "modeNone", fn := fun _ => fun
  | [d] => { results := [.lit (.bool true)], args := [d] }
  | _ => none }
def modeNoneRow : OpenClaim := { program := "ytmegjkejinfpcaa", sum := "cf341e33371109c9525592ba2f78aa9b223caa17014c77f58d07fcb7d65da0fa", func := "commons/commonslaw17.ModeNone", spec := "modeNone", unfollowed := true, recurses := true, apart := false }
def ModeNoneSaid : Prop := modeNoneRow.holds Try.pinned (OpenSpec.ofChange modeNoneSpec)

/-- ITS FALSE NEIGHBOUR: 'it returns false'. Refute it at one input. -/
def modeNoneWrong : ChangeSpec := { name := "modeNone", fn := fun _ => fun
  | [d] => { results := [.lit (.bool false)], args := [d] }
  | _ => none }
def ModeNoneWrongFalsely : Prop := modeNoneRow.holds Try.pinned (OpenSpec.ofChange modeNoneWrong)

/-- 'commonslaw17.ModeGives': WHATEVER THE INPUT: true; the input reads as it did. -/
def modeGivesSpec : ChangeSpec := { name := "modeGives", fn := fun _ => fun
  | [d1, d2] => { results := [.lit (.bool true)], args := [d1, d2] }
  | _ => none }
def modeGivesRow : OpenClaim := { program := "ytmegjkejinfpcaa", sum := "cf341e33371109c9525592ba2f78aa9b223caa17014c77f58d07fcb7d65da0fa", func := "commons/commonslaw17.ModeGives", spec := "modeGives", unfollowed := true, recurses := true, apart := false }
def ModeGivesSaid : Prop := modeGivesRow.holds Try.pinned (OpenSpec.ofChange modeGivesSpec)

/-- ITS FALSE NEIGHBOUR: 'it returns false'. Refute it at one input. -/
def modeGivesWrong : ChangeSpec := { name := "modeGives", fn := fun _ => fun
  | [d1, d2] => { results := [.lit (.bool false)], args := [d1, d2] }
  | _ => none }
def ModeGivesWrongFalsely : Prop := modeGivesRow.holds Try.pinned (OpenSpec.ofChange modeGivesWrong)

/- THE SECOND FORM. 'bulk': how many values and letters a reading holds, each counted each time it is reached (what is shared counts as often as it is met; a slice's spare places count too). A statement '..UptoSaid' is the law's where the arguments, and the package variables that the reading takes, are together of bulk at most 1048576: NARROWER than '..Said'. Prove '..Said' where nothing that the law and all that it calls make is longer than what came in: it says more and counts as full. Else prove '..UptoSaid'. A law counts once. -/
mutual
def uptoBulk {H : Type} : DataW H → Nat
  | .lit (.string bytes) => bytes.length + 1
  | .lit _ => 1
  | .nil => 1
  | .ptr d => uptoBulk d + 1
  | .slice elems spare => uptoBulkAll elems + uptoBulkAll spare + 1
  | .agg parts => uptoBulkAll parts + 1
  | .iface _ d => uptoBulk d + 1
  | .map entries => uptoBulkEntries entries + 1
  | .held _ => 1
def uptoBulkAll {H : Type} : List (DataW H) → Nat
  | [] => 0
  | d :: r => uptoBulk d + uptoBulkAll r
def uptoBulkEntries {H : Type} : List (Lit × DataW H) → Nat
  | [] => 0
  | x :: r => uptoBulkEntry x + uptoBulkEntries r
def uptoBulkEntry {H : Type} : Lit × DataW H → Nat
  | (.string bytes, d) => bytes.length + uptoBulk d + 1
  | (_, d) => uptoBulk d + 1
 end
def uptoSmall : (H : Type) → List (DataW H) → Bool := fun _ ds => decide (uptoBulkAll ds ≤ 1048576)
def OpenSpec.upto (s : _root_.Go.ChangeSpec) : _root_.Go.OpenSpec := { _root_.Go.OpenSpec.ofChange s with cond := some uptoSmall }

/-- 'commonslaw17.ModeNorms', WHERE WHAT IT READS IS OF BULK AT MOST 1048576: true; the input reads as it did. -/
def modeNormsUptoRow : OpenClaim := { program := "ytmegjkejinfpcaa", sum := "cf341e33371109c9525592ba2f78aa9b223caa17014c77f58d07fcb7d65da0fa", func := "commons/commonslaw17.ModeNorms", spec := "modeNorms", unfollowed := true, recurses := true, apart := false, narrowed := true }
def ModeNormsUptoSaid : Prop := modeNormsUptoRow.holds Try.pinned (OpenSpec.upto modeNormsSpec)

/-- 'commonslaw17.ModeTells', WHERE WHAT IT READS IS OF BULK AT MOST 1048576: true; the input reads as it did. -/
def modeTellsUptoRow : OpenClaim := { program := "ytmegjkejinfpcaa", sum := "cf341e33371109c9525592ba2f78aa9b223caa17014c77f58d07fcb7d65da0fa", func := "commons/commonslaw17.ModeTells", spec := "modeTells", unfollowed := true, recurses := true, apart := false, narrowed := true }
def ModeTellsUptoSaid : Prop := modeTellsUptoRow.holds Try.pinned (OpenSpec.upto modeTellsSpec)

/-- 'commonslaw17.ModeOrder', WHERE WHAT IT READS IS OF BULK AT MOST 1048576: true; the input reads as it did. -/
def modeOrderUptoRow : OpenClaim := { program := "ytmegjkejinfpcaa", sum := "cf341e33371109c9525592ba2f78aa9b223caa17014c77f58d07fcb7d65da0fa", func := "commons/commonslaw17.ModeOrder", spec := "modeOrder", unfollowed := true, recurses := true, apart := false, narrowed := true }
def ModeOrderUptoSaid : Prop := modeOrderUptoRow.holds Try.pinned (OpenSpec.upto modeOrderSpec)

/-- 'commonslaw17.ModeNone', WHERE WHAT IT READS IS OF BULK AT MOST 1048576: true; the input reads as it did. -/
def modeNoneUptoRow : OpenClaim := { program := "ytmegjkejinfpcaa", sum := "cf341e33371109c9525592ba2f78aa9b223caa17014c77f58d07fcb7d65da0fa", func := "commons/commonslaw17.ModeNone", spec := "modeNone", unfollowed := true, recurses := true, apart := false, narrowed := true }
def ModeNoneUptoSaid : Prop := modeNoneUptoRow.holds Try.pinned (OpenSpec.upto modeNoneSpec)

/-- 'commonslaw17.ModeGives', WHERE WHAT IT READS IS OF BULK AT MOST 1048576: true; the input reads as it did. -/
def modeGivesUptoRow : OpenClaim := { program := "ytmegjkejinfpcaa", sum := "cf341e33371109c9525592ba2f78aa9b223caa17014c77f58d07fcb7d65da0fa", func := "commons/commonslaw17.ModeGives", spec := "modeGives", unfollowed := true, recurses := true, apart := false, narrowed := true }
def ModeGivesUptoSaid : Prop := modeGivesUptoRow.holds Try.pinned (OpenSpec.upto modeGivesSpec)

end Rows
end Go.Proofs.Ytmegjkejinfpcaa
