/-
  No cell of these rows narrows 'for every input' (looked for: loops, veiled, ifaces, maps, wideKeys, modest, calm, conditions, laid).
  DERIVED. THE GIVEN ROWS OF THIS SEAT. 5 by the template 'for every input the law returns true; each argument reads behind the call as it read before'; 0 by the template 'total and deterministic' (their statements: YtndjohbbaplekaaGreatTotals.lean).
  GIVEN WITH THE SEED: the statements are not yours to turn. If you find one false, say at which input.
  Laid BY PROGRAM, IN A SANDBOX (cutbox-rows.mjs): the forced cells as the released guide's own fill.sh prints them over the translation cc30ce4da321ea5f… (all of the seat's roots in one cut). By AI agents, Wed Nov 11 2026. No macro, syntax, notation, axiom, sorry.
-/
import Derived.Test.YtndjohbbaplekaaGreatChecked
import GoSem.Claim
import GoSem.ClaimJoined
import GoSem.ClaimMapViews
import Derived.JoinedTies
import Derived.KernelRfl
namespace Go.Proofs.YtndjohbbaplekaaGreat
/- THE CELL 'sum', in the pinned program and in every row, IS THE sha256 OF THE DUMP (.gsa) THAT YtndjohbbaplekaaGreatProg.lean LOADS. Nothing in Lean hashes anything: it is a label: what it is worth is what the hold of that sum in a sandbox is worth. -/
noncomputable def Tryz.pinned : Pinned := { name := "ytndjohbbaplekaagreat", sum := "cc30ce4da321ea5f7d808e50bfad54dd7026ac0b32142cc20af49f78ef76fde6", checked := Tryz.checked }
namespace Rows
def none {H : Type} : Left H := { results := [], args := [] }

/-- 'commonslaw4.HeapPlays': WHATEVER THE INPUT: true; the input reads as it did. -/
def heapPlaysSpec : ChangeSpec := { name := "heapPlays", fn := fun _ => fun
  | [d1, d2] => { results := [.lit (.bool true)], args := [d1, d2] }
  | _ => none }
def heapPlaysRow : OpenClaim := { program := "ytndjohbbaplekaagreat", sum := "cc30ce4da321ea5f7d808e50bfad54dd7026ac0b32142cc20af49f78ef76fde6", func := "commons/commonslaw4.HeapPlays", spec := "heapPlays", unfollowed := true, recurses := true, apart := false }
def HeapPlaysSaid : Prop := heapPlaysRow.holds Tryz.pinned (OpenSpec.ofChange heapPlaysSpec)

/-- ITS FALSE NEIGHBOUR: 'it returns false'. Refute it at one input. -/
def heapPlaysWrong : ChangeSpec := { name := "heapPlays", fn := fun _ => fun
  | [d1, d2] => { results := [.lit (.bool false)], args := [d1, d2] }
  | _ => none }
def HeapPlaysWrongFalsely : Prop := heapPlaysRow.holds Tryz.pinned (OpenSpec.ofChange heapPlaysWrong)

/-- 'commonslaw6.SpanTells': WHATEVER THE INPUT: true; the input reads as it did. -/
def spanTellsSpec : ChangeSpec := { name := "spanTells", fn := fun _ => fun
  | [d1, d2, d3, d4] => { results := [.lit (.bool true)], args := [d1, d2, d3, d4] }
  | _ => none }
def spanTellsRow : OpenClaim := { program := "ytndjohbbaplekaagreat", sum := "cc30ce4da321ea5f7d808e50bfad54dd7026ac0b32142cc20af49f78ef76fde6", func := "commons/commonslaw6.SpanTells", spec := "spanTells", unfollowed := true, recurses := true, apart := false }
def SpanTellsSaid : Prop := spanTellsRow.holds Tryz.pinned (OpenSpec.ofChange spanTellsSpec)

/-- ITS FALSE NEIGHBOUR: 'it returns false'. Refute it at one input. -/
def spanTellsWrong : ChangeSpec := { name := "spanTells", fn := fun _ => fun
  | [d1, d2, d3, d4] => { results := [.lit (.bool false)], args := [d1, d2, d3, d4] }
  | _ => none }
def SpanTellsWrongFalsely : Prop := spanTellsRow.holds Tryz.pinned (OpenSpec.ofChange spanTellsWrong)

/-- 'commonslaw7.ImapPlays': WHATEVER THE INPUT: true; the input reads as it did. -/
def imapPlaysSpec : ChangeSpec := { name := "imapPlays", fn := fun _ => fun
  | [d1, d2, d3] => { results := [.lit (.bool true)], args := [d1, d2, d3] }
  | _ => none }
def imapPlaysRow : OpenClaim := { program := "ytndjohbbaplekaagreat", sum := "cc30ce4da321ea5f7d808e50bfad54dd7026ac0b32142cc20af49f78ef76fde6", func := "commons/commonslaw7.ImapPlays", spec := "imapPlays", unfollowed := true, recurses := true, apart := false }
def ImapPlaysSaid : Prop := imapPlaysRow.holds Tryz.pinned (OpenSpec.ofChange imapPlaysSpec)

/-- ITS FALSE NEIGHBOUR: 'it returns false'. Refute it at one input. -/
def imapPlaysWrong : ChangeSpec := { name := "imapPlays", fn := fun _ => fun
  | [d1, d2, d3] => { results := [.lit (.bool false)], args := [d1, d2, d3] }
  | _ => none }
def ImapPlaysWrongFalsely : Prop := imapPlaysRow.holds Tryz.pinned (OpenSpec.ofChange imapPlaysWrong)

/-- 'commonslaw17.ModeNeeds': WHATEVER THE INPUT: true; the input reads as it did. -/
def modeNeedsSpec : ChangeSpec := { name := "modeNeeds", fn := fun _ => fun
  | [d1, d2] => { results := [.lit (.bool true)], args := [d1, d2] }
  | _ => none }
def modeNeedsRow : OpenClaim := { program := "ytndjohbbaplekaagreat", sum := "cc30ce4da321ea5f7d808e50bfad54dd7026ac0b32142cc20af49f78ef76fde6", func := "commons/commonslaw17.ModeNeeds", spec := "modeNeeds", unfollowed := true, recurses := true, apart := false }
def ModeNeedsSaid : Prop := modeNeedsRow.holds Tryz.pinned (OpenSpec.ofChange modeNeedsSpec)

/-- ITS FALSE NEIGHBOUR: 'it returns false'. Refute it at one input. -/
def modeNeedsWrong : ChangeSpec := { name := "modeNeeds", fn := fun _ => fun
  | [d1, d2] => { results := [.lit (.bool false)], args := [d1, d2] }
  | _ => none }
def ModeNeedsWrongFalsely : Prop := modeNeedsRow.holds Tryz.pinned (OpenSpec.ofChange modeNeedsWrong)

/-- 'commonslaw24.TxPlays': WHATEVER THE INPUT: true; the input reads as it did. -/
def txPlaysSpec : ChangeSpec := { name := "txPlays", fn := fun _ => fun
  | [d1, d2, d3, d4] => { results := [.lit (.bool true)], args := [d1, d2, d3, d4] }
  | _ => none }
def txPlaysRow : OpenClaim := { program := "ytndjohbbaplekaagreat", sum := "cc30ce4da321ea5f7d808e50bfad54dd7026ac0b32142cc20af49f78ef76fde6", func := "commons/commonslaw24.TxPlays", spec := "txPlays", inPlace := ["internal/abi.NoEscape", "internal/bytealg.MakeNoZero"], unfollowed := true, recurses := true, apart := false }
def TxPlaysSaid : Prop := txPlaysRow.holds Tryz.pinned (OpenSpec.ofChange txPlaysSpec)

/-- ITS FALSE NEIGHBOUR: 'it returns false'. Refute it at one input. -/
def txPlaysWrong : ChangeSpec := { name := "txPlays", fn := fun _ => fun
  | [d1, d2, d3, d4] => { results := [.lit (.bool false)], args := [d1, d2, d3, d4] }
  | _ => none }
def TxPlaysWrongFalsely : Prop := txPlaysRow.holds Tryz.pinned (OpenSpec.ofChange txPlaysWrong)

/- THE SECOND FORM. 'bulk': how many values and letters a reading holds, each counted each time it is reached (what is shared counts as often as it is met; a slice's spare places count too). A statement '..UptoSaid' is the law's where the arguments, and the package variables that the reading takes, are together of bulk at most 1048576: NARROWER than '..Said'. Prove '..Said' where nothing that the law and all that it calls make is longer than what came in: it says more and counts as full. Else prove '..UptoSaid'. A law counts once. -/
mutual
def uptoBulk {H : Type} : DataW H → Nat
  | .lit (.string bytes) => bytes.length + 1
  | .lit _ => 1
  | .nil => 1
  | .ptr d => uptoBulk d + 1
  | .slice elems spare => uptoBulkAll elems + uptoBulkAll spare + 1
  | .agg parts => uptoBulkAll parts + 1
  | .iface _ d => uptoBulk d + 1
  | .map entries => uptoBulkEntries entries + 1
  | .held _ => 1
def uptoBulkAll {H : Type} : List (DataW H) → Nat
  | [] => 0
  | d :: r => uptoBulk d + uptoBulkAll r
def uptoBulkEntries {H : Type} : List (Lit × DataW H) → Nat
  | [] => 0
  | x :: r => uptoBulkEntry x + uptoBulkEntries r
def uptoBulkEntry {H : Type} : Lit × DataW H → Nat
  | (.string bytes, d) => bytes.length + uptoBulk d + 1
  | (_, d) => uptoBulk d + 1
 end
def uptoSmall : (H : Type) → List (DataW H) → Bool := fun _ ds => decide (uptoBulkAll ds ≤ 1048576)
def OpenSpec.upto (s : _root_.Go.ChangeSpec) : _root_.Go.OpenSpec := { _root_.Go.OpenSpec.ofChange s with cond := some uptoSmall }

/-- 'commonslaw4.HeapPlays', WHERE WHAT IT READS IS OF BULK AT MOST 1048576: true; the input reads as it did. -/
def heapPlaysUptoRow : OpenClaim := { program := "ytndjohbbaplekaagreat", sum := "cc30ce4da321ea5f7d808e50bfad54dd7026ac0b32142cc20af49f78ef76fde6", func := "commons/commonslaw4.HeapPlays", spec := "heapPlays", unfollowed := true, recurses := true, apart := false, narrowed := true }
def HeapPlaysUptoSaid : Prop := heapPlaysUptoRow.holds Tryz.pinned (OpenSpec.upto heapPlaysSpec)

/-- 'commonslaw6.SpanTells', WHERE WHAT IT READS IS OF BULK AT MOST 1048576: true; the input reads as it did. -/
def spanTellsUptoRow : OpenClaim := { program := "ytndjohbbaplekaagreat", sum := "cc30ce4da321ea5f7d808e50bfad54dd7026ac0b32142cc20af49f78ef76fde6", func := "commons/commonslaw6.SpanTells", spec := "spanTells", unfollowed := true, recurses := true, apart := false, narrowed := true }
def SpanTellsUptoSaid : Prop := spanTellsUptoRow.holds Tryz.pinned (OpenSpec.upto spanTellsSpec)

/-- 'commonslaw7.ImapPlays', WHERE WHAT IT READS IS OF BULK AT MOST 1048576: true; the input reads as it did. -/
def imapPlaysUptoRow : OpenClaim := { program := "ytndjohbbaplekaagreat", sum := "cc30ce4da321ea5f7d808e50bfad54dd7026ac0b32142cc20af49f78ef76fde6", func := "commons/commonslaw7.ImapPlays", spec := "imapPlays", unfollowed := true, recurses := true, apart := false, narrowed := true }
def ImapPlaysUptoSaid : Prop := imapPlaysUptoRow.holds Tryz.pinned (OpenSpec.upto imapPlaysSpec)

/-- 'commonslaw17.ModeNeeds', WHERE WHAT IT READS IS OF BULK AT MOST 1048576: true; the input reads as it did. -/
def modeNeedsUptoRow : OpenClaim := { program := "ytndjohbbaplekaagreat", sum := "cc30ce4da321ea5f7d808e50bfad54dd7026ac0b32142cc20af49f78ef76fde6", func := "commons/commonslaw17.ModeNeeds", spec := "modeNeeds", unfollowed := true, recurses := true, apart := false, narrowed := true }
def ModeNeedsUptoSaid : Prop := modeNeedsUptoRow.holds Tryz.pinned (OpenSpec.upto modeNeedsSpec)

/-- 'commonslaw24.TxPlays', WHERE WHAT IT READS IS OF BULK AT MOST 1048576: true; the input reads as it did. -/
def txPlaysUptoRow : OpenClaim := { program := "ytndjohbbaplekaagreat", sum := "cc30ce4da321ea5f7d808e50bfad54dd7026ac0b32142cc20af49f78ef76fde6", func := "commons/commonslaw24.TxPlays", spec := "txPlays", inPlace := ["internal/abi.NoEscape", "internal/bytealg.MakeNoZero"], unfollowed := true, recurses := true, apart := false, narrowed := true }
def TxPlaysUptoSaid : Prop := txPlaysUptoRow.holds Tryz.pinned (OpenSpec.upto txPlaysSpec)

end Rows
end Go.Proofs.YtndjohbbaplekaaGreat
