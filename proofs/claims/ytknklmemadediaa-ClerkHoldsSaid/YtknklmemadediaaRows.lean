/-
  No cell of these rows narrows 'for every input' (looked for: loops, veiled, ifaces, maps, wideKeys, modest, calm, conditions, laid).
  DERIVED. THE GIVEN ROWS OF THIS SEAT. 6 by the template 'for every input the law returns true; each argument reads behind the call as it read before'; 0 by the template 'total and deterministic' (their statements: YtknklmemadediaaTotals.lean).
  GIVEN WITH THE SEED: the statements are not yours to turn. If you find one false, say at which input.
  Laid BY PROGRAM, IN A SANDBOX (cutbox-rows.mjs): the forced cells as the released guide's own fill.sh prints them over the translation ffbde37323455452… (all of the seat's roots in one cut). By AI agents, Wed Nov 11 2026. No macro, syntax, notation, axiom, sorry.
-/
import Derived.Test.YtknklmemadediaaChecked
import GoSem.Claim
import GoSem.ClaimJoined
import GoSem.ClaimMapViews
import Derived.JoinedTies
import Derived.KernelRfl
namespace Go.Proofs.Ytknklmemadediaa
/- THE CELL 'sum', in the pinned program and in every row, IS THE sha256 OF THE DUMP (.gsa) THAT YtknklmemadediaaProg.lean LOADS. Nothing in Lean hashes anything: it is a label: what it is worth is what the hold of that sum in a sandbox is worth. -/
noncomputable def Try.pinned : Pinned := { name := "ytknklmemadediaa", sum := "ffbde373234554525c4d864851171d29753b197478f0e6d34600371bf0627fdc", checked := Try.checked }
namespace Rows
def none {H : Type} : Left H := { results := [], args := [] }

/-- 'commonslaw22.ClerkQuits': WHATEVER THE INPUT: true; the input reads as it did. -/
def clerkQuitsSpec : ChangeSpec := { name := "clerkQuits", fn := fun _ => fun
  | [d1, d2, d3] => { results := [.lit (.bool true)], args := [d1, d2, d3] }
  | _ => none }
def clerkQuitsRow : OpenClaim := { program := "ytknklmemadediaa", sum := "ffbde373234554525c4d864851171d29753b197478f0e6d34600371bf0627fdc", func := "commons/commonslaw22.ClerkQuits", spec := "clerkQuits", unfollowed := true, recurses := true, apart := false }
def ClerkQuitsSaid : Prop := clerkQuitsRow.holds Try.pinned (OpenSpec.ofChange clerkQuitsSpec)

/-- ITS FALSE NEIGHBOUR: 'it returns false'. Refute it at one input. -/
def clerkQuitsWrong : ChangeSpec := { name := "clerkQuits", fn := fun _ => fun
  | [d1, d2, d3] => { results := [.lit (.bool false)], args := [d1, d2, d3] }
  | _ => none }
def ClerkQuitsWrongFalsely : Prop := clerkQuitsRow.holds Try.pinned (OpenSpec.ofChange clerkQuitsWrong)

/-- 'commonslaw22.ClerkOrder': WHATEVER THE INPUT: true; the input reads as it did. -/
def clerkOrderSpec : ChangeSpec := { name := "clerkOrder", fn := fun _ => fun
  | [d] => { results := [.lit (.bool true)], args := [d] }
  | _ => none }
def clerkOrderRow : OpenClaim := { program := "ytknklmemadediaa", sum := "ffbde373234554525c4d864851171d29753b197478f0e6d34600371bf0627fdc", func := "commons/commonslaw22.ClerkOrder", spec := "clerkOrder", unfollowed := true, recurses := true, apart := false }
def ClerkOrderSaid : Prop := clerkOrderRow.holds Try.pinned (OpenSpec.ofChange clerkOrderSpec)

/-- ITS FALSE NEIGHBOUR: 'it returns false'. Refute it at one input. -/
def clerkOrderWrong : ChangeSpec := { name := "clerkOrder", fn := fun _ => fun
  | [d] => { results := [.lit (.bool false)], args := [d] }
  | _ => none }
def ClerkOrderWrongFalsely : Prop := clerkOrderRow.holds Try.pinned (OpenSpec.ofChange clerkOrderWrong)

/-- 'commonslaw22.ClerkGives': WHATEVER THE INPUT: true; the input reads as it did. -/
def clerkGivesSpec : ChangeSpec := { name := "clerkGives", fn := fun _ => fun
  | [d1, d2, d3, d4] => { results := [.lit (.bool true)], args := [d1, d2, d3, d4] }
  | _ => none }
def clerkGivesRow : OpenClaim := { program := "ytknklmemadediaa", sum := "ffbde373234554525c4d864851171d29753b197478f0e6d34600371bf0627fdc", func := "commons/commonslaw22.ClerkGives", spec := "clerkGives", unfollowed := true, recurses := true, apart := false }
def ClerkGivesSaid : Prop := clerkGivesRow.holds Try.pinned (OpenSpec.ofChange clerkGivesSpec)

/-- ITS FALSE NEIGHBOUR: 'it returns false'. Refute it at one input. -/
def clerkGivesWrong : ChangeSpec := { name := "clerkGives", fn := fun _ => fun
  | [d1, d2, d3, d4] => { results := [.lit (.bool false)], args := [d1, d2, d3, d4] }
  | _ => none }
def ClerkGivesWrongFalsely : Prop := clerkGivesRow.holds Try.pinned (OpenSpec.ofChange clerkGivesWrong)

/-- 'commonslaw22.ClerkHolds': WHATEVER THE INPUT: true; the input reads as it did. -/
def clerkHoldsSpec : ChangeSpec := { name := "clerkHolds", fn := fun _ => fun
  | [d1, d2] => { results := [.lit (.bool true)], args := [d1, d2] }
  | _ => none }
def clerkHoldsRow : OpenClaim := { program := "ytknklmemadediaa", sum := "ffbde373234554525c4d864851171d29753b197478f0e6d34600371bf0627fdc", func := "commons/commonslaw22.ClerkHolds", spec := "clerkHolds", unfollowed := true, recurses := true, apart := false }
def ClerkHoldsSaid : Prop := clerkHoldsRow.holds Try.pinned (OpenSpec.ofChange clerkHoldsSpec)

/-- ITS FALSE NEIGHBOUR: 'it returns false'. Refute it at one input. -/
def clerkHoldsWrong : ChangeSpec := { name := "clerkHolds", fn := fun _ => fun
  | [d1, d2] => { results := [.lit (.bool false)], args := [d1, d2] }
  | _ => none }
def ClerkHoldsWrongFalsely : Prop := clerkHoldsRow.holds Try.pinned (OpenSpec.ofChange clerkHoldsWrong)

/-- 'commonslaw22.ClerkUses': WHATEVER THE INPUT: true; the input reads as it did. -/
def clerkUsesSpec : ChangeSpec := { name := "clerkUses", fn := fun _ => fun
  | [d1, d2] => { results := [.lit (.bool true)], args := [d1, d2] }
  | _ => none }
def clerkUsesRow : OpenClaim := { program := "ytknklmemadediaa", sum := "ffbde373234554525c4d864851171d29753b197478f0e6d34600371bf0627fdc", func := "commons/commonslaw22.ClerkUses", spec := "clerkUses", unfollowed := true, recurses := true, apart := false }
def ClerkUsesSaid : Prop := clerkUsesRow.holds Try.pinned (OpenSpec.ofChange clerkUsesSpec)

/-- ITS FALSE NEIGHBOUR: 'it returns false'. Refute it at one input. -/
def clerkUsesWrong : ChangeSpec := { name := "clerkUses", fn := fun _ => fun
  | [d1, d2] => { results := [.lit (.bool false)], args := [d1, d2] }
  | _ => none }
def ClerkUsesWrongFalsely : Prop := clerkUsesRow.holds Try.pinned (OpenSpec.ofChange clerkUsesWrong)

/-- 'commonslaw22.ClerkNone': WHATEVER THE INPUT: true; the input reads as it did. -/
def clerkNoneSpec : ChangeSpec := { name := "clerkNone", fn := fun _ => fun
  | [d1, d2] => { results := [.lit (.bool true)], args := [d1, d2] }
  | _ => none }
def clerkNoneRow : OpenClaim := { program := "ytknklmemadediaa", sum := "ffbde373234554525c4d864851171d29753b197478f0e6d34600371bf0627fdc", func := "commons/commonslaw22.ClerkNone", spec := "clerkNone", unfollowed := true, recurses := true, apart := false }
def ClerkNoneSaid : Prop := clerkNoneRow.holds Try.pinned (OpenSpec.ofChange clerkNoneSpec)

/-- ITS FALSE NEIGHBOUR: 'it returns false'. Refute it at one input. -/
def clerkNoneWrong : ChangeSpec := { name := "clerkNone", fn := fun _ => fun
  | [d1, d2] => { results := [.lit (.bool false)], args := [d1, d2] }
  | _ => none }
def ClerkNoneWrongFalsely : Prop := clerkNoneRow.holds Try.pinned (OpenSpec.ofChange clerkNoneWrong)

/- THE SECOND FORM. 'bulk': how many values and letters a reading holds, each counted each time it is reached (what is shared counts as often as it is met; a slice's spare places count too). A statement '..UptoSaid' is the law's where the arguments, and the package variables that the reading takes, are together of bulk at most 1048576: NARROWER than '..Said'. Prove '..Said' where nothing that the law and all that it calls make is longer than what came in: it says more and counts as full. Else prove '..UptoSaid'. A law counts once. -/
mutual
def uptoBulk {H : Type} : DataW H → Nat
  | .lit (.string bytes) => bytes.length + 1
  | .lit _ => 1
  | .nil => 1
  | .ptr d => uptoBulk d + 1
  | .slice elems spare => uptoBulkAll elems + uptoBulkAll spare + 1
  | .agg parts => uptoBulkAll parts + 1
  | .iface _ d => uptoBulk d + 1
  | .map entries => uptoBulkEntries entries + 1
  | .held _ => 1
def uptoBulkAll {H : Type} : List (DataW H) → Nat
  | [] => 0
  | d :: r => uptoBulk d + uptoBulkAll r
def uptoBulkEntries {H : Type} : List (Lit × DataW H) → Nat
  | [] => 0
  | x :: r => uptoBulkEntry x + uptoBulkEntries r
def uptoBulkEntry {H : Type} : Lit × DataW H → Nat
  | (.string bytes, d) => bytes.length + uptoBulk d + 1
  | (_, d) => uptoBulk d + 1
 end
def uptoSmall : (H : Type) → List (DataW H) → Bool := fun _ ds => decide (uptoBulkAll ds ≤ 1048576)
def OpenSpec.upto (s : _root_.Go.ChangeSpec) : _root_.Go.OpenSpec := { _root_.Go.OpenSpec.ofChange s with cond := some uptoSmall }

/-- 'commonslaw22.ClerkQuits', WHERE WHAT IT READS IS OF BULK AT MOST 1048576: true; the input reads as it did. -/
def clerkQuitsUptoRow : OpenClaim := { program := "ytknklmemadediaa", sum := "ffbde373234554525c4d864851171d29753b197478f0e6d34600371bf0627fdc", func := "commons/commonslaw22.ClerkQuits", spec := "clerkQuits", unfollowed := true, recurses := true, apart := false, narrowed := true }
def ClerkQuitsUptoSaid : Prop := clerkQuitsUptoRow.holds Try.pinned (OpenSpec.upto clerkQuitsSpec)

/-- 'commonslaw22.ClerkOrder', WHERE WHAT IT READS IS OF BULK AT MOST 1048576: true; the input reads as it did. -/
def clerkOrderUptoRow : OpenClaim := { program := "ytknklmemadediaa", sum := "ffbde373234554525c4d864851171d29753b197478f0e6d34600371bf0627fdc", func := "commons/commonslaw22.ClerkOrder", spec := "clerkOrder", unfollowed := true, recurses := true, apart := false, narrowed := true }
def ClerkOrderUptoSaid : Prop := clerkOrderUptoRow.holds Try.pinned (OpenSpec.upto clerkOrderSpec)

/-- 'commonslaw22.ClerkGives', WHERE WHAT IT READS IS OF BULK AT MOST 1048576: true; the input reads as it did. -/
def clerkGivesUptoRow : OpenClaim := { program := "ytknklmemadediaa", sum := "ffbde373234554525c4d864851171d29753b197478f0e6d34600371bf0627fdc", func := "commons/commonslaw22.ClerkGives", spec := "clerkGives", unfollowed := true, recurses := true, apart := false, narrowed := true }
def ClerkGivesUptoSaid : Prop := clerkGivesUptoRow.holds Try.pinned (OpenSpec.upto clerkGivesSpec)

/-- 'commonslaw22.ClerkHolds', WHERE WHAT IT READS IS OF BULK AT MOST 1048576: true; the input reads as it did. -/
def clerkHoldsUptoRow : OpenClaim := { program := "ytknklmemadediaa", sum := "ffbde373234554525c4d864851171d29753b197478f0e6d34600371bf0627fdc", func := "commons/commonslaw22.ClerkHolds", spec := "clerkHolds", unfollowed := true, recurses := true, apart := false, narrowed := true }
def ClerkHoldsUptoSaid : Prop := clerkHoldsUptoRow.holds Try.pinned (OpenSpec.upto clerkHoldsSpec)

/-- 'commonslaw22.ClerkUses', WHERE WHAT IT READS IS OF BULK AT MOST 1048576: true; the input reads as it did. -/
def clerkUsesUptoRow : OpenClaim := { program := "ytknklmemadediaa", sum := "ffbde373234554525c4d864851171d29753b197478f0e6d34600371bf0627fdc", func := "commons/commonslaw22.ClerkUses", spec := "clerkUses", unfollowed := true, recurses := true, apart := false, narrowed := true }
def ClerkUsesUptoSaid : Prop := clerkUsesUptoRow.holds Try.pinned (OpenSpec.upto clerkUsesSpec)

/-- 'commonslaw22.ClerkNone', WHERE WHAT IT READS IS OF BULK AT MOST 1048576: true; the input reads as it did. -/
def clerkNoneUptoRow : OpenClaim := { program := "ytknklmemadediaa", sum := "ffbde373234554525c4d864851171d29753b197478f0e6d34600371bf0627fdc", func := "commons/commonslaw22.ClerkNone", spec := "clerkNone", unfollowed := true, recurses := true, apart := false, narrowed := true }
def ClerkNoneUptoSaid : Prop := clerkNoneUptoRow.holds Try.pinned (OpenSpec.upto clerkNoneSpec)

end Rows
end Go.Proofs.Ytknklmemadediaa
