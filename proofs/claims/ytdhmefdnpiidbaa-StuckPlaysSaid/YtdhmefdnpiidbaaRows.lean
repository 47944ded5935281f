/-
  No cell of these rows narrows 'for every input' (looked for: loops, veiled, ifaces, maps, wideKeys, modest, calm, conditions, laid).
  DERIVED. THE GIVEN ROWS OF THIS SEAT. 12 by the template 'for every input the law returns true; each argument reads behind the call as it read before'; 0 by the template 'total and deterministic' (their statements: YtdhmefdnpiidbaaTotals.lean).
  GIVEN WITH THE SEED: the statements are not yours to turn. If you find one false, say at which input.
  Laid BY PROGRAM, IN A SANDBOX (cutbox-rows.mjs): the forced cells as the released guide's own fill.sh prints them over the translation efd2ec6182f75c29… (all of the seat's roots in one cut). By AI agents, Wed Nov 11 2026. No macro, syntax, notation, axiom, sorry.
-/
import Derived.Test.YtdhmefdnpiidbaaChecked
import GoSem.Claim
import GoSem.ClaimJoined
import GoSem.ClaimMapViews
import Derived.JoinedTies
import Derived.KernelRfl
namespace Go.Proofs.Ytdhmefdnpiidbaa
/- THE CELL 'sum', in the pinned program and in every row, IS THE sha256 OF THE DUMP (.gsa) THAT YtdhmefdnpiidbaaProg.lean LOADS. Nothing in Lean hashes anything: it is a label: what it is worth is what the hold of that sum in a sandbox is worth. -/
noncomputable def Try.pinned : Pinned := { name := "ytdhmefdnpiidbaa", sum := "efd2ec6182f75c294c346a5d6ed808205f0e2fbd1aca59635dffc0cd33dd8599", checked := Try.checked }
namespace Rows
def none {H : Type} : Left H := { results := [], args := [] }

/-- 'rudderlaw15.LatchUnharmed': WHATEVER THE INPUT: true; the input reads as it did. -/
def latchUnharmedSpec : ChangeSpec := { name := "latchUnharmed", fn := fun _ => fun
  | [d1, d2, d3] => { results := [.lit (.bool true)], args := [d1, d2, d3] }
  | _ => none }
def latchUnharmedRow : OpenClaim := { program := "ytdhmefdnpiidbaa", sum := "efd2ec6182f75c294c346a5d6ed808205f0e2fbd1aca59635dffc0cd33dd8599", func := "rudder/rudderlaw15.LatchUnharmed", spec := "latchUnharmed", unfollowed := true, recurses := true, apart := false }
def LatchUnharmedSaid : Prop := latchUnharmedRow.holds Try.pinned (OpenSpec.ofChange latchUnharmedSpec)

/-- ITS FALSE NEIGHBOUR: 'it returns false'. Refute it at one input. -/
def latchUnharmedWrong : ChangeSpec := { name := "latchUnharmed", fn := fun _ => fun
  | [d1, d2, d3] => { results := [.lit (.bool false)], args := [d1, d2, d3] }
  | _ => none }
def LatchUnharmedWrongFalsely : Prop := latchUnharmedRow.holds Try.pinned (OpenSpec.ofChange latchUnharmedWrong)

/-- 'rudderlaw12.VoteMid': WHATEVER THE INPUT: true; the input reads as it did. -/
def voteMidSpec : ChangeSpec := { name := "voteMid", fn := fun _ => fun
  | [d1, d2, d3] => { results := [.lit (.bool true)], args := [d1, d2, d3] }
  | _ => none }
def voteMidRow : OpenClaim := { program := "ytdhmefdnpiidbaa", sum := "efd2ec6182f75c294c346a5d6ed808205f0e2fbd1aca59635dffc0cd33dd8599", func := "rudder/rudderlaw12.VoteMid", spec := "voteMid", unfollowed := true, recurses := true, apart := false }
def VoteMidSaid : Prop := voteMidRow.holds Try.pinned (OpenSpec.ofChange voteMidSpec)

/-- ITS FALSE NEIGHBOUR: 'it returns false'. Refute it at one input. -/
def voteMidWrong : ChangeSpec := { name := "voteMid", fn := fun _ => fun
  | [d1, d2, d3] => { results := [.lit (.bool false)], args := [d1, d2, d3] }
  | _ => none }
def VoteMidWrongFalsely : Prop := voteMidRow.holds Try.pinned (OpenSpec.ofChange voteMidWrong)

/-- 'rudderlaw12.VoteBounded': WHATEVER THE INPUT: true; the input reads as it did. -/
def voteBoundedSpec : ChangeSpec := { name := "voteBounded", fn := fun _ => fun
  | [d1, d2] => { results := [.lit (.bool true)], args := [d1, d2] }
  | _ => none }
def voteBoundedRow : OpenClaim := { program := "ytdhmefdnpiidbaa", sum := "efd2ec6182f75c294c346a5d6ed808205f0e2fbd1aca59635dffc0cd33dd8599", func := "rudder/rudderlaw12.VoteBounded", spec := "voteBounded", unfollowed := true, recurses := true, apart := false }
def VoteBoundedSaid : Prop := voteBoundedRow.holds Try.pinned (OpenSpec.ofChange voteBoundedSpec)

/-- ITS FALSE NEIGHBOUR: 'it returns false'. Refute it at one input. -/
def voteBoundedWrong : ChangeSpec := { name := "voteBounded", fn := fun _ => fun
  | [d1, d2] => { results := [.lit (.bool false)], args := [d1, d2] }
  | _ => none }
def VoteBoundedWrongFalsely : Prop := voteBoundedRow.holds Try.pinned (OpenSpec.ofChange voteBoundedWrong)

/-- 'rudderlaw02.OrderTells': WHATEVER THE INPUT: true; the input reads as it did. -/
def orderTellsSpec : ChangeSpec := { name := "orderTells", fn := fun _ => fun
  | [d1, d2] => { results := [.lit (.bool true)], args := [d1, d2] }
  | _ => none }
def orderTellsRow : OpenClaim := { program := "ytdhmefdnpiidbaa", sum := "efd2ec6182f75c294c346a5d6ed808205f0e2fbd1aca59635dffc0cd33dd8599", func := "rudder/rudderlaw02.OrderTells", spec := "orderTells", unfollowed := true, recurses := true, apart := false }
def OrderTellsSaid : Prop := orderTellsRow.holds Try.pinned (OpenSpec.ofChange orderTellsSpec)

/-- ITS FALSE NEIGHBOUR: 'it returns false'. Refute it at one input. -/
def orderTellsWrong : ChangeSpec := { name := "orderTells", fn := fun _ => fun
  | [d1, d2] => { results := [.lit (.bool false)], args := [d1, d2] }
  | _ => none }
def OrderTellsWrongFalsely : Prop := orderTellsRow.holds Try.pinned (OpenSpec.ofChange orderTellsWrong)

/-- 'rudderlaw02.OrderSorted': WHATEVER THE INPUT: true; the input reads as it did. -/
def orderSortedSpec : ChangeSpec := { name := "orderSorted", fn := fun _ => fun
  | [d] => { results := [.lit (.bool true)], args := [d] }
  | _ => none }
def orderSortedRow : OpenClaim := { program := "ytdhmefdnpiidbaa", sum := "efd2ec6182f75c294c346a5d6ed808205f0e2fbd1aca59635dffc0cd33dd8599", func := "rudder/rudderlaw02.OrderSorted", spec := "orderSorted", unfollowed := true, recurses := true, apart := false }
def OrderSortedSaid : Prop := orderSortedRow.holds Try.pinned (OpenSpec.ofChange orderSortedSpec)

/-- ITS FALSE NEIGHBOUR: 'it returns false'. Refute it at one input. -/
def orderSortedWrong : ChangeSpec := { name := "orderSorted", fn := fun _ => fun
  | [d] => { results := [.lit (.bool false)], args := [d] }
  | _ => none }
def OrderSortedWrongFalsely : Prop := orderSortedRow.holds Try.pinned (OpenSpec.ofChange orderSortedWrong)

/-- 'rudderlaw02.OrderMidst': WHATEVER THE INPUT: true; the input reads as it did. -/
def orderMidstSpec : ChangeSpec := { name := "orderMidst", fn := fun _ => fun
  | [d1, d2, d3] => { results := [.lit (.bool true)], args := [d1, d2, d3] }
  | _ => none }
def orderMidstRow : OpenClaim := { program := "ytdhmefdnpiidbaa", sum := "efd2ec6182f75c294c346a5d6ed808205f0e2fbd1aca59635dffc0cd33dd8599", func := "rudder/rudderlaw02.OrderMidst", spec := "orderMidst", unfollowed := true, recurses := true, apart := false }
def OrderMidstSaid : Prop := orderMidstRow.holds Try.pinned (OpenSpec.ofChange orderMidstSpec)

/-- ITS FALSE NEIGHBOUR: 'it returns false'. Refute it at one input. -/
def orderMidstWrong : ChangeSpec := { name := "orderMidst", fn := fun _ => fun
  | [d1, d2, d3] => { results := [.lit (.bool false)], args := [d1, d2, d3] }
  | _ => none }
def OrderMidstWrongFalsely : Prop := orderMidstRow.holds Try.pinned (OpenSpec.ofChange orderMidstWrong)

/-- 'rudderlaw01.FixMasks': WHATEVER THE INPUT: true; the input reads as it did. -/
def fixMasksSpec : ChangeSpec := { name := "fixMasks", fn := fun _ => fun
  | [d1, d2, d3] => { results := [.lit (.bool true)], args := [d1, d2, d3] }
  | _ => none }
def fixMasksRow : OpenClaim := { program := "ytdhmefdnpiidbaa", sum := "efd2ec6182f75c294c346a5d6ed808205f0e2fbd1aca59635dffc0cd33dd8599", func := "rudder/rudderlaw01.FixMasks", spec := "fixMasks", apart := false }
def FixMasksSaid : Prop := fixMasksRow.holds Try.pinned (OpenSpec.ofChange fixMasksSpec)

/-- ITS FALSE NEIGHBOUR: 'it returns false'. Refute it at one input. -/
def fixMasksWrong : ChangeSpec := { name := "fixMasks", fn := fun _ => fun
  | [d1, d2, d3] => { results := [.lit (.bool false)], args := [d1, d2, d3] }
  | _ => none }
def FixMasksWrongFalsely : Prop := fixMasksRow.holds Try.pinned (OpenSpec.ofChange fixMasksWrong)

/-- 'rudderlaw09.StuckPlays': WHATEVER THE INPUT: true; the input reads as it did. -/
def stuckPlaysSpec : ChangeSpec := { name := "stuckPlays", fn := fun _ => fun
  | [d1, d2, d3] => { results := [.lit (.bool true)], args := [d1, d2, d3] }
  | _ => none }
def stuckPlaysRow : OpenClaim := { program := "ytdhmefdnpiidbaa", sum := "efd2ec6182f75c294c346a5d6ed808205f0e2fbd1aca59635dffc0cd33dd8599", func := "rudder/rudderlaw09.StuckPlays", spec := "stuckPlays", unfollowed := true, recurses := true, apart := false }
def StuckPlaysSaid : Prop := stuckPlaysRow.holds Try.pinned (OpenSpec.ofChange stuckPlaysSpec)

/-- ITS FALSE NEIGHBOUR: 'it returns false'. Refute it at one input. -/
def stuckPlaysWrong : ChangeSpec := { name := "stuckPlays", fn := fun _ => fun
  | [d1, d2, d3] => { results := [.lit (.bool false)], args := [d1, d2, d3] }
  | _ => none }
def StuckPlaysWrongFalsely : Prop := stuckPlaysRow.holds Try.pinned (OpenSpec.ofChange stuckPlaysWrong)

/-- 'rudderlaw09.StuckFrozen': WHATEVER THE INPUT: true; the input reads as it did. -/
def stuckFrozenSpec : ChangeSpec := { name := "stuckFrozen", fn := fun _ => fun
  | [d1, d2, d3] => { results := [.lit (.bool true)], args := [d1, d2, d3] }
  | _ => none }
def stuckFrozenRow : OpenClaim := { program := "ytdhmefdnpiidbaa", sum := "efd2ec6182f75c294c346a5d6ed808205f0e2fbd1aca59635dffc0cd33dd8599", func := "rudder/rudderlaw09.StuckFrozen", spec := "stuckFrozen", unfollowed := true, recurses := true, apart := false }
def StuckFrozenSaid : Prop := stuckFrozenRow.holds Try.pinned (OpenSpec.ofChange stuckFrozenSpec)

/-- ITS FALSE NEIGHBOUR: 'it returns false'. Refute it at one input. -/
def stuckFrozenWrong : ChangeSpec := { name := "stuckFrozen", fn := fun _ => fun
  | [d1, d2, d3] => { results := [.lit (.bool false)], args := [d1, d2, d3] }
  | _ => none }
def StuckFrozenWrongFalsely : Prop := stuckFrozenRow.holds Try.pinned (OpenSpec.ofChange stuckFrozenWrong)

/-- 'rudderlaw13.ParityTells': WHATEVER THE INPUT: true; the input reads as it did. -/
def parityTellsSpec : ChangeSpec := { name := "parityTells", fn := fun _ => fun
  | [d1, d2] => { results := [.lit (.bool true)], args := [d1, d2] }
  | _ => none }
def parityTellsRow : OpenClaim := { program := "ytdhmefdnpiidbaa", sum := "efd2ec6182f75c294c346a5d6ed808205f0e2fbd1aca59635dffc0cd33dd8599", func := "rudder/rudderlaw13.ParityTells", spec := "parityTells", unfollowed := true, recurses := true, apart := false }
def ParityTellsSaid : Prop := parityTellsRow.holds Try.pinned (OpenSpec.ofChange parityTellsSpec)

/-- ITS FALSE NEIGHBOUR: 'it returns false'. Refute it at one input. -/
def parityTellsWrong : ChangeSpec := { name := "parityTells", fn := fun _ => fun
  | [d1, d2] => { results := [.lit (.bool false)], args := [d1, d2] }
  | _ => none }
def ParityTellsWrongFalsely : Prop := parityTellsRow.holds Try.pinned (OpenSpec.ofChange parityTellsWrong)

/-- 'rudderlaw13.ParityFour': WHATEVER THE INPUT: true; the input reads as it did. -/
def parityFourSpec : ChangeSpec := { name := "parityFour", fn := fun _ => fun
  | [d1, d2, d3] => { results := [.lit (.bool true)], args := [d1, d2, d3] }
  | _ => none }
def parityFourRow : OpenClaim := { program := "ytdhmefdnpiidbaa", sum := "efd2ec6182f75c294c346a5d6ed808205f0e2fbd1aca59635dffc0cd33dd8599", func := "rudder/rudderlaw13.ParityFour", spec := "parityFour", unfollowed := true, recurses := true, apart := false }
def ParityFourSaid : Prop := parityFourRow.holds Try.pinned (OpenSpec.ofChange parityFourSpec)

/-- ITS FALSE NEIGHBOUR: 'it returns false'. Refute it at one input. -/
def parityFourWrong : ChangeSpec := { name := "parityFour", fn := fun _ => fun
  | [d1, d2, d3] => { results := [.lit (.bool false)], args := [d1, d2, d3] }
  | _ => none }
def ParityFourWrongFalsely : Prop := parityFourRow.holds Try.pinned (OpenSpec.ofChange parityFourWrong)

/-- 'rudderlaw06.FreshPlays': WHATEVER THE INPUT: true; the input reads as it did. -/
def freshPlaysSpec : ChangeSpec := { name := "freshPlays", fn := fun _ => fun
  | [d1, d2] => { results := [.lit (.bool true)], args := [d1, d2] }
  | _ => none }
def freshPlaysRow : OpenClaim := { program := "ytdhmefdnpiidbaa", sum := "efd2ec6182f75c294c346a5d6ed808205f0e2fbd1aca59635dffc0cd33dd8599", func := "rudder/rudderlaw06.FreshPlays", spec := "freshPlays", unfollowed := true, recurses := true, apart := false }
def FreshPlaysSaid : Prop := freshPlaysRow.holds Try.pinned (OpenSpec.ofChange freshPlaysSpec)

/-- ITS FALSE NEIGHBOUR: 'it returns false'. Refute it at one input. -/
def freshPlaysWrong : ChangeSpec := { name := "freshPlays", fn := fun _ => fun
  | [d1, d2] => { results := [.lit (.bool false)], args := [d1, d2] }
  | _ => none }
def FreshPlaysWrongFalsely : Prop := freshPlaysRow.holds Try.pinned (OpenSpec.ofChange freshPlaysWrong)

/- THE SECOND FORM. 'bulk': how many values and letters a reading holds, each counted each time it is reached (what is shared counts as often as it is met; a slice's spare places count too). A statement '..UptoSaid' is the law's where the arguments, and the package variables that the reading takes, are together of bulk at most 1048576: NARROWER than '..Said'. Prove '..Said' where nothing that the law and all that it calls make is longer than what came in: it says more and counts as full. Else prove '..UptoSaid'. A law counts once. -/
mutual
def uptoBulk {H : Type} : DataW H → Nat
  | .lit (.string bytes) => bytes.length + 1
  | .lit _ => 1
  | .nil => 1
  | .ptr d => uptoBulk d + 1
  | .slice elems spare => uptoBulkAll elems + uptoBulkAll spare + 1
  | .agg parts => uptoBulkAll parts + 1
  | .iface _ d => uptoBulk d + 1
  | .map entries => uptoBulkEntries entries + 1
  | .held _ => 1
def uptoBulkAll {H : Type} : List (DataW H) → Nat
  | [] => 0
  | d :: r => uptoBulk d + uptoBulkAll r
def uptoBulkEntries {H : Type} : List (Lit × DataW H) → Nat
  | [] => 0
  | x :: r => uptoBulkEntry x + uptoBulkEntries r
def uptoBulkEntry {H : Type} : Lit × DataW H → Nat
  | (.string bytes, d) => bytes.length + uptoBulk d + 1
  | (_, d) => uptoBulk d + 1
 end
def uptoSmall : (H : Type) → List (DataW H) → Bool := fun _ ds => decide (uptoBulkAll ds ≤ 1048576)
def OpenSpec.upto (s : _root_.Go.ChangeSpec) : _root_.Go.OpenSpec := { _root_.Go.OpenSpec.ofChange s with cond := some uptoSmall }

/-- 'rudderlaw15.LatchUnharmed', WHERE WHAT IT READS IS OF BULK AT MOST 1048576: true; the input reads as it did. -/
def latchUnharmedUptoRow : OpenClaim := { program := "ytdhmefdnpiidbaa", sum := "efd2ec6182f75c294c346a5d6ed808205f0e2fbd1aca59635dffc0cd33dd8599", func := "rudder/rudderlaw15.LatchUnharmed", spec := "latchUnharmed", unfollowed := true, recurses := true, apart := false, narrowed := true }
def LatchUnharmedUptoSaid : Prop := latchUnharmedUptoRow.holds Try.pinned (OpenSpec.upto latchUnharmedSpec)

/-- 'rudderlaw12.VoteMid', WHERE WHAT IT READS IS OF BULK AT MOST 1048576: true; the input reads as it did. -/
def voteMidUptoRow : OpenClaim := { program := "ytdhmefdnpiidbaa", sum := "efd2ec6182f75c294c346a5d6ed808205f0e2fbd1aca59635dffc0cd33dd8599", func := "rudder/rudderlaw12.VoteMid", spec := "voteMid", unfollowed := true, recurses := true, apart := false, narrowed := true }
def VoteMidUptoSaid : Prop := voteMidUptoRow.holds Try.pinned (OpenSpec.upto voteMidSpec)

/-- 'rudderlaw12.VoteBounded', WHERE WHAT IT READS IS OF BULK AT MOST 1048576: true; the input reads as it did. -/
def voteBoundedUptoRow : OpenClaim := { program := "ytdhmefdnpiidbaa", sum := "efd2ec6182f75c294c346a5d6ed808205f0e2fbd1aca59635dffc0cd33dd8599", func := "rudder/rudderlaw12.VoteBounded", spec := "voteBounded", unfollowed := true, recurses := true, apart := false, narrowed := true }
def VoteBoundedUptoSaid : Prop := voteBoundedUptoRow.holds Try.pinned (OpenSpec.upto voteBoundedSpec)

/-- 'rudderlaw02.OrderTells', WHERE WHAT IT READS IS OF BULK AT MOST 1048576: true; the input reads as it did. -/
def orderTellsUptoRow : OpenClaim := { program := "ytdhmefdnpiidbaa", sum := "efd2ec6182f75c294c346a5d6ed808205f0e2fbd1aca59635dffc0cd33dd8599", func := "rudder/rudderlaw02.OrderTells", spec := "orderTells", unfollowed := true, recurses := true, apart := false, narrowed := true }
def OrderTellsUptoSaid : Prop := orderTellsUptoRow.holds Try.pinned (OpenSpec.upto orderTellsSpec)

/-- 'rudderlaw02.OrderSorted', WHERE WHAT IT READS IS OF BULK AT MOST 1048576: true; the input reads as it did. -/
def orderSortedUptoRow : OpenClaim := { program := "ytdhmefdnpiidbaa", sum := "efd2ec6182f75c294c346a5d6ed808205f0e2fbd1aca59635dffc0cd33dd8599", func := "rudder/rudderlaw02.OrderSorted", spec := "orderSorted", unfollowed := true, recurses := true, apart := false, narrowed := true }
def OrderSortedUptoSaid : Prop := orderSortedUptoRow.holds Try.pinned (OpenSpec.upto orderSortedSpec)

/-- 'rudderlaw02.OrderMidst', WHERE WHAT IT READS IS OF BULK AT MOST 1048576: true; the input reads as it did. -/
def orderMidstUptoRow : OpenClaim := { program := "ytdhmefdnpiidbaa", sum := "efd2ec6182f75c294c346a5d6ed808205f0e2fbd1aca59635dffc0cd33dd8599", func := "rudder/rudderlaw02.OrderMidst", spec := "orderMidst", unfollowed := true, recurses := true, apart := false, narrowed := true }
def OrderMidstUptoSaid : Prop := orderMidstUptoRow.holds Try.pinned (OpenSpec.upto orderMidstSpec)

/-- 'rudderlaw01.FixMasks', WHERE WHAT IT READS IS OF BULK AT MOST 1048576: true; the input reads as it did. -/
def fixMasksUptoRow : OpenClaim := { program := "ytdhmefdnpiidbaa", sum := "efd2ec6182f75c294c346a5d6ed808205f0e2fbd1aca59635dffc0cd33dd8599", func := "rudder/rudderlaw01.FixMasks", spec := "fixMasks", apart := false, narrowed := true }
def FixMasksUptoSaid : Prop := fixMasksUptoRow.holds Try.pinned (OpenSpec.upto fixMasksSpec)

/-- 'rudderlaw09.StuckPlays', WHERE WHAT IT READS IS OF BULK AT MOST 1048576: true; the input reads as it did. -/
def stuckPlaysUptoRow : OpenClaim := { program := "ytdhmefdnpiidbaa", sum := "efd2ec6182f75c294c346a5d6ed808205f0e2fbd1aca59635dffc0cd33dd8599", func := "rudder/rudderlaw09.StuckPlays", spec := "stuckPlays", unfollowed := true, recurses := true, apart := false, narrowed := true }
def StuckPlaysUptoSaid : Prop := stuckPlaysUptoRow.holds Try.pinned (OpenSpec.upto stuckPlaysSpec)

/-- 'rudderlaw09.StuckFrozen', WHERE WHAT IT READS IS OF BULK AT MOST 1048576: true; the input reads as it did. -/
def stuckFrozenUptoRow : OpenClaim := { program := "ytdhmefdnpiidbaa", sum := "efd2ec6182f75c294c346a5d6ed808205f0e2fbd1aca59635dffc0cd33dd8599", func := "rudder/rudderlaw09.StuckFrozen", spec := "stuckFrozen", unfollowed := true, recurses := true, apart := false, narrowed := true }
def StuckFrozenUptoSaid : Prop := stuckFrozenUptoRow.holds Try.pinned (OpenSpec.upto stuckFrozenSpec)

/-- 'rudderlaw13.ParityTells', WHERE WHAT IT READS IS OF BULK AT MOST 1048576: true; the input reads as it did. -/
def parityTellsUptoRow : OpenClaim := { program := "ytdhmefdnpiidbaa", sum := "efd2ec6182f75c294c346a5d6ed808205f0e2fbd1aca59635dffc0cd33dd8599", func := "rudder/rudderlaw13.ParityTells", spec := "parityTells", unfollowed := true, recurses := true, apart := false, narrowed := true }
def ParityTellsUptoSaid : Prop := parityTellsUptoRow.holds Try.pinned (OpenSpec.upto parityTellsSpec)

/-- 'rudderlaw13.ParityFour', WHERE WHAT IT READS IS OF BULK AT MOST 1048576: true; the input reads as it did. -/
def parityFourUptoRow : OpenClaim := { program := "ytdhmefdnpiidbaa", sum := "efd2ec6182f75c294c346a5d6ed808205f0e2fbd1aca59635dffc0cd33dd8599", func := "rudder/rudderlaw13.ParityFour", spec := "parityFour", unfollowed := true, recurses := true, apart := false, narrowed := true }
def ParityFourUptoSaid : Prop := parityFourUptoRow.holds Try.pinned (OpenSpec.upto parityFourSpec)

/-- 'rudderlaw06.FreshPlays', WHERE WHAT IT READS IS OF BULK AT MOST 1048576: true; the input reads as it did. -/
def freshPlaysUptoRow : OpenClaim := { program := "ytdhmefdnpiidbaa", sum := "efd2ec6182f75c294c346a5d6ed808205f0e2fbd1aca59635dffc0cd33dd8599", func := "rudder/rudderlaw06.FreshPlays", spec := "freshPlays", unfollowed := true, recurses := true, apart := false, narrowed := true }
def FreshPlaysUptoSaid : Prop := freshPlaysUptoRow.holds Try.pinned (OpenSpec.upto freshPlaysSpec)

end Rows
end Go.Proofs.Ytdhmefdnpiidbaa
