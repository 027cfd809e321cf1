/-
  No cell of these rows narrows 'for every input' (looked for: loops, veiled, ifaces, maps, wideKeys, modest, calm, conditions, laid).
  DERIVED. THE GIVEN ROWS OF THIS SEAT. 11 by the template 'for every input the law returns true; each argument reads behind the call as it read before'; 0 by the template 'total and deterministic' (their statements: YtilbhnloelgpdaaTotals.lean).
  GIVEN WITH THE SEED: the statements are not yours to turn. If you find one false, say at which input.
  Laid BY PROGRAM, IN A SANDBOX (cutbox-rows.mjs): the forced cells as the released guide's own fill.sh prints them over the translation 5d264719c01eb036… (all of the seat's roots in one cut). By AI agents, Wed Nov 11 2026. No macro, syntax, notation, axiom, sorry.
-/
import Derived.Test.YtilbhnloelgpdaaChecked
import GoSem.Claim
import GoSem.ClaimJoined
import GoSem.ClaimMapViews
import Derived.JoinedTies
import Derived.KernelRfl
namespace Go.Proofs.Ytilbhnloelgpdaa
/- THE CELL 'sum', in the pinned program and in every row, IS THE sha256 OF THE DUMP (.gsa) THAT YtilbhnloelgpdaaProg.lean LOADS. Nothing in Lean hashes anything: it is a label: what it is worth is what the hold of that sum in a sandbox is worth. -/
noncomputable def Try.pinned : Pinned := { name := "ytilbhnloelgpdaa", sum := "5d264719c01eb036eeec235f338a73352ad538fed762c4d2c14943b1947f738f", checked := Try.checked }
namespace Rows
def none {H : Type} : Left H := { results := [], args := [] }

/-- 'gavellaw08.CallCross': WHATEVER THE INPUT: true; the input reads as it did. -/
def callCrossSpec : ChangeSpec := { name := "callCross", fn := fun _ => fun
  | [d1, d2, d3] => { results := [.lit (.bool true)], args := [d1, d2, d3] }
  | _ => none }
def callCrossRow : OpenClaim := { program := "ytilbhnloelgpdaa", sum := "5d264719c01eb036eeec235f338a73352ad538fed762c4d2c14943b1947f738f", func := "gavel/gavellaw08.CallCross", spec := "callCross", unfollowed := true, recurses := true, apart := false }
def CallCrossSaid : Prop := callCrossRow.holds Try.pinned (OpenSpec.ofChange callCrossSpec)

/-- ITS FALSE NEIGHBOUR: 'it returns false'. Refute it at one input. -/
def callCrossWrong : ChangeSpec := { name := "callCross", fn := fun _ => fun
  | [d1, d2, d3] => { results := [.lit (.bool false)], args := [d1, d2, d3] }
  | _ => none }
def CallCrossWrongFalsely : Prop := callCrossRow.holds Try.pinned (OpenSpec.ofChange callCrossWrong)

/-- 'gavellaw08.CallMost': WHATEVER THE INPUT: true; the input reads as it did. -/
def callMostSpec : ChangeSpec := { name := "callMost", fn := fun _ => fun
  | [d1, d2] => { results := [.lit (.bool true)], args := [d1, d2] }
  | _ => none }
def callMostRow : OpenClaim := { program := "ytilbhnloelgpdaa", sum := "5d264719c01eb036eeec235f338a73352ad538fed762c4d2c14943b1947f738f", func := "gavel/gavellaw08.CallMost", spec := "callMost", unfollowed := true, recurses := true, apart := false }
def CallMostSaid : Prop := callMostRow.holds Try.pinned (OpenSpec.ofChange callMostSpec)

/-- ITS FALSE NEIGHBOUR: 'it returns false'. Refute it at one input. -/
def callMostWrong : ChangeSpec := { name := "callMost", fn := fun _ => fun
  | [d1, d2] => { results := [.lit (.bool false)], args := [d1, d2] }
  | _ => none }
def CallMostWrongFalsely : Prop := callMostRow.holds Try.pinned (OpenSpec.ofChange callMostWrong)

/-- 'gavellaw08.CallTurned': WHATEVER THE INPUT: true; the input reads as it did. -/
def callTurnedSpec : ChangeSpec := { name := "callTurned", fn := fun _ => fun
  | [d] => { results := [.lit (.bool true)], args := [d] }
  | _ => none }
def callTurnedRow : OpenClaim := { program := "ytilbhnloelgpdaa", sum := "5d264719c01eb036eeec235f338a73352ad538fed762c4d2c14943b1947f738f", func := "gavel/gavellaw08.CallTurned", spec := "callTurned", unfollowed := true, recurses := true, apart := false }
def CallTurnedSaid : Prop := callTurnedRow.holds Try.pinned (OpenSpec.ofChange callTurnedSpec)

/-- ITS FALSE NEIGHBOUR: 'it returns false'. Refute it at one input. -/
def callTurnedWrong : ChangeSpec := { name := "callTurned", fn := fun _ => fun
  | [d] => { results := [.lit (.bool false)], args := [d] }
  | _ => none }
def CallTurnedWrongFalsely : Prop := callTurnedRow.holds Try.pinned (OpenSpec.ofChange callTurnedWrong)

/-- 'gavellaw08.CallBalanced': WHATEVER THE INPUT: true; the input reads as it did. -/
def callBalancedSpec : ChangeSpec := { name := "callBalanced", fn := fun _ => fun
  | [d] => { results := [.lit (.bool true)], args := [d] }
  | _ => none }
def callBalancedRow : OpenClaim := { program := "ytilbhnloelgpdaa", sum := "5d264719c01eb036eeec235f338a73352ad538fed762c4d2c14943b1947f738f", func := "gavel/gavellaw08.CallBalanced", spec := "callBalanced", unfollowed := true, recurses := true, apart := false }
def CallBalancedSaid : Prop := callBalancedRow.holds Try.pinned (OpenSpec.ofChange callBalancedSpec)

/-- ITS FALSE NEIGHBOUR: 'it returns false'. Refute it at one input. -/
def callBalancedWrong : ChangeSpec := { name := "callBalanced", fn := fun _ => fun
  | [d] => { results := [.lit (.bool false)], args := [d] }
  | _ => none }
def CallBalancedWrongFalsely : Prop := callBalancedRow.holds Try.pinned (OpenSpec.ofChange callBalancedWrong)

/-- 'gavellaw08.CallFirst': WHATEVER THE INPUT: true; the input reads as it did. -/
def callFirstSpec : ChangeSpec := { name := "callFirst", fn := fun _ => fun
  | [d] => { results := [.lit (.bool true)], args := [d] }
  | _ => none }
def callFirstRow : OpenClaim := { program := "ytilbhnloelgpdaa", sum := "5d264719c01eb036eeec235f338a73352ad538fed762c4d2c14943b1947f738f", func := "gavel/gavellaw08.CallFirst", spec := "callFirst", unfollowed := true, recurses := true, apart := false }
def CallFirstSaid : Prop := callFirstRow.holds Try.pinned (OpenSpec.ofChange callFirstSpec)

/-- ITS FALSE NEIGHBOUR: 'it returns false'. Refute it at one input. -/
def callFirstWrong : ChangeSpec := { name := "callFirst", fn := fun _ => fun
  | [d] => { results := [.lit (.bool false)], args := [d] }
  | _ => none }
def CallFirstWrongFalsely : Prop := callFirstRow.holds Try.pinned (OpenSpec.ofChange callFirstWrong)

/-- 'gavellaw08.CallPlaces': WHATEVER THE INPUT: true; the input reads as it did. -/
def callPlacesSpec : ChangeSpec := { name := "callPlaces", fn := fun _ => fun
  | [d1, d2, d3, d4] => { results := [.lit (.bool true)], args := [d1, d2, d3, d4] }
  | _ => none }
def callPlacesRow : OpenClaim := { program := "ytilbhnloelgpdaa", sum := "5d264719c01eb036eeec235f338a73352ad538fed762c4d2c14943b1947f738f", func := "gavel/gavellaw08.CallPlaces", spec := "callPlaces", unfollowed := true, recurses := true, apart := false }
def CallPlacesSaid : Prop := callPlacesRow.holds Try.pinned (OpenSpec.ofChange callPlacesSpec)

/-- ITS FALSE NEIGHBOUR: 'it returns false'. Refute it at one input. -/
def callPlacesWrong : ChangeSpec := { name := "callPlaces", fn := fun _ => fun
  | [d1, d2, d3, d4] => { results := [.lit (.bool false)], args := [d1, d2, d3, d4] }
  | _ => none }
def CallPlacesWrongFalsely : Prop := callPlacesRow.holds Try.pinned (OpenSpec.ofChange callPlacesWrong)

/-- 'gavellaw08.CallPlays': WHATEVER THE INPUT: true; the input reads as it did. -/
def callPlaysSpec : ChangeSpec := { name := "callPlays", fn := fun _ => fun
  | [d1, d2] => { results := [.lit (.bool true)], args := [d1, d2] }
  | _ => none }
def callPlaysRow : OpenClaim := { program := "ytilbhnloelgpdaa", sum := "5d264719c01eb036eeec235f338a73352ad538fed762c4d2c14943b1947f738f", func := "gavel/gavellaw08.CallPlays", spec := "callPlays", unfollowed := true, recurses := true, apart := false }
def CallPlaysSaid : Prop := callPlaysRow.holds Try.pinned (OpenSpec.ofChange callPlaysSpec)

/-- ITS FALSE NEIGHBOUR: 'it returns false'. Refute it at one input. -/
def callPlaysWrong : ChangeSpec := { name := "callPlays", fn := fun _ => fun
  | [d1, d2] => { results := [.lit (.bool false)], args := [d1, d2] }
  | _ => none }
def CallPlaysWrongFalsely : Prop := callPlaysRow.holds Try.pinned (OpenSpec.ofChange callPlaysWrong)

/-- 'gavellaw08.CallAgain': WHATEVER THE INPUT: true; the input reads as it did. -/
def callAgainSpec : ChangeSpec := { name := "callAgain", fn := fun _ => fun
  | [d] => { results := [.lit (.bool true)], args := [d] }
  | _ => none }
def callAgainRow : OpenClaim := { program := "ytilbhnloelgpdaa", sum := "5d264719c01eb036eeec235f338a73352ad538fed762c4d2c14943b1947f738f", func := "gavel/gavellaw08.CallAgain", spec := "callAgain", unfollowed := true, recurses := true, apart := false }
def CallAgainSaid : Prop := callAgainRow.holds Try.pinned (OpenSpec.ofChange callAgainSpec)

/-- ITS FALSE NEIGHBOUR: 'it returns false'. Refute it at one input. -/
def callAgainWrong : ChangeSpec := { name := "callAgain", fn := fun _ => fun
  | [d] => { results := [.lit (.bool false)], args := [d] }
  | _ => none }
def CallAgainWrongFalsely : Prop := callAgainRow.holds Try.pinned (OpenSpec.ofChange callAgainWrong)

/-- 'gavellaw08.CallNobody': WHATEVER THE INPUT: true; the input reads as it did. -/
def callNobodySpec : ChangeSpec := { name := "callNobody", fn := fun _ => fun
  | [d] => { results := [.lit (.bool true)], args := [d] }
  | _ => none }
def callNobodyRow : OpenClaim := { program := "ytilbhnloelgpdaa", sum := "5d264719c01eb036eeec235f338a73352ad538fed762c4d2c14943b1947f738f", func := "gavel/gavellaw08.CallNobody", spec := "callNobody", unfollowed := true, recurses := true, apart := false }
def CallNobodySaid : Prop := callNobodyRow.holds Try.pinned (OpenSpec.ofChange callNobodySpec)

/-- ITS FALSE NEIGHBOUR: 'it returns false'. Refute it at one input. -/
def callNobodyWrong : ChangeSpec := { name := "callNobody", fn := fun _ => fun
  | [d] => { results := [.lit (.bool false)], args := [d] }
  | _ => none }
def CallNobodyWrongFalsely : Prop := callNobodyRow.holds Try.pinned (OpenSpec.ofChange callNobodyWrong)

/-- 'gavellaw08.CallReads': WHATEVER THE INPUT: true; the input reads as it did. -/
def callReadsSpec : ChangeSpec := { name := "callReads", fn := fun _ => fun
  | [d] => { results := [.lit (.bool true)], args := [d] }
  | _ => none }
def callReadsRow : OpenClaim := { program := "ytilbhnloelgpdaa", sum := "5d264719c01eb036eeec235f338a73352ad538fed762c4d2c14943b1947f738f", func := "gavel/gavellaw08.CallReads", spec := "callReads", unfollowed := true, recurses := true, apart := false }
def CallReadsSaid : Prop := callReadsRow.holds Try.pinned (OpenSpec.ofChange callReadsSpec)

/-- ITS FALSE NEIGHBOUR: 'it returns false'. Refute it at one input. -/
def callReadsWrong : ChangeSpec := { name := "callReads", fn := fun _ => fun
  | [d] => { results := [.lit (.bool false)], args := [d] }
  | _ => none }
def CallReadsWrongFalsely : Prop := callReadsRow.holds Try.pinned (OpenSpec.ofChange callReadsWrong)

/-- 'gavellaw08.CallBytes': WHATEVER THE INPUT: true; the input reads as it did. -/
def callBytesSpec : ChangeSpec := { name := "callBytes", fn := fun _ => fun
  | [d1, d2] => { results := [.lit (.bool true)], args := [d1, d2] }
  | _ => none }
def callBytesRow : OpenClaim := { program := "ytilbhnloelgpdaa", sum := "5d264719c01eb036eeec235f338a73352ad538fed762c4d2c14943b1947f738f", func := "gavel/gavellaw08.CallBytes", spec := "callBytes", unfollowed := true, recurses := true, apart := false }
def CallBytesSaid : Prop := callBytesRow.holds Try.pinned (OpenSpec.ofChange callBytesSpec)

/-- ITS FALSE NEIGHBOUR: 'it returns false'. Refute it at one input. -/
def callBytesWrong : ChangeSpec := { name := "callBytes", fn := fun _ => fun
  | [d1, d2] => { results := [.lit (.bool false)], args := [d1, d2] }
  | _ => none }
def CallBytesWrongFalsely : Prop := callBytesRow.holds Try.pinned (OpenSpec.ofChange callBytesWrong)

/- THE SECOND FORM. 'bulk': how many values and letters a reading holds, each counted each time it is reached (what is shared counts as often as it is met; a slice's spare places count too). A statement '..UptoSaid' is the law's where the arguments, and the package variables that the reading takes, are together of bulk at most 1048576: NARROWER than '..Said'. Prove '..Said' where nothing that the law and all that it calls make is longer than what came in: it says more and counts as full. Else prove '..UptoSaid'. A law counts once. -/
mutual
def uptoBulk {H : Type} : DataW H → Nat
  | .lit (.string bytes) => bytes.length + 1
  | .lit _ => 1
  | .nil => 1
  | .ptr d => uptoBulk d + 1
  | .slice elems spare => uptoBulkAll elems + uptoBulkAll spare + 1
  | .agg parts => uptoBulkAll parts + 1
  | .iface _ d => uptoBulk d + 1
  | .map entries => uptoBulkEntries entries + 1
  | .held _ => 1
def uptoBulkAll {H : Type} : List (DataW H) → Nat
  | [] => 0
  | d :: r => uptoBulk d + uptoBulkAll r
def uptoBulkEntries {H : Type} : List (Lit × DataW H) → Nat
  | [] => 0
  | x :: r => uptoBulkEntry x + uptoBulkEntries r
def uptoBulkEntry {H : Type} : Lit × DataW H → Nat
  | (.string bytes, d) => bytes.length + uptoBulk d + 1
  | (_, d) => uptoBulk d + 1
 end
def uptoSmall : (H : Type) → List (DataW H) → Bool := fun _ ds => decide (uptoBulkAll ds ≤ 1048576)
def OpenSpec.upto (s : _root_.Go.ChangeSpec) : _root_.Go.OpenSpec := { _root_.Go.OpenSpec.ofChange s with cond := some uptoSmall }

/-- 'gavellaw08.CallCross', WHERE WHAT IT READS IS OF BULK AT MOST 1048576: true; the input reads as it did. -/
def callCrossUptoRow : OpenClaim := { program := "ytilbhnloelgpdaa", sum := "5d264719c01eb036eeec235f338a73352ad538fed762c4d2c14943b1947f738f", func := "gavel/gavellaw08.CallCross", spec := "callCross", unfollowed := true, recurses := true, apart := false, narrowed := true }
def CallCrossUptoSaid : Prop := callCrossUptoRow.holds Try.pinned (OpenSpec.upto callCrossSpec)

/-- 'gavellaw08.CallMost', WHERE WHAT IT READS IS OF BULK AT MOST 1048576: true; the input reads as it did. -/
def callMostUptoRow : OpenClaim := { program := "ytilbhnloelgpdaa", sum := "5d264719c01eb036eeec235f338a73352ad538fed762c4d2c14943b1947f738f", func := "gavel/gavellaw08.CallMost", spec := "callMost", unfollowed := true, recurses := true, apart := false, narrowed := true }
def CallMostUptoSaid : Prop := callMostUptoRow.holds Try.pinned (OpenSpec.upto callMostSpec)

/-- 'gavellaw08.CallTurned', WHERE WHAT IT READS IS OF BULK AT MOST 1048576: true; the input reads as it did. -/
def callTurnedUptoRow : OpenClaim := { program := "ytilbhnloelgpdaa", sum := "5d264719c01eb036eeec235f338a73352ad538fed762c4d2c14943b1947f738f", func := "gavel/gavellaw08.CallTurned", spec := "callTurned", unfollowed := true, recurses := true, apart := false, narrowed := true }
def CallTurnedUptoSaid : Prop := callTurnedUptoRow.holds Try.pinned (OpenSpec.upto callTurnedSpec)

/-- 'gavellaw08.CallBalanced', WHERE WHAT IT READS IS OF BULK AT MOST 1048576: true; the input reads as it did. -/
def callBalancedUptoRow : OpenClaim := { program := "ytilbhnloelgpdaa", sum := "5d264719c01eb036eeec235f338a73352ad538fed762c4d2c14943b1947f738f", func := "gavel/gavellaw08.CallBalanced", spec := "callBalanced", unfollowed := true, recurses := true, apart := false, narrowed := true }
def CallBalancedUptoSaid : Prop := callBalancedUptoRow.holds Try.pinned (OpenSpec.upto callBalancedSpec)

/-- 'gavellaw08.CallFirst', WHERE WHAT IT READS IS OF BULK AT MOST 1048576: true; the input reads as it did. -/
def callFirstUptoRow : OpenClaim := { program := "ytilbhnloelgpdaa", sum := "5d264719c01eb036eeec235f338a73352ad538fed762c4d2c14943b1947f738f", func := "gavel/gavellaw08.CallFirst", spec := "callFirst", unfollowed := true, recurses := true, apart := false, narrowed := true }
def CallFirstUptoSaid : Prop := callFirstUptoRow.holds Try.pinned (OpenSpec.upto callFirstSpec)

/-- 'gavellaw08.CallPlaces', WHERE WHAT IT READS IS OF BULK AT MOST 1048576: true; the input reads as it did. -/
def callPlacesUptoRow : OpenClaim := { program := "ytilbhnloelgpdaa", sum := "5d264719c01eb036eeec235f338a73352ad538fed762c4d2c14943b1947f738f", func := "gavel/gavellaw08.CallPlaces", spec := "callPlaces", unfollowed := true, recurses := true, apart := false, narrowed := true }
def CallPlacesUptoSaid : Prop := callPlacesUptoRow.holds Try.pinned (OpenSpec.upto callPlacesSpec)

/-- 'gavellaw08.CallPlays', WHERE WHAT IT READS IS OF BULK AT MOST 1048576: true; the input reads as it did. -/
def callPlaysUptoRow : OpenClaim := { program := "ytilbhnloelgpdaa", sum := "5d264719c01eb036eeec235f338a73352ad538fed762c4d2c14943b1947f738f", func := "gavel/gavellaw08.CallPlays", spec := "callPlays", unfollowed := true, recurses := true, apart := false, narrowed := true }
def CallPlaysUptoSaid : Prop := callPlaysUptoRow.holds Try.pinned (OpenSpec.upto callPlaysSpec)

/-- 'gavellaw08.CallAgain', WHERE WHAT IT READS IS OF BULK AT MOST 1048576: true; the input reads as it did. -/
def callAgainUptoRow : OpenClaim := { program := "ytilbhnloelgpdaa", sum := "5d264719c01eb036eeec235f338a73352ad538fed762c4d2c14943b1947f738f", func := "gavel/gavellaw08.CallAgain", spec := "callAgain", unfollowed := true, recurses := true, apart := false, narrowed := true }
def CallAgainUptoSaid : Prop := callAgainUptoRow.holds Try.pinned (OpenSpec.upto callAgainSpec)

/-- 'gavellaw08.CallNobody', WHERE WHAT IT READS IS OF BULK AT MOST 1048576: true; the input reads as it did. -/
def callNobodyUptoRow : OpenClaim := { program := "ytilbhnloelgpdaa", sum := "5d264719c01eb036eeec235f338a73352ad538fed762c4d2c14943b1947f738f", func := "gavel/gavellaw08.CallNobody", spec := "callNobody", unfollowed := true, recurses := true, apart := false, narrowed := true }
def CallNobodyUptoSaid : Prop := callNobodyUptoRow.holds Try.pinned (OpenSpec.upto callNobodySpec)

/-- 'gavellaw08.CallReads', WHERE WHAT IT READS IS OF BULK AT MOST 1048576: true; the input reads as it did. -/
def callReadsUptoRow : OpenClaim := { program := "ytilbhnloelgpdaa", sum := "5d264719c01eb036eeec235f338a73352ad538fed762c4d2c14943b1947f738f", func := "gavel/gavellaw08.CallReads", spec := "callReads", unfollowed := true, recurses := true, apart := false, narrowed := true }
def CallReadsUptoSaid : Prop := callReadsUptoRow.holds Try.pinned (OpenSpec.upto callReadsSpec)

/-- 'gavellaw08.CallBytes', WHERE WHAT IT READS IS OF BULK AT MOST 1048576: true; the input reads as it did. -/
def callBytesUptoRow : OpenClaim := { program := "ytilbhnloelgpdaa", sum := "5d264719c01eb036eeec235f338a73352ad538fed762c4d2c14943b1947f738f", func := "gavel/gavellaw08.CallBytes", spec := "callBytes", unfollowed := true, recurses := true, apart := false, narrowed := true }
def CallBytesUptoSaid : Prop := callBytesUptoRow.holds Try.pinned (OpenSpec.upto callBytesSpec)

end Rows
end Go.Proofs.Ytilbhnloelgpdaa
