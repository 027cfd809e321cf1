/-
  No cell of these rows narrows 'for every input' (looked for: loops, veiled, ifaces, maps, wideKeys, modest, calm, conditions, laid).
  DERIVED. THE GIVEN ROWS OF THIS SEAT. 9 by the template 'for every input the law returns true; each argument reads behind the call as it read before'; 0 by the template 'total and deterministic' (their statements: YtccmafmeblojpaaTotals.lean).
  GIVEN WITH THE SEED: the statements are not yours to turn. If you find one false, say at which input.
  Laid BY PROGRAM, IN A SANDBOX (cutbox-rows.mjs): the forced cells as the released guide's own fill.sh prints them over the translation 0f38cb331eceaf7a… (all of the seat's roots in one cut). By AI agents, Wed Nov 11 2026. No macro, syntax, notation, axiom, sorry.
-/
import Derived.Test.YtccmafmeblojpaaChecked
import GoSem.Claim
import GoSem.ClaimJoined
import GoSem.ClaimMapViews
import Derived.JoinedTies
import Derived.KernelRfl
namespace Go.Proofs.Ytccmafmeblojpaa
/- THE CELL 'sum', in the pinned program and in every row, IS THE sha256 OF THE DUMP (.gsa) THAT YtccmafmeblojpaaProg.lean LOADS. Nothing in Lean hashes anything: it is a label: what it is worth is what the hold of that sum in a sandbox is worth. -/
noncomputable def Try.pinned : Pinned := { name := "ytccmafmeblojpaa", sum := "0f38cb331eceaf7a06c0fa9f763b9db5a5c76e42c2f19b86817b552f555c6d4c", checked := Try.checked }
namespace Rows
def none {H : Type} : Left H := { results := [], args := [] }

/-- 'gavellaw07.ClockShares': WHATEVER THE INPUT: true; the input reads as it did. -/
def clockSharesSpec : ChangeSpec := { name := "clockShares", fn := fun _ => fun
  | [d1, d2] => { results := [.lit (.bool true)], args := [d1, d2] }
  | _ => none }
def clockSharesRow : OpenClaim := { program := "ytccmafmeblojpaa", sum := "0f38cb331eceaf7a06c0fa9f763b9db5a5c76e42c2f19b86817b552f555c6d4c", func := "gavel/gavellaw07.ClockShares", spec := "clockShares", apart := false }
def ClockSharesSaid : Prop := clockSharesRow.holds Try.pinned (OpenSpec.ofChange clockSharesSpec)

/-- ITS FALSE NEIGHBOUR: 'it returns false'. Refute it at one input. -/
def clockSharesWrong : ChangeSpec := { name := "clockShares", fn := fun _ => fun
  | [d1, d2] => { results := [.lit (.bool false)], args := [d1, d2] }
  | _ => none }
def ClockSharesWrongFalsely : Prop := clockSharesRow.holds Try.pinned (OpenSpec.ofChange clockSharesWrong)

/-- 'gavellaw07.ClockCloses': WHATEVER THE INPUT: true; the input reads as it did. -/
def clockClosesSpec : ChangeSpec := { name := "clockCloses", fn := fun _ => fun
  | [d1, d2, d3, d4] => { results := [.lit (.bool true)], args := [d1, d2, d3, d4] }
  | _ => none }
def clockClosesRow : OpenClaim := { program := "ytccmafmeblojpaa", sum := "0f38cb331eceaf7a06c0fa9f763b9db5a5c76e42c2f19b86817b552f555c6d4c", func := "gavel/gavellaw07.ClockCloses", spec := "clockCloses", apart := false }
def ClockClosesSaid : Prop := clockClosesRow.holds Try.pinned (OpenSpec.ofChange clockClosesSpec)

/-- ITS FALSE NEIGHBOUR: 'it returns false'. Refute it at one input. -/
def clockClosesWrong : ChangeSpec := { name := "clockCloses", fn := fun _ => fun
  | [d1, d2, d3, d4] => { results := [.lit (.bool false)], args := [d1, d2, d3, d4] }
  | _ => none }
def ClockClosesWrongFalsely : Prop := clockClosesRow.holds Try.pinned (OpenSpec.ofChange clockClosesWrong)

/-- 'gavellaw07.ClockRises': WHATEVER THE INPUT: true; the input reads as it did. -/
def clockRisesSpec : ChangeSpec := { name := "clockRises", fn := fun _ => fun
  | [d1, d2] => { results := [.lit (.bool true)], args := [d1, d2] }
  | _ => none }
def clockRisesRow : OpenClaim := { program := "ytccmafmeblojpaa", sum := "0f38cb331eceaf7a06c0fa9f763b9db5a5c76e42c2f19b86817b552f555c6d4c", func := "gavel/gavellaw07.ClockRises", spec := "clockRises", apart := false }
def ClockRisesSaid : Prop := clockRisesRow.holds Try.pinned (OpenSpec.ofChange clockRisesSpec)

/-- ITS FALSE NEIGHBOUR: 'it returns false'. Refute it at one input. -/
def clockRisesWrong : ChangeSpec := { name := "clockRises", fn := fun _ => fun
  | [d1, d2] => { results := [.lit (.bool false)], args := [d1, d2] }
  | _ => none }
def ClockRisesWrongFalsely : Prop := clockRisesRow.holds Try.pinned (OpenSpec.ofChange clockRisesWrong)

/-- 'gavellaw07.ClockSells': WHATEVER THE INPUT: true; the input reads as it did. -/
def clockSellsSpec : ChangeSpec := { name := "clockSells", fn := fun _ => fun
  | [d1, d2] => { results := [.lit (.bool true)], args := [d1, d2] }
  | _ => none }
def clockSellsRow : OpenClaim := { program := "ytccmafmeblojpaa", sum := "0f38cb331eceaf7a06c0fa9f763b9db5a5c76e42c2f19b86817b552f555c6d4c", func := "gavel/gavellaw07.ClockSells", spec := "clockSells", apart := false }
def ClockSellsSaid : Prop := clockSellsRow.holds Try.pinned (OpenSpec.ofChange clockSellsSpec)

/-- ITS FALSE NEIGHBOUR: 'it returns false'. Refute it at one input. -/
def clockSellsWrong : ChangeSpec := { name := "clockSells", fn := fun _ => fun
  | [d1, d2] => { results := [.lit (.bool false)], args := [d1, d2] }
  | _ => none }
def ClockSellsWrongFalsely : Prop := clockSellsRow.holds Try.pinned (OpenSpec.ofChange clockSellsWrong)

/-- 'gavellaw07.ClockApart': WHATEVER THE INPUT: true; the input reads as it did. -/
def clockApartSpec : ChangeSpec := { name := "clockApart", fn := fun _ => fun
  | [d1, d2, d3] => { results := [.lit (.bool true)], args := [d1, d2, d3] }
  | _ => none }
def clockApartRow : OpenClaim := { program := "ytccmafmeblojpaa", sum := "0f38cb331eceaf7a06c0fa9f763b9db5a5c76e42c2f19b86817b552f555c6d4c", func := "gavel/gavellaw07.ClockApart", spec := "clockApart", apart := false }
def ClockApartSaid : Prop := clockApartRow.holds Try.pinned (OpenSpec.ofChange clockApartSpec)

/-- ITS FALSE NEIGHBOUR: 'it returns false'. Refute it at one input. -/
def clockApartWrong : ChangeSpec := { name := "clockApart", fn := fun _ => fun
  | [d1, d2, d3] => { results := [.lit (.bool false)], args := [d1, d2, d3] }
  | _ => none }
def ClockApartWrongFalsely : Prop := clockApartRow.holds Try.pinned (OpenSpec.ofChange clockApartWrong)

/-- 'gavellaw07.ClockPlays': WHATEVER THE INPUT: true; the input reads as it did. -/
def clockPlaysSpec : ChangeSpec := { name := "clockPlays", fn := fun _ => fun
  | [d1, d2] => { results := [.lit (.bool true)], args := [d1, d2] }
  | _ => none }
def clockPlaysRow : OpenClaim := { program := "ytccmafmeblojpaa", sum := "0f38cb331eceaf7a06c0fa9f763b9db5a5c76e42c2f19b86817b552f555c6d4c", func := "gavel/gavellaw07.ClockPlays", spec := "clockPlays", apart := false }
def ClockPlaysSaid : Prop := clockPlaysRow.holds Try.pinned (OpenSpec.ofChange clockPlaysSpec)

/-- ITS FALSE NEIGHBOUR: 'it returns false'. Refute it at one input. -/
def clockPlaysWrong : ChangeSpec := { name := "clockPlays", fn := fun _ => fun
  | [d1, d2] => { results := [.lit (.bool false)], args := [d1, d2] }
  | _ => none }
def ClockPlaysWrongFalsely : Prop := clockPlaysRow.holds Try.pinned (OpenSpec.ofChange clockPlaysWrong)

/-- 'gavellaw07.ClockNobody': WHATEVER THE INPUT: true; the input reads as it did. -/
def clockNobodySpec : ChangeSpec := { name := "clockNobody", fn := fun _ => fun
  | [d1, d2] => { results := [.lit (.bool true)], args := [d1, d2] }
  | _ => none }
def clockNobodyRow : OpenClaim := { program := "ytccmafmeblojpaa", sum := "0f38cb331eceaf7a06c0fa9f763b9db5a5c76e42c2f19b86817b552f555c6d4c", func := "gavel/gavellaw07.ClockNobody", spec := "clockNobody", apart := false }
def ClockNobodySaid : Prop := clockNobodyRow.holds Try.pinned (OpenSpec.ofChange clockNobodySpec)

/-- ITS FALSE NEIGHBOUR: 'it returns false'. Refute it at one input. -/
def clockNobodyWrong : ChangeSpec := { name := "clockNobody", fn := fun _ => fun
  | [d1, d2] => { results := [.lit (.bool false)], args := [d1, d2] }
  | _ => none }
def ClockNobodyWrongFalsely : Prop := clockNobodyRow.holds Try.pinned (OpenSpec.ofChange clockNobodyWrong)

/-- 'gavellaw07.ClockBytes': WHATEVER THE INPUT: true; the input reads as it did. -/
def clockBytesSpec : ChangeSpec := { name := "clockBytes", fn := fun _ => fun
  | [d1, d2, d3] => { results := [.lit (.bool true)], args := [d1, d2, d3] }
  | _ => none }
def clockBytesRow : OpenClaim := { program := "ytccmafmeblojpaa", sum := "0f38cb331eceaf7a06c0fa9f763b9db5a5c76e42c2f19b86817b552f555c6d4c", func := "gavel/gavellaw07.ClockBytes", spec := "clockBytes", unfollowed := true, recurses := true, apart := false }
def ClockBytesSaid : Prop := clockBytesRow.holds Try.pinned (OpenSpec.ofChange clockBytesSpec)

/-- ITS FALSE NEIGHBOUR: 'it returns false'. Refute it at one input. -/
def clockBytesWrong : ChangeSpec := { name := "clockBytes", fn := fun _ => fun
  | [d1, d2, d3] => { results := [.lit (.bool false)], args := [d1, d2, d3] }
  | _ => none }
def ClockBytesWrongFalsely : Prop := clockBytesRow.holds Try.pinned (OpenSpec.ofChange clockBytesWrong)

/-- 'gavellaw07.ClockReads': WHATEVER THE INPUT: true; the input reads as it did. -/
def clockReadsSpec : ChangeSpec := { name := "clockReads", fn := fun _ => fun
  | [d] => { results := [.lit (.bool true)], args := [d] }
  | _ => none }
def clockReadsRow : OpenClaim := { program := "ytccmafmeblojpaa", sum := "0f38cb331eceaf7a06c0fa9f763b9db5a5c76e42c2f19b86817b552f555c6d4c", func := "gavel/gavellaw07.ClockReads", spec := "clockReads", unfollowed := true, recurses := true, apart := false }
def ClockReadsSaid : Prop := clockReadsRow.holds Try.pinned (OpenSpec.ofChange clockReadsSpec)

/-- ITS FALSE NEIGHBOUR: 'it returns false'. Refute it at one input. -/
def clockReadsWrong : ChangeSpec := { name := "clockReads", fn := fun _ => fun
  | [d] => { results := [.lit (.bool false)], args := [d] }
  | _ => none }
def ClockReadsWrongFalsely : Prop := clockReadsRow.holds Try.pinned (OpenSpec.ofChange clockReadsWrong)

/- THE SECOND FORM. 'bulk': how many values and letters a reading holds, each counted each time it is reached (what is shared counts as often as it is met; a slice's spare places count too). A statement '..UptoSaid' is the law's where the arguments, and the package variables that the reading takes, are together of bulk at most 1048576: NARROWER than '..Said'. Prove '..Said' where nothing that the law and all that it calls make is longer than what came in: it says more and counts as full. Else prove '..UptoSaid'. A law counts once. -/
mutual
def uptoBulk {H : Type} : DataW H → Nat
  | .lit (.string bytes) => bytes.length + 1
  | .lit _ => 1
  | .nil => 1
  | .ptr d => uptoBulk d + 1
  | .slice elems spare => uptoBulkAll elems + uptoBulkAll spare + 1
  | .agg parts => uptoBulkAll parts + 1
  | .iface _ d => uptoBulk d + 1
  | .map entries => uptoBulkEntries entries + 1
  | .held _ => 1
def uptoBulkAll {H : Type} : List (DataW H) → Nat
  | [] => 0
  | d :: r => uptoBulk d + uptoBulkAll r
def uptoBulkEntries {H : Type} : List (Lit × DataW H) → Nat
  | [] => 0
  | x :: r => uptoBulkEntry x + uptoBulkEntries r
def uptoBulkEntry {H : Type} : Lit × DataW H → Nat
  | (.string bytes, d) => bytes.length + uptoBulk d + 1
  | (_, d) => uptoBulk d + 1
 end
def uptoSmall : (H : Type) → List (DataW H) → Bool := fun _ ds => decide (uptoBulkAll ds ≤ 1048576)
def OpenSpec.upto (s : _root_.Go.ChangeSpec) : _root_.Go.OpenSpec := { _root_.Go.OpenSpec.ofChange s with cond := some uptoSmall }

/-- 'gavellaw07.ClockShares', WHERE WHAT IT READS IS OF BULK AT MOST 1048576: true; the input reads as it did. -/
def clockSharesUptoRow : OpenClaim := { program := "ytccmafmeblojpaa", sum := "0f38cb331eceaf7a06c0fa9f763b9db5a5c76e42c2f19b86817b552f555c6d4c", func := "gavel/gavellaw07.ClockShares", spec := "clockShares", apart := false, narrowed := true }
def ClockSharesUptoSaid : Prop := clockSharesUptoRow.holds Try.pinned (OpenSpec.upto clockSharesSpec)

/-- 'gavellaw07.ClockCloses', WHERE WHAT IT READS IS OF BULK AT MOST 1048576: true; the input reads as it did. -/
def clockClosesUptoRow : OpenClaim := { program := "ytccmafmeblojpaa", sum := "0f38cb331eceaf7a06c0fa9f763b9db5a5c76e42c2f19b86817b552f555c6d4c", func := "gavel/gavellaw07.ClockCloses", spec := "clockCloses", apart := false, narrowed := true }
def ClockClosesUptoSaid : Prop := clockClosesUptoRow.holds Try.pinned (OpenSpec.upto clockClosesSpec)

/-- 'gavellaw07.ClockRises', WHERE WHAT IT READS IS OF BULK AT MOST 1048576: true; the input reads as it did. -/
def clockRisesUptoRow : OpenClaim := { program := "ytccmafmeblojpaa", sum := "0f38cb331eceaf7a06c0fa9f763b9db5a5c76e42c2f19b86817b552f555c6d4c", func := "gavel/gavellaw07.ClockRises", spec := "clockRises", apart := false, narrowed := true }
def ClockRisesUptoSaid : Prop := clockRisesUptoRow.holds Try.pinned (OpenSpec.upto clockRisesSpec)

/-- 'gavellaw07.ClockSells', WHERE WHAT IT READS IS OF BULK AT MOST 1048576: true; the input reads as it did. -/
def clockSellsUptoRow : OpenClaim := { program := "ytccmafmeblojpaa", sum := "0f38cb331eceaf7a06c0fa9f763b9db5a5c76e42c2f19b86817b552f555c6d4c", func := "gavel/gavellaw07.ClockSells", spec := "clockSells", apart := false, narrowed := true }
def ClockSellsUptoSaid : Prop := clockSellsUptoRow.holds Try.pinned (OpenSpec.upto clockSellsSpec)

/-- 'gavellaw07.ClockApart', WHERE WHAT IT READS IS OF BULK AT MOST 1048576: true; the input reads as it did. -/
def clockApartUptoRow : OpenClaim := { program := "ytccmafmeblojpaa", sum := "0f38cb331eceaf7a06c0fa9f763b9db5a5c76e42c2f19b86817b552f555c6d4c", func := "gavel/gavellaw07.ClockApart", spec := "clockApart", apart := false, narrowed := true }
def ClockApartUptoSaid : Prop := clockApartUptoRow.holds Try.pinned (OpenSpec.upto clockApartSpec)

/-- 'gavellaw07.ClockPlays', WHERE WHAT IT READS IS OF BULK AT MOST 1048576: true; the input reads as it did. -/
def clockPlaysUptoRow : OpenClaim := { program := "ytccmafmeblojpaa", sum := "0f38cb331eceaf7a06c0fa9f763b9db5a5c76e42c2f19b86817b552f555c6d4c", func := "gavel/gavellaw07.ClockPlays", spec := "clockPlays", apart := false, narrowed := true }
def ClockPlaysUptoSaid : Prop := clockPlaysUptoRow.holds Try.pinned (OpenSpec.upto clockPlaysSpec)

/-- 'gavellaw07.ClockNobody', WHERE WHAT IT READS IS OF BULK AT MOST 1048576: true; the input reads as it did. -/
def clockNobodyUptoRow : OpenClaim := { program := "ytccmafmeblojpaa", sum := "0f38cb331eceaf7a06c0fa9f763b9db5a5c76e42c2f19b86817b552f555c6d4c", func := "gavel/gavellaw07.ClockNobody", spec := "clockNobody", apart := false, narrowed := true }
def ClockNobodyUptoSaid : Prop := clockNobodyUptoRow.holds Try.pinned (OpenSpec.upto clockNobodySpec)

/-- 'gavellaw07.ClockBytes', WHERE WHAT IT READS IS OF BULK AT MOST 1048576: true; the input reads as it did. -/
def clockBytesUptoRow : OpenClaim := { program := "ytccmafmeblojpaa", sum := "0f38cb331eceaf7a06c0fa9f763b9db5a5c76e42c2f19b86817b552f555c6d4c", func := "gavel/gavellaw07.ClockBytes", spec := "clockBytes", unfollowed := true, recurses := true, apart := false, narrowed := true }
def ClockBytesUptoSaid : Prop := clockBytesUptoRow.holds Try.pinned (OpenSpec.upto clockBytesSpec)

/-- 'gavellaw07.ClockReads', WHERE WHAT IT READS IS OF BULK AT MOST 1048576: true; the input reads as it did. -/
def clockReadsUptoRow : OpenClaim := { program := "ytccmafmeblojpaa", sum := "0f38cb331eceaf7a06c0fa9f763b9db5a5c76e42c2f19b86817b552f555c6d4c", func := "gavel/gavellaw07.ClockReads", spec := "clockReads", unfollowed := true, recurses := true, apart := false, narrowed := true }
def ClockReadsUptoSaid : Prop := clockReadsUptoRow.holds Try.pinned (OpenSpec.upto clockReadsSpec)

end Rows
end Go.Proofs.Ytccmafmeblojpaa
