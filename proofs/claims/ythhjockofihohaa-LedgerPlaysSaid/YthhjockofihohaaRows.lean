/-
  No cell of these rows narrows 'for every input' (looked for: loops, veiled, ifaces, maps, wideKeys, modest, calm, conditions, laid).
  DERIVED. THE GIVEN ROWS OF THIS SEAT. 4 by the template 'for every input the law returns true; each argument reads behind the call as it read before'; 0 by the template 'total and deterministic' (their statements: YthhjockofihohaaTotals.lean).
  GIVEN WITH THE SEED: the statements are not yours to turn. If you find one false, say at which input.
  Laid BY PROGRAM, IN A SANDBOX (cutbox-rows.mjs): the forced cells as the released guide's own fill.sh prints them over the translation 11df3217b430f232… (all of the seat's roots in one cut). By AI agents, Wed Nov 11 2026. No macro, syntax, notation, axiom, sorry.
-/
import Derived.Test.YthhjockofihohaaChecked
import GoSem.Claim
import GoSem.ClaimJoined
import GoSem.ClaimMapViews
import Derived.JoinedTies
import Derived.KernelRfl
namespace Go.Proofs.Ythhjockofihohaa
/- THE CELL 'sum', in the pinned program and in every row, IS THE sha256 OF THE DUMP (.gsa) THAT YthhjockofihohaaProg.lean LOADS. Nothing in Lean hashes anything: it is a label: what it is worth is what the hold of that sum in a sandbox is worth. -/
noncomputable def Try.pinned : Pinned := { name := "ythhjockofihohaa", sum := "11df3217b430f23289b30184d3bee0216270fde1d8e34b5e47e9b51923ca6210", checked := Try.checked }
namespace Rows
def none {H : Type} : Left H := { results := [], args := [] }

/-- 'gavellaw06.LedgerConserves': WHATEVER THE INPUT: true; the input reads as it did. -/
def ledgerConservesSpec : ChangeSpec := { name := "ledgerConserves", fn := fun _ => fun
  | [d1, d2] => { results := [.lit (.bool true)], args := [d1, d2] }
  | _ => none }
def ledgerConservesRow : OpenClaim := { program := "ythhjockofihohaa", sum := "11df3217b430f23289b30184d3bee0216270fde1d8e34b5e47e9b51923ca6210", func := "gavel/gavellaw06.LedgerConserves", spec := "ledgerConserves", apart := false }
def LedgerConservesSaid : Prop := ledgerConservesRow.holds Try.pinned (OpenSpec.ofChange ledgerConservesSpec)

/-- ITS FALSE NEIGHBOUR: 'it returns false'. Refute it at one input. -/
def ledgerConservesWrong : ChangeSpec := { name := "ledgerConserves", fn := fun _ => fun
  | [d1, d2] => { results := [.lit (.bool false)], args := [d1, d2] }
  | _ => none }
def LedgerConservesWrongFalsely : Prop := ledgerConservesRow.holds Try.pinned (OpenSpec.ofChange ledgerConservesWrong)

/-- 'gavellaw06.LedgerHolds': WHATEVER THE INPUT: true; the input reads as it did. -/
def ledgerHoldsSpec : ChangeSpec := { name := "ledgerHolds", fn := fun _ => fun
  | [d] => { results := [.lit (.bool true)], args := [d] }
  | _ => none }
def ledgerHoldsRow : OpenClaim := { program := "ythhjockofihohaa", sum := "11df3217b430f23289b30184d3bee0216270fde1d8e34b5e47e9b51923ca6210", func := "gavel/gavellaw06.LedgerHolds", spec := "ledgerHolds", apart := false }
def LedgerHoldsSaid : Prop := ledgerHoldsRow.holds Try.pinned (OpenSpec.ofChange ledgerHoldsSpec)

/-- ITS FALSE NEIGHBOUR: 'it returns false'. Refute it at one input. -/
def ledgerHoldsWrong : ChangeSpec := { name := "ledgerHolds", fn := fun _ => fun
  | [d] => { results := [.lit (.bool false)], args := [d] }
  | _ => none }
def LedgerHoldsWrongFalsely : Prop := ledgerHoldsRow.holds Try.pinned (OpenSpec.ofChange ledgerHoldsWrong)

/-- 'gavellaw06.LedgerPlays': WHATEVER THE INPUT: true; the input reads as it did. -/
def ledgerPlaysSpec : ChangeSpec := { name := "ledgerPlays", fn := fun _ => fun
  | [d1, d2, d3] => { results := [.lit (.bool true)], args := [d1, d2, d3] }
  | _ => none }
def ledgerPlaysRow : OpenClaim := { program := "ythhjockofihohaa", sum := "11df3217b430f23289b30184d3bee0216270fde1d8e34b5e47e9b51923ca6210", func := "gavel/gavellaw06.LedgerPlays", spec := "ledgerPlays", apart := false }
def LedgerPlaysSaid : Prop := ledgerPlaysRow.holds Try.pinned (OpenSpec.ofChange ledgerPlaysSpec)

/-- ITS FALSE NEIGHBOUR: 'it returns false'. Refute it at one input. -/
def ledgerPlaysWrong : ChangeSpec := { name := "ledgerPlays", fn := fun _ => fun
  | [d1, d2, d3] => { results := [.lit (.bool false)], args := [d1, d2, d3] }
  | _ => none }
def LedgerPlaysWrongFalsely : Prop := ledgerPlaysRow.holds Try.pinned (OpenSpec.ofChange ledgerPlaysWrong)

/-- 'gavellaw06.LedgerStamps': WHATEVER THE INPUT: true; the input reads as it did. -/
def ledgerStampsSpec : ChangeSpec := { name := "ledgerStamps", fn := fun _ => fun
  | [d1, d2] => { results := [.lit (.bool true)], args := [d1, d2] }
  | _ => none }
def ledgerStampsRow : OpenClaim := { program := "ythhjockofihohaa", sum := "11df3217b430f23289b30184d3bee0216270fde1d8e34b5e47e9b51923ca6210", func := "gavel/gavellaw06.LedgerStamps", spec := "ledgerStamps", apart := false }
def LedgerStampsSaid : Prop := ledgerStampsRow.holds Try.pinned (OpenSpec.ofChange ledgerStampsSpec)

/-- ITS FALSE NEIGHBOUR: 'it returns false'. Refute it at one input. -/
def ledgerStampsWrong : ChangeSpec := { name := "ledgerStamps", fn := fun _ => fun
  | [d1, d2] => { results := [.lit (.bool false)], args := [d1, d2] }
  | _ => none }
def LedgerStampsWrongFalsely : Prop := ledgerStampsRow.holds Try.pinned (OpenSpec.ofChange ledgerStampsWrong)

/- THE SECOND FORM. 'bulk': how many values and letters a reading holds, each counted each time it is reached (what is shared counts as often as it is met; a slice's spare places count too). A statement '..UptoSaid' is the law's where the arguments, and the package variables that the reading takes, are together of bulk at most 1048576: NARROWER than '..Said'. Prove '..Said' where nothing that the law and all that it calls make is longer than what came in: it says more and counts as full. Else prove '..UptoSaid'. A law counts once. -/
mutual
def uptoBulk {H : Type} : DataW H → Nat
  | .lit (.string bytes) => bytes.length + 1
  | .lit _ => 1
  | .nil => 1
  | .ptr d => uptoBulk d + 1
  | .slice elems spare => uptoBulkAll elems + uptoBulkAll spare + 1
  | .agg parts => uptoBulkAll parts + 1
  | .iface _ d => uptoBulk d + 1
  | .map entries => uptoBulkEntries entries + 1
  | .held _ => 1
def uptoBulkAll {H : Type} : List (DataW H) → Nat
  | [] => 0
  | d :: r => uptoBulk d + uptoBulkAll r
def uptoBulkEntries {H : Type} : List (Lit × DataW H) → Nat
  | [] => 0
  | x :: r => uptoBulkEntry x + uptoBulkEntries r
def uptoBulkEntry {H : Type} : Lit × DataW H → Nat
  | (.string bytes, d) => bytes.length + uptoBulk d + 1
  | (_, d) => uptoBulk d + 1
 end
def uptoSmall : (H : Type) → List (DataW H) → Bool := fun _ ds => decide (uptoBulkAll ds ≤ 1048576)
def OpenSpec.upto (s : _root_.Go.ChangeSpec) : _root_.Go.OpenSpec := { _root_.Go.OpenSpec.ofChange s with cond := some uptoSmall }

/-- 'gavellaw06.LedgerConserves', WHERE WHAT IT READS IS OF BULK AT MOST 1048576: true; the input reads as it did. -/
def ledgerConservesUptoRow : OpenClaim := { program := "ythhjockofihohaa", sum := "11df3217b430f23289b30184d3bee0216270fde1d8e34b5e47e9b51923ca6210", func := "gavel/gavellaw06.LedgerConserves", spec := "ledgerConserves", apart := false, narrowed := true }
def LedgerConservesUptoSaid : Prop := ledgerConservesUptoRow.holds Try.pinned (OpenSpec.upto ledgerConservesSpec)

/-- 'gavellaw06.LedgerHolds', WHERE WHAT IT READS IS OF BULK AT MOST 1048576: true; the input reads as it did. -/
def ledgerHoldsUptoRow : OpenClaim := { program := "ythhjockofihohaa", sum := "11df3217b430f23289b30184d3bee0216270fde1d8e34b5e47e9b51923ca6210", func := "gavel/gavellaw06.LedgerHolds", spec := "ledgerHolds", apart := false, narrowed := true }
def LedgerHoldsUptoSaid : Prop := ledgerHoldsUptoRow.holds Try.pinned (OpenSpec.upto ledgerHoldsSpec)

/-- 'gavellaw06.LedgerPlays', WHERE WHAT IT READS IS OF BULK AT MOST 1048576: true; the input reads as it did. -/
def ledgerPlaysUptoRow : OpenClaim := { program := "ythhjockofihohaa", sum := "11df3217b430f23289b30184d3bee0216270fde1d8e34b5e47e9b51923ca6210", func := "gavel/gavellaw06.LedgerPlays", spec := "ledgerPlays", apart := false, narrowed := true }
def LedgerPlaysUptoSaid : Prop := ledgerPlaysUptoRow.holds Try.pinned (OpenSpec.upto ledgerPlaysSpec)

/-- 'gavellaw06.LedgerStamps', WHERE WHAT IT READS IS OF BULK AT MOST 1048576: true; the input reads as it did. -/
def ledgerStampsUptoRow : OpenClaim := { program := "ythhjockofihohaa", sum := "11df3217b430f23289b30184d3bee0216270fde1d8e34b5e47e9b51923ca6210", func := "gavel/gavellaw06.LedgerStamps", spec := "ledgerStamps", apart := false, narrowed := true }
def LedgerStampsUptoSaid : Prop := ledgerStampsUptoRow.holds Try.pinned (OpenSpec.upto ledgerStampsSpec)

end Rows
end Go.Proofs.Ythhjockofihohaa
