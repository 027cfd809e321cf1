/-
  No cell of these rows narrows 'for every input' (looked for: loops, veiled, ifaces, maps, wideKeys, modest, calm, conditions, laid).
  DERIVED. THE GIVEN ROWS OF THIS SEAT. 3 by the template 'for every input the law returns true; each argument reads behind the call as it read before'; 0 by the template 'total and deterministic' (their statements: YtgppjajkhdhcaaaTotals.lean).
  GIVEN WITH THE SEED: the statements are not yours to turn. If you find one false, say at which input.
  Laid BY PROGRAM, IN A SANDBOX (cutbox-rows.mjs): the forced cells as the released guide's own fill.sh prints them over the translation 976ec5631330876b… (all of the seat's roots in one cut). By AI agents, Wed Nov 11 2026. No macro, syntax, notation, axiom, sorry.
-/
import Derived.Test.YtgppjajkhdhcaaaChecked
import GoSem.Claim
import GoSem.ClaimJoined
import GoSem.ClaimMapViews
import Derived.JoinedTies
import Derived.KernelRfl
namespace Go.Proofs.Ytgppjajkhdhcaaa
/- THE CELL 'sum', in the pinned program and in every row, IS THE sha256 OF THE DUMP (.gsa) THAT YtgppjajkhdhcaaaProg.lean LOADS. Nothing in Lean hashes anything: it is a label: what it is worth is what the hold of that sum in a sandbox is worth. -/
noncomputable def Try.pinned : Pinned := { name := "ytgppjajkhdhcaaa", sum := "976ec5631330876ba06cad599b1299a9524839590a8761f1fff48ebf38387657", checked := Try.checked }
namespace Rows
def none {H : Type} : Left H := { results := [], args := [] }

/-- 'gavellaw05.QuoteSorted': WHATEVER THE INPUT: true; the input reads as it did. -/
def quoteSortedSpec : ChangeSpec := { name := "quoteSorted", fn := fun _ => fun
  | [d] => { results := [.lit (.bool true)], args := [d] }
  | _ => none }
def quoteSortedRow : OpenClaim := { program := "ytgppjajkhdhcaaa", sum := "976ec5631330876ba06cad599b1299a9524839590a8761f1fff48ebf38387657", func := "gavel/gavellaw05.QuoteSorted", spec := "quoteSorted", inPlace := ["math.Float64frombits", "math.Float64bits", "math.archTrunc"], unfollowed := true, recurses := true, apart := false }
def QuoteSortedSaid : Prop := quoteSortedRow.holds Try.pinned (OpenSpec.ofChange quoteSortedSpec)

/-- ITS FALSE NEIGHBOUR: 'it returns false'. Refute it at one input. -/
def quoteSortedWrong : ChangeSpec := { name := "quoteSorted", fn := fun _ => fun
  | [d] => { results := [.lit (.bool false)], args := [d] }
  | _ => none }
def QuoteSortedWrongFalsely : Prop := quoteSortedRow.holds Try.pinned (OpenSpec.ofChange quoteSortedWrong)

/-- 'gavellaw05.QuoteBest': WHATEVER THE INPUT: true; the input reads as it did. -/
def quoteBestSpec : ChangeSpec := { name := "quoteBest", fn := fun _ => fun
  | [d] => { results := [.lit (.bool true)], args := [d] }
  | _ => none }
def quoteBestRow : OpenClaim := { program := "ytgppjajkhdhcaaa", sum := "976ec5631330876ba06cad599b1299a9524839590a8761f1fff48ebf38387657", func := "gavel/gavellaw05.QuoteBest", spec := "quoteBest", inPlace := ["math.Float64frombits", "math.Float64bits", "math.archTrunc"], unfollowed := true, recurses := true, apart := false }
def QuoteBestSaid : Prop := quoteBestRow.holds Try.pinned (OpenSpec.ofChange quoteBestSpec)

/-- ITS FALSE NEIGHBOUR: 'it returns false'. Refute it at one input. -/
def quoteBestWrong : ChangeSpec := { name := "quoteBest", fn := fun _ => fun
  | [d] => { results := [.lit (.bool false)], args := [d] }
  | _ => none }
def QuoteBestWrongFalsely : Prop := quoteBestRow.holds Try.pinned (OpenSpec.ofChange quoteBestWrong)

/-- 'gavellaw05.QuoteMedian': WHATEVER THE INPUT: true; the input reads as it did. -/
def quoteMedianSpec : ChangeSpec := { name := "quoteMedian", fn := fun _ => fun
  | [d] => { results := [.lit (.bool true)], args := [d] }
  | _ => none }
def quoteMedianRow : OpenClaim := { program := "ytgppjajkhdhcaaa", sum := "976ec5631330876ba06cad599b1299a9524839590a8761f1fff48ebf38387657", func := "gavel/gavellaw05.QuoteMedian", spec := "quoteMedian", inPlace := ["math.Float64frombits", "math.Float64bits", "math.archTrunc"], unfollowed := true, recurses := true, apart := false }
def QuoteMedianSaid : Prop := quoteMedianRow.holds Try.pinned (OpenSpec.ofChange quoteMedianSpec)

/-- ITS FALSE NEIGHBOUR: 'it returns false'. Refute it at one input. -/
def quoteMedianWrong : ChangeSpec := { name := "quoteMedian", fn := fun _ => fun
  | [d] => { results := [.lit (.bool false)], args := [d] }
  | _ => none }
def QuoteMedianWrongFalsely : Prop := quoteMedianRow.holds Try.pinned (OpenSpec.ofChange quoteMedianWrong)

/- THE SECOND FORM. 'bulk': how many values and letters a reading holds, each counted each time it is reached (what is shared counts as often as it is met; a slice's spare places count too). A statement '..UptoSaid' is the law's where the arguments, and the package variables that the reading takes, are together of bulk at most 1048576: NARROWER than '..Said'. Prove '..Said' where nothing that the law and all that it calls make is longer than what came in: it says more and counts as full. Else prove '..UptoSaid'. A law counts once. -/
mutual
def uptoBulk {H : Type} : DataW H → Nat
  | .lit (.string bytes) => bytes.length + 1
  | .lit _ => 1
  | .nil => 1
  | .ptr d => uptoBulk d + 1
  | .slice elems spare => uptoBulkAll elems + uptoBulkAll spare + 1
  | .agg parts => uptoBulkAll parts + 1
  | .iface _ d => uptoBulk d + 1
  | .map entries => uptoBulkEntries entries + 1
  | .held _ => 1
def uptoBulkAll {H : Type} : List (DataW H) → Nat
  | [] => 0
  | d :: r => uptoBulk d + uptoBulkAll r
def uptoBulkEntries {H : Type} : List (Lit × DataW H) → Nat
  | [] => 0
  | x :: r => uptoBulkEntry x + uptoBulkEntries r
def uptoBulkEntry {H : Type} : Lit × DataW H → Nat
  | (.string bytes, d) => bytes.length + uptoBulk d + 1
  | (_, d) => uptoBulk d + 1
 end
def uptoSmall : (H : Type) → List (DataW H) → Bool := fun _ ds => decide (uptoBulkAll ds ≤ 1048576)
def OpenSpec.upto (s : _root_.Go.ChangeSpec) : _root_.Go.OpenSpec := { _root_.Go.OpenSpec.ofChange s with cond := some uptoSmall }

/-- 'gavellaw05.QuoteSorted', WHERE WHAT IT READS IS OF BULK AT MOST 1048576: true; the input reads as it did. -/
def quoteSortedUptoRow : OpenClaim := { program := "ytgppjajkhdhcaaa", sum := "976ec5631330876ba06cad599b1299a9524839590a8761f1fff48ebf38387657", func := "gavel/gavellaw05.QuoteSorted", spec := "quoteSorted", inPlace := ["math.Float64frombits", "math.Float64bits", "math.archTrunc"], unfollowed := true, recurses := true, apart := false, narrowed := true }
def QuoteSortedUptoSaid : Prop := quoteSortedUptoRow.holds Try.pinned (OpenSpec.upto quoteSortedSpec)

/-- 'gavellaw05.QuoteBest', WHERE WHAT IT READS IS OF BULK AT MOST 1048576: true; the input reads as it did. -/
def quoteBestUptoRow : OpenClaim := { program := "ytgppjajkhdhcaaa", sum := "976ec5631330876ba06cad599b1299a9524839590a8761f1fff48ebf38387657", func := "gavel/gavellaw05.QuoteBest", spec := "quoteBest", inPlace := ["math.Float64frombits", "math.Float64bits", "math.archTrunc"], unfollowed := true, recurses := true, apart := false, narrowed := true }
def QuoteBestUptoSaid : Prop := quoteBestUptoRow.holds Try.pinned (OpenSpec.upto quoteBestSpec)

/-- 'gavellaw05.QuoteMedian', WHERE WHAT IT READS IS OF BULK AT MOST 1048576: true; the input reads as it did. -/
def quoteMedianUptoRow : OpenClaim := { program := "ytgppjajkhdhcaaa", sum := "976ec5631330876ba06cad599b1299a9524839590a8761f1fff48ebf38387657", func := "gavel/gavellaw05.QuoteMedian", spec := "quoteMedian", inPlace := ["math.Float64frombits", "math.Float64bits", "math.archTrunc"], unfollowed := true, recurses := true, apart := false, narrowed := true }
def QuoteMedianUptoSaid : Prop := quoteMedianUptoRow.holds Try.pinned (OpenSpec.upto quoteMedianSpec)

end Rows
end Go.Proofs.Ytgppjajkhdhcaaa
