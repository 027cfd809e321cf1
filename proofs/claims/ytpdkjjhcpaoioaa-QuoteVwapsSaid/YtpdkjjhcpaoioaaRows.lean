/-
  No cell of these rows narrows 'for every input' (looked for: loops, veiled, ifaces, maps, wideKeys, modest, calm, conditions, laid).
  DERIVED. THE GIVEN ROWS OF THIS SEAT. 10 by the template 'for every input the law returns true; each argument reads behind the call as it read before'; 0 by the template 'total and deterministic' (their statements: YtpdkjjhcpaoioaaTotals.lean).
  GIVEN WITH THE SEED: the statements are not yours to turn. If you find one false, say at which input.
  Laid BY PROGRAM, IN A SANDBOX (cutbox-rows.mjs): the forced cells as the released guide's own fill.sh prints them over the translation 809b50f494fb9162… (all of the seat's roots in one cut). By AI agents, Wed Nov 11 2026. No macro, syntax, notation, axiom, sorry.
-/
import Derived.Test.YtpdkjjhcpaoioaaChecked
import GoSem.Claim
import GoSem.ClaimJoined
import GoSem.ClaimMapViews
import Derived.JoinedTies
import Derived.KernelRfl
namespace Go.Proofs.Ytpdkjjhcpaoioaa
/- THE CELL 'sum', in the pinned program and in every row, IS THE sha256 OF THE DUMP (.gsa) THAT YtpdkjjhcpaoioaaProg.lean LOADS. Nothing in Lean hashes anything: it is a label: what it is worth is what the hold of that sum in a sandbox is worth. -/
noncomputable def Try.pinned : Pinned := { name := "ytpdkjjhcpaoioaa", sum := "809b50f494fb916210ddba56586ebb9557b56b4f7532323a43c958fcba007d38", checked := Try.checked }
namespace Rows
def none {H : Type} : Left H := { results := [], args := [] }

/-- 'gavellaw05.QuoteTicks': WHATEVER THE INPUT: true; the input reads as it did. -/
def quoteTicksSpec : ChangeSpec := { name := "quoteTicks", fn := fun _ => fun
  | [d1, d2] => { results := [.lit (.bool true)], args := [d1, d2] }
  | _ => none }
def quoteTicksRow : OpenClaim := { program := "ytpdkjjhcpaoioaa", sum := "809b50f494fb916210ddba56586ebb9557b56b4f7532323a43c958fcba007d38", func := "gavel/gavellaw05.QuoteTicks", spec := "quoteTicks", inPlace := ["math.Float64bits", "math.Float64frombits", "math.archTrunc"], apart := false }
def QuoteTicksSaid : Prop := quoteTicksRow.holds Try.pinned (OpenSpec.ofChange quoteTicksSpec)

/-- ITS FALSE NEIGHBOUR: 'it returns false'. Refute it at one input. -/
def quoteTicksWrong : ChangeSpec := { name := "quoteTicks", fn := fun _ => fun
  | [d1, d2] => { results := [.lit (.bool false)], args := [d1, d2] }
  | _ => none }
def QuoteTicksWrongFalsely : Prop := quoteTicksRow.holds Try.pinned (OpenSpec.ofChange quoteTicksWrong)

/-- 'gavellaw05.QuotePrices': WHATEVER THE INPUT: true; the input reads as it did. -/
def quotePricesSpec : ChangeSpec := { name := "quotePrices", fn := fun _ => fun
  | [d1, d2] => { results := [.lit (.bool true)], args := [d1, d2] }
  | _ => none }
def quotePricesRow : OpenClaim := { program := "ytpdkjjhcpaoioaa", sum := "809b50f494fb916210ddba56586ebb9557b56b4f7532323a43c958fcba007d38", func := "gavel/gavellaw05.QuotePrices", spec := "quotePrices", inPlace := ["math.Float64bits", "math.Float64frombits", "math.archTrunc"], apart := false }
def QuotePricesSaid : Prop := quotePricesRow.holds Try.pinned (OpenSpec.ofChange quotePricesSpec)

/-- ITS FALSE NEIGHBOUR: 'it returns false'. Refute it at one input. -/
def quotePricesWrong : ChangeSpec := { name := "quotePrices", fn := fun _ => fun
  | [d1, d2] => { results := [.lit (.bool false)], args := [d1, d2] }
  | _ => none }
def QuotePricesWrongFalsely : Prop := quotePricesRow.holds Try.pinned (OpenSpec.ofChange quotePricesWrong)

/-- 'gavellaw05.QuoteExact': WHATEVER THE INPUT: true; the input reads as it did. -/
def quoteExactSpec : ChangeSpec := { name := "quoteExact", fn := fun _ => fun
  | [d1, d2] => { results := [.lit (.bool true)], args := [d1, d2] }
  | _ => none }
def quoteExactRow : OpenClaim := { program := "ytpdkjjhcpaoioaa", sum := "809b50f494fb916210ddba56586ebb9557b56b4f7532323a43c958fcba007d38", func := "gavel/gavellaw05.QuoteExact", spec := "quoteExact", inPlace := ["math.Float64bits", "math.Float64frombits", "math.archTrunc"], apart := false }
def QuoteExactSaid : Prop := quoteExactRow.holds Try.pinned (OpenSpec.ofChange quoteExactSpec)

/-- ITS FALSE NEIGHBOUR: 'it returns false'. Refute it at one input. -/
def quoteExactWrong : ChangeSpec := { name := "quoteExact", fn := fun _ => fun
  | [d1, d2] => { results := [.lit (.bool false)], args := [d1, d2] }
  | _ => none }
def QuoteExactWrongFalsely : Prop := quoteExactRow.holds Try.pinned (OpenSpec.ofChange quoteExactWrong)

/-- 'gavellaw05.QuoteOrder': WHATEVER THE INPUT: true; the input reads as it did. -/
def quoteOrderSpec : ChangeSpec := { name := "quoteOrder", fn := fun _ => fun
  | [d1, d2, d3] => { results := [.lit (.bool true)], args := [d1, d2, d3] }
  | _ => none }
def quoteOrderRow : OpenClaim := { program := "ytpdkjjhcpaoioaa", sum := "809b50f494fb916210ddba56586ebb9557b56b4f7532323a43c958fcba007d38", func := "gavel/gavellaw05.QuoteOrder", spec := "quoteOrder", inPlace := ["math.Float64bits", "math.Float64frombits", "math.archTrunc"], apart := false }
def QuoteOrderSaid : Prop := quoteOrderRow.holds Try.pinned (OpenSpec.ofChange quoteOrderSpec)

/-- ITS FALSE NEIGHBOUR: 'it returns false'. Refute it at one input. -/
def quoteOrderWrong : ChangeSpec := { name := "quoteOrder", fn := fun _ => fun
  | [d1, d2, d3] => { results := [.lit (.bool false)], args := [d1, d2, d3] }
  | _ => none }
def QuoteOrderWrongFalsely : Prop := quoteOrderRow.holds Try.pinned (OpenSpec.ofChange quoteOrderWrong)

/-- 'gavellaw05.QuoteBetween': WHATEVER THE INPUT: true; the input reads as it did. -/
def quoteBetweenSpec : ChangeSpec := { name := "quoteBetween", fn := fun _ => fun
  | [d1, d2] => { results := [.lit (.bool true)], args := [d1, d2] }
  | _ => none }
def quoteBetweenRow : OpenClaim := { program := "ytpdkjjhcpaoioaa", sum := "809b50f494fb916210ddba56586ebb9557b56b4f7532323a43c958fcba007d38", func := "gavel/gavellaw05.QuoteBetween", spec := "quoteBetween", inPlace := ["math.Float64frombits", "math.Float64bits", "math.archTrunc"], apart := false }
def QuoteBetweenSaid : Prop := quoteBetweenRow.holds Try.pinned (OpenSpec.ofChange quoteBetweenSpec)

/-- ITS FALSE NEIGHBOUR: 'it returns false'. Refute it at one input. -/
def quoteBetweenWrong : ChangeSpec := { name := "quoteBetween", fn := fun _ => fun
  | [d1, d2] => { results := [.lit (.bool false)], args := [d1, d2] }
  | _ => none }
def QuoteBetweenWrongFalsely : Prop := quoteBetweenRow.holds Try.pinned (OpenSpec.ofChange quoteBetweenWrong)

/-- 'gavellaw05.QuoteMids': WHATEVER THE INPUT: true; the input reads as it did. -/
def quoteMidsSpec : ChangeSpec := { name := "quoteMids", fn := fun _ => fun
  | [d1, d2] => { results := [.lit (.bool true)], args := [d1, d2] }
  | _ => none }
def quoteMidsRow : OpenClaim := { program := "ytpdkjjhcpaoioaa", sum := "809b50f494fb916210ddba56586ebb9557b56b4f7532323a43c958fcba007d38", func := "gavel/gavellaw05.QuoteMids", spec := "quoteMids", inPlace := ["math.Float64frombits", "math.Float64bits", "math.archTrunc"], apart := false }
def QuoteMidsSaid : Prop := quoteMidsRow.holds Try.pinned (OpenSpec.ofChange quoteMidsSpec)

/-- ITS FALSE NEIGHBOUR: 'it returns false'. Refute it at one input. -/
def quoteMidsWrong : ChangeSpec := { name := "quoteMids", fn := fun _ => fun
  | [d1, d2] => { results := [.lit (.bool false)], args := [d1, d2] }
  | _ => none }
def QuoteMidsWrongFalsely : Prop := quoteMidsRow.holds Try.pinned (OpenSpec.ofChange quoteMidsWrong)

/-- 'gavellaw05.QuoteVwaps': WHATEVER THE INPUT: true; the input reads as it did. -/
def quoteVwapsSpec : ChangeSpec := { name := "quoteVwaps", fn := fun _ => fun
  | [d1, d2] => { results := [.lit (.bool true)], args := [d1, d2] }
  | _ => none }
def quoteVwapsRow : OpenClaim := { program := "ytpdkjjhcpaoioaa", sum := "809b50f494fb916210ddba56586ebb9557b56b4f7532323a43c958fcba007d38", func := "gavel/gavellaw05.QuoteVwaps", spec := "quoteVwaps", inPlace := ["math.Float64bits", "math.Float64frombits", "math.archTrunc"], apart := false }
def QuoteVwapsSaid : Prop := quoteVwapsRow.holds Try.pinned (OpenSpec.ofChange quoteVwapsSpec)

/-- ITS FALSE NEIGHBOUR: 'it returns false'. Refute it at one input. -/
def quoteVwapsWrong : ChangeSpec := { name := "quoteVwaps", fn := fun _ => fun
  | [d1, d2] => { results := [.lit (.bool false)], args := [d1, d2] }
  | _ => none }
def QuoteVwapsWrongFalsely : Prop := quoteVwapsRow.holds Try.pinned (OpenSpec.ofChange quoteVwapsWrong)

/-- 'gavellaw05.QuoteClamps': WHATEVER THE INPUT: true; the input reads as it did. -/
def quoteClampsSpec : ChangeSpec := { name := "quoteClamps", fn := fun _ => fun
  | [d1, d2, d3] => { results := [.lit (.bool true)], args := [d1, d2, d3] }
  | _ => none }
def quoteClampsRow : OpenClaim := { program := "ytpdkjjhcpaoioaa", sum := "809b50f494fb916210ddba56586ebb9557b56b4f7532323a43c958fcba007d38", func := "gavel/gavellaw05.QuoteClamps", spec := "quoteClamps", inPlace := ["math.Float64bits", "math.Float64frombits", "math.archTrunc"], apart := false }
def QuoteClampsSaid : Prop := quoteClampsRow.holds Try.pinned (OpenSpec.ofChange quoteClampsSpec)

/-- ITS FALSE NEIGHBOUR: 'it returns false'. Refute it at one input. -/
def quoteClampsWrong : ChangeSpec := { name := "quoteClamps", fn := fun _ => fun
  | [d1, d2, d3] => { results := [.lit (.bool false)], args := [d1, d2, d3] }
  | _ => none }
def QuoteClampsWrongFalsely : Prop := quoteClampsRow.holds Try.pinned (OpenSpec.ofChange quoteClampsWrong)

/-- 'gavellaw05.QuoteBytes': WHATEVER THE INPUT: true; the input reads as it did. -/
def quoteBytesSpec : ChangeSpec := { name := "quoteBytes", fn := fun _ => fun
  | [d1, d2] => { results := [.lit (.bool true)], args := [d1, d2] }
  | _ => none }
def quoteBytesRow : OpenClaim := { program := "ytpdkjjhcpaoioaa", sum := "809b50f494fb916210ddba56586ebb9557b56b4f7532323a43c958fcba007d38", func := "gavel/gavellaw05.QuoteBytes", spec := "quoteBytes", inPlace := ["math.Float64frombits", "math.Float64bits", "math.archTrunc"], apart := false }
def QuoteBytesSaid : Prop := quoteBytesRow.holds Try.pinned (OpenSpec.ofChange quoteBytesSpec)

/-- ITS FALSE NEIGHBOUR: 'it returns false'. Refute it at one input. -/
def quoteBytesWrong : ChangeSpec := { name := "quoteBytes", fn := fun _ => fun
  | [d1, d2] => { results := [.lit (.bool false)], args := [d1, d2] }
  | _ => none }
def QuoteBytesWrongFalsely : Prop := quoteBytesRow.holds Try.pinned (OpenSpec.ofChange quoteBytesWrong)

/-- 'gavellaw05.QuoteWhole': WHATEVER THE INPUT: true; the input reads as it did. -/
def quoteWholeSpec : ChangeSpec := { name := "quoteWhole", fn := fun _ => fun
  | [d] => { results := [.lit (.bool true)], args := [d] }
  | _ => none }
def quoteWholeRow : OpenClaim := { program := "ytpdkjjhcpaoioaa", sum := "809b50f494fb916210ddba56586ebb9557b56b4f7532323a43c958fcba007d38", func := "gavel/gavellaw05.QuoteWhole", spec := "quoteWhole", inPlace := ["math.Float64bits", "math.Float64frombits", "math.RoundToEven", "math.archTrunc"], apart := false }
def QuoteWholeSaid : Prop := quoteWholeRow.holds Try.pinned (OpenSpec.ofChange quoteWholeSpec)

/-- ITS FALSE NEIGHBOUR: 'it returns false'. Refute it at one input. -/
def quoteWholeWrong : ChangeSpec := { name := "quoteWhole", fn := fun _ => fun
  | [d] => { results := [.lit (.bool false)], args := [d] }
  | _ => none }
def QuoteWholeWrongFalsely : Prop := quoteWholeRow.holds Try.pinned (OpenSpec.ofChange quoteWholeWrong)

/- THE SECOND FORM. 'bulk': how many values and letters a reading holds, each counted each time it is reached (what is shared counts as often as it is met; a slice's spare places count too). A statement '..UptoSaid' is the law's where the arguments, and the package variables that the reading takes, are together of bulk at most 1048576: NARROWER than '..Said'. Prove '..Said' where nothing that the law and all that it calls make is longer than what came in: it says more and counts as full. Else prove '..UptoSaid'. A law counts once. -/
mutual
def uptoBulk {H : Type} : DataW H → Nat
  | .lit (.string bytes) => bytes.length + 1
  | .lit _ => 1
  | .nil => 1
  | .ptr d => uptoBulk d + 1
  | .slice elems spare => uptoBulkAll elems + uptoBulkAll spare + 1
  | .agg parts => uptoBulkAll parts + 1
  | .iface _ d => uptoBulk d + 1
  | .map entries => uptoBulkEntries entries + 1
  | .held _ => 1
def uptoBulkAll {H : Type} : List (DataW H) → Nat
  | [] => 0
  | d :: r => uptoBulk d + uptoBulkAll r
def uptoBulkEntries {H : Type} : List (Lit × DataW H) → Nat
  | [] => 0
  | x :: r => uptoBulkEntry x + uptoBulkEntries r
def uptoBulkEntry {H : Type} : Lit × DataW H → Nat
  | (.string bytes, d) => bytes.length + uptoBulk d + 1
  | (_, d) => uptoBulk d + 1
 end
def uptoSmall : (H : Type) → List (DataW H) → Bool := fun _ ds => decide (uptoBulkAll ds ≤ 1048576)
def OpenSpec.upto (s : _root_.Go.ChangeSpec) : _root_.Go.OpenSpec := { _root_.Go.OpenSpec.ofChange s with cond := some uptoSmall }

/-- 'gavellaw05.QuoteTicks', WHERE WHAT IT READS IS OF BULK AT MOST 1048576: true; the input reads as it did. -/
def quoteTicksUptoRow : OpenClaim := { program := "ytpdkjjhcpaoioaa", sum := "809b50f494fb916210ddba56586ebb9557b56b4f7532323a43c958fcba007d38", func := "gavel/gavellaw05.QuoteTicks", spec := "quoteTicks", inPlace := ["math.Float64bits", "math.Float64frombits", "math.archTrunc"], apart := false, narrowed := true }
def QuoteTicksUptoSaid : Prop := quoteTicksUptoRow.holds Try.pinned (OpenSpec.upto quoteTicksSpec)

/-- 'gavellaw05.QuotePrices', WHERE WHAT IT READS IS OF BULK AT MOST 1048576: true; the input reads as it did. -/
def quotePricesUptoRow : OpenClaim := { program := "ytpdkjjhcpaoioaa", sum := "809b50f494fb916210ddba56586ebb9557b56b4f7532323a43c958fcba007d38", func := "gavel/gavellaw05.QuotePrices", spec := "quotePrices", inPlace := ["math.Float64bits", "math.Float64frombits", "math.archTrunc"], apart := false, narrowed := true }
def QuotePricesUptoSaid : Prop := quotePricesUptoRow.holds Try.pinned (OpenSpec.upto quotePricesSpec)

/-- 'gavellaw05.QuoteExact', WHERE WHAT IT READS IS OF BULK AT MOST 1048576: true; the input reads as it did. -/
def quoteExactUptoRow : OpenClaim := { program := "ytpdkjjhcpaoioaa", sum := "809b50f494fb916210ddba56586ebb9557b56b4f7532323a43c958fcba007d38", func := "gavel/gavellaw05.QuoteExact", spec := "quoteExact", inPlace := ["math.Float64bits", "math.Float64frombits", "math.archTrunc"], apart := false, narrowed := true }
def QuoteExactUptoSaid : Prop := quoteExactUptoRow.holds Try.pinned (OpenSpec.upto quoteExactSpec)

/-- 'gavellaw05.QuoteOrder', WHERE WHAT IT READS IS OF BULK AT MOST 1048576: true; the input reads as it did. -/
def quoteOrderUptoRow : OpenClaim := { program := "ytpdkjjhcpaoioaa", sum := "809b50f494fb916210ddba56586ebb9557b56b4f7532323a43c958fcba007d38", func := "gavel/gavellaw05.QuoteOrder", spec := "quoteOrder", inPlace := ["math.Float64bits", "math.Float64frombits", "math.archTrunc"], apart := false, narrowed := true }
def QuoteOrderUptoSaid : Prop := quoteOrderUptoRow.holds Try.pinned (OpenSpec.upto quoteOrderSpec)

/-- 'gavellaw05.QuoteBetween', WHERE WHAT IT READS IS OF BULK AT MOST 1048576: true; the input reads as it did. -/
def quoteBetweenUptoRow : OpenClaim := { program := "ytpdkjjhcpaoioaa", sum := "809b50f494fb916210ddba56586ebb9557b56b4f7532323a43c958fcba007d38", func := "gavel/gavellaw05.QuoteBetween", spec := "quoteBetween", inPlace := ["math.Float64frombits", "math.Float64bits", "math.archTrunc"], apart := false, narrowed := true }
def QuoteBetweenUptoSaid : Prop := quoteBetweenUptoRow.holds Try.pinned (OpenSpec.upto quoteBetweenSpec)

/-- 'gavellaw05.QuoteMids', WHERE WHAT IT READS IS OF BULK AT MOST 1048576: true; the input reads as it did. -/
def quoteMidsUptoRow : OpenClaim := { program := "ytpdkjjhcpaoioaa", sum := "809b50f494fb916210ddba56586ebb9557b56b4f7532323a43c958fcba007d38", func := "gavel/gavellaw05.QuoteMids", spec := "quoteMids", inPlace := ["math.Float64frombits", "math.Float64bits", "math.archTrunc"], apart := false, narrowed := true }
def QuoteMidsUptoSaid : Prop := quoteMidsUptoRow.holds Try.pinned (OpenSpec.upto quoteMidsSpec)

/-- 'gavellaw05.QuoteVwaps', WHERE WHAT IT READS IS OF BULK AT MOST 1048576: true; the input reads as it did. -/
def quoteVwapsUptoRow : OpenClaim := { program := "ytpdkjjhcpaoioaa", sum := "809b50f494fb916210ddba56586ebb9557b56b4f7532323a43c958fcba007d38", func := "gavel/gavellaw05.QuoteVwaps", spec := "quoteVwaps", inPlace := ["math.Float64bits", "math.Float64frombits", "math.archTrunc"], apart := false, narrowed := true }
def QuoteVwapsUptoSaid : Prop := quoteVwapsUptoRow.holds Try.pinned (OpenSpec.upto quoteVwapsSpec)

/-- 'gavellaw05.QuoteClamps', WHERE WHAT IT READS IS OF BULK AT MOST 1048576: true; the input reads as it did. -/
def quoteClampsUptoRow : OpenClaim := { program := "ytpdkjjhcpaoioaa", sum := "809b50f494fb916210ddba56586ebb9557b56b4f7532323a43c958fcba007d38", func := "gavel/gavellaw05.QuoteClamps", spec := "quoteClamps", inPlace := ["math.Float64bits", "math.Float64frombits", "math.archTrunc"], apart := false, narrowed := true }
def QuoteClampsUptoSaid : Prop := quoteClampsUptoRow.holds Try.pinned (OpenSpec.upto quoteClampsSpec)

/-- 'gavellaw05.QuoteBytes', WHERE WHAT IT READS IS OF BULK AT MOST 1048576: true; the input reads as it did. -/
def quoteBytesUptoRow : OpenClaim := { program := "ytpdkjjhcpaoioaa", sum := "809b50f494fb916210ddba56586ebb9557b56b4f7532323a43c958fcba007d38", func := "gavel/gavellaw05.QuoteBytes", spec := "quoteBytes", inPlace := ["math.Float64frombits", "math.Float64bits", "math.archTrunc"], apart := false, narrowed := true }
def QuoteBytesUptoSaid : Prop := quoteBytesUptoRow.holds Try.pinned (OpenSpec.upto quoteBytesSpec)

/-- 'gavellaw05.QuoteWhole', WHERE WHAT IT READS IS OF BULK AT MOST 1048576: true; the input reads as it did. -/
def quoteWholeUptoRow : OpenClaim := { program := "ytpdkjjhcpaoioaa", sum := "809b50f494fb916210ddba56586ebb9557b56b4f7532323a43c958fcba007d38", func := "gavel/gavellaw05.QuoteWhole", spec := "quoteWhole", inPlace := ["math.Float64bits", "math.Float64frombits", "math.RoundToEven", "math.archTrunc"], apart := false, narrowed := true }
def QuoteWholeUptoSaid : Prop := quoteWholeUptoRow.holds Try.pinned (OpenSpec.upto quoteWholeSpec)

end Rows
end Go.Proofs.Ytpdkjjhcpaoioaa
