/-
  No cell of these rows narrows 'for every input' (looked for: loops, veiled, ifaces, maps, wideKeys, modest, calm, conditions, laid).
  DERIVED. THE GIVEN ROWS OF THIS SEAT. 9 by the template 'for every input the law returns true; each argument reads behind the call as it read before'; 0 by the template 'total and deterministic' (their statements: YtedndjbhgbdpoaaTotals.lean).
  GIVEN WITH THE SEED: the statements are not yours to turn. If you find one false, say at which input.
  Laid BY PROGRAM, IN A SANDBOX (cutbox-rows.mjs): the forced cells as the released guide's own fill.sh prints them over the translation b9cc6791d863d6ca… (all of the seat's roots in one cut). By AI agents, Wed Nov 11 2026. No macro, syntax, notation, axiom, sorry.
-/
import Derived.Test.YtedndjbhgbdpoaaChecked
import GoSem.Claim
import GoSem.ClaimJoined
import GoSem.ClaimMapViews
import Derived.JoinedTies
import Derived.KernelRfl
namespace Go.Proofs.Ytedndjbhgbdpoaa
/- THE CELL 'sum', in the pinned program and in every row, IS THE sha256 OF THE DUMP (.gsa) THAT YtedndjbhgbdpoaaProg.lean LOADS. Nothing in Lean hashes anything: it is a label: what it is worth is what the hold of that sum in a sandbox is worth. -/
noncomputable def Try.pinned : Pinned := { name := "ytedndjbhgbdpoaa", sum := "b9cc6791d863d6cae84d447fd0aa4fb0bb986d7c346f87bf5c4df0ef15f5d719", checked := Try.checked }
namespace Rows
def none {H : Type} : Left H := { results := [], args := [] }

/-- 'gavellaw10.VlogAgree': WHATEVER THE INPUT: true; the input reads as it did. -/
def vlogAgreeSpec : ChangeSpec := { name := "vlogAgree", fn := fun _ => fun
  | [d1, d2, d3, d4] => { results := [.lit (.bool true)], args := [d1, d2, d3, d4] }
  | _ => none }
def vlogAgreeRow : OpenClaim := { program := "ytedndjbhgbdpoaa", sum := "b9cc6791d863d6cae84d447fd0aa4fb0bb986d7c346f87bf5c4df0ef15f5d719", func := "gavel/gavellaw10.VlogAgree", spec := "vlogAgree", apart := false }
def VlogAgreeSaid : Prop := vlogAgreeRow.holds Try.pinned (OpenSpec.ofChange vlogAgreeSpec)

/-- ITS FALSE NEIGHBOUR: 'it returns false'. Refute it at one input. -/
def vlogAgreeWrong : ChangeSpec := { name := "vlogAgree", fn := fun _ => fun
  | [d1, d2, d3, d4] => { results := [.lit (.bool false)], args := [d1, d2, d3, d4] }
  | _ => none }
def VlogAgreeWrongFalsely : Prop := vlogAgreeRow.holds Try.pinned (OpenSpec.ofChange vlogAgreeWrong)

/-- 'gavellaw10.VlogStays': WHATEVER THE INPUT: true; the input reads as it did. -/
def vlogStaysSpec : ChangeSpec := { name := "vlogStays", fn := fun _ => fun
  | [d1, d2] => { results := [.lit (.bool true)], args := [d1, d2] }
  | _ => none }
def vlogStaysRow : OpenClaim := { program := "ytedndjbhgbdpoaa", sum := "b9cc6791d863d6cae84d447fd0aa4fb0bb986d7c346f87bf5c4df0ef15f5d719", func := "gavel/gavellaw10.VlogStays", spec := "vlogStays", apart := false }
def VlogStaysSaid : Prop := vlogStaysRow.holds Try.pinned (OpenSpec.ofChange vlogStaysSpec)

/-- ITS FALSE NEIGHBOUR: 'it returns false'. Refute it at one input. -/
def vlogStaysWrong : ChangeSpec := { name := "vlogStays", fn := fun _ => fun
  | [d1, d2] => { results := [.lit (.bool false)], args := [d1, d2] }
  | _ => none }
def VlogStaysWrongFalsely : Prop := vlogStaysRow.holds Try.pinned (OpenSpec.ofChange vlogStaysWrong)

/-- 'gavellaw10.VlogKeeps': WHATEVER THE INPUT: true; the input reads as it did. -/
def vlogKeepsSpec : ChangeSpec := { name := "vlogKeeps", fn := fun _ => fun
  | [d] => { results := [.lit (.bool true)], args := [d] }
  | _ => none }
def vlogKeepsRow : OpenClaim := { program := "ytedndjbhgbdpoaa", sum := "b9cc6791d863d6cae84d447fd0aa4fb0bb986d7c346f87bf5c4df0ef15f5d719", func := "gavel/gavellaw10.VlogKeeps", spec := "vlogKeeps", apart := false }
def VlogKeepsSaid : Prop := vlogKeepsRow.holds Try.pinned (OpenSpec.ofChange vlogKeepsSpec)

/-- ITS FALSE NEIGHBOUR: 'it returns false'. Refute it at one input. -/
def vlogKeepsWrong : ChangeSpec := { name := "vlogKeeps", fn := fun _ => fun
  | [d] => { results := [.lit (.bool false)], args := [d] }
  | _ => none }
def VlogKeepsWrongFalsely : Prop := vlogKeepsRow.holds Try.pinned (OpenSpec.ofChange vlogKeepsWrong)

/-- 'gavellaw10.VlogWindow': WHATEVER THE INPUT: true; the input reads as it did. -/
def vlogWindowSpec : ChangeSpec := { name := "vlogWindow", fn := fun _ => fun
  | [d1, d2] => { results := [.lit (.bool true)], args := [d1, d2] }
  | _ => none }
def vlogWindowRow : OpenClaim := { program := "ytedndjbhgbdpoaa", sum := "b9cc6791d863d6cae84d447fd0aa4fb0bb986d7c346f87bf5c4df0ef15f5d719", func := "gavel/gavellaw10.VlogWindow", spec := "vlogWindow", apart := false }
def VlogWindowSaid : Prop := vlogWindowRow.holds Try.pinned (OpenSpec.ofChange vlogWindowSpec)

/-- ITS FALSE NEIGHBOUR: 'it returns false'. Refute it at one input. -/
def vlogWindowWrong : ChangeSpec := { name := "vlogWindow", fn := fun _ => fun
  | [d1, d2] => { results := [.lit (.bool false)], args := [d1, d2] }
  | _ => none }
def VlogWindowWrongFalsely : Prop := vlogWindowRow.holds Try.pinned (OpenSpec.ofChange vlogWindowWrong)

/-- 'gavellaw10.VlogCuts': WHATEVER THE INPUT: true; the input reads as it did. -/
def vlogCutsSpec : ChangeSpec := { name := "vlogCuts", fn := fun _ => fun
  | [d1, d2] => { results := [.lit (.bool true)], args := [d1, d2] }
  | _ => none }
def vlogCutsRow : OpenClaim := { program := "ytedndjbhgbdpoaa", sum := "b9cc6791d863d6cae84d447fd0aa4fb0bb986d7c346f87bf5c4df0ef15f5d719", func := "gavel/gavellaw10.VlogCuts", spec := "vlogCuts", apart := false }
def VlogCutsSaid : Prop := vlogCutsRow.holds Try.pinned (OpenSpec.ofChange vlogCutsSpec)

/-- ITS FALSE NEIGHBOUR: 'it returns false'. Refute it at one input. -/
def vlogCutsWrong : ChangeSpec := { name := "vlogCuts", fn := fun _ => fun
  | [d1, d2] => { results := [.lit (.bool false)], args := [d1, d2] }
  | _ => none }
def VlogCutsWrongFalsely : Prop := vlogCutsRow.holds Try.pinned (OpenSpec.ofChange vlogCutsWrong)

/-- 'gavellaw10.VlogStable': WHATEVER THE INPUT: true; the input reads as it did. -/
def vlogStableSpec : ChangeSpec := { name := "vlogStable", fn := fun _ => fun
  | [d] => { results := [.lit (.bool true)], args := [d] }
  | _ => none }
def vlogStableRow : OpenClaim := { program := "ytedndjbhgbdpoaa", sum := "b9cc6791d863d6cae84d447fd0aa4fb0bb986d7c346f87bf5c4df0ef15f5d719", func := "gavel/gavellaw10.VlogStable", spec := "vlogStable", apart := false }
def VlogStableSaid : Prop := vlogStableRow.holds Try.pinned (OpenSpec.ofChange vlogStableSpec)

/-- ITS FALSE NEIGHBOUR: 'it returns false'. Refute it at one input. -/
def vlogStableWrong : ChangeSpec := { name := "vlogStable", fn := fun _ => fun
  | [d] => { results := [.lit (.bool false)], args := [d] }
  | _ => none }
def VlogStableWrongFalsely : Prop := vlogStableRow.holds Try.pinned (OpenSpec.ofChange vlogStableWrong)

/-- 'gavellaw10.VlogViews': WHATEVER THE INPUT: true; the input reads as it did. -/
def vlogViewsSpec : ChangeSpec := { name := "vlogViews", fn := fun _ => fun
  | [d1, d2] => { results := [.lit (.bool true)], args := [d1, d2] }
  | _ => none }
def vlogViewsRow : OpenClaim := { program := "ytedndjbhgbdpoaa", sum := "b9cc6791d863d6cae84d447fd0aa4fb0bb986d7c346f87bf5c4df0ef15f5d719", func := "gavel/gavellaw10.VlogViews", spec := "vlogViews", apart := false }
def VlogViewsSaid : Prop := vlogViewsRow.holds Try.pinned (OpenSpec.ofChange vlogViewsSpec)

/-- ITS FALSE NEIGHBOUR: 'it returns false'. Refute it at one input. -/
def vlogViewsWrong : ChangeSpec := { name := "vlogViews", fn := fun _ => fun
  | [d1, d2] => { results := [.lit (.bool false)], args := [d1, d2] }
  | _ => none }
def VlogViewsWrongFalsely : Prop := vlogViewsRow.holds Try.pinned (OpenSpec.ofChange vlogViewsWrong)

/-- 'gavellaw10.VlogPlays': WHATEVER THE INPUT: true; the input reads as it did. -/
def vlogPlaysSpec : ChangeSpec := { name := "vlogPlays", fn := fun _ => fun
  | [d1, d2] => { results := [.lit (.bool true)], args := [d1, d2] }
  | _ => none }
def vlogPlaysRow : OpenClaim := { program := "ytedndjbhgbdpoaa", sum := "b9cc6791d863d6cae84d447fd0aa4fb0bb986d7c346f87bf5c4df0ef15f5d719", func := "gavel/gavellaw10.VlogPlays", spec := "vlogPlays", apart := false }
def VlogPlaysSaid : Prop := vlogPlaysRow.holds Try.pinned (OpenSpec.ofChange vlogPlaysSpec)

/-- ITS FALSE NEIGHBOUR: 'it returns false'. Refute it at one input. -/
def vlogPlaysWrong : ChangeSpec := { name := "vlogPlays", fn := fun _ => fun
  | [d1, d2] => { results := [.lit (.bool false)], args := [d1, d2] }
  | _ => none }
def VlogPlaysWrongFalsely : Prop := vlogPlaysRow.holds Try.pinned (OpenSpec.ofChange vlogPlaysWrong)

/-- 'gavellaw10.VlogNobody': WHATEVER THE INPUT: true; the input reads as it did. -/
def vlogNobodySpec : ChangeSpec := { name := "vlogNobody", fn := fun _ => fun
  | [d] => { results := [.lit (.bool true)], args := [d] }
  | _ => none }
def vlogNobodyRow : OpenClaim := { program := "ytedndjbhgbdpoaa", sum := "b9cc6791d863d6cae84d447fd0aa4fb0bb986d7c346f87bf5c4df0ef15f5d719", func := "gavel/gavellaw10.VlogNobody", spec := "vlogNobody", apart := false }
def VlogNobodySaid : Prop := vlogNobodyRow.holds Try.pinned (OpenSpec.ofChange vlogNobodySpec)

/-- ITS FALSE NEIGHBOUR: 'it returns false'. Refute it at one input. -/
def vlogNobodyWrong : ChangeSpec := { name := "vlogNobody", fn := fun _ => fun
  | [d] => { results := [.lit (.bool false)], args := [d] }
  | _ => none }
def VlogNobodyWrongFalsely : Prop := vlogNobodyRow.holds Try.pinned (OpenSpec.ofChange vlogNobodyWrong)

/- THE SECOND FORM. 'bulk': how many values and letters a reading holds, each counted each time it is reached (what is shared counts as often as it is met; a slice's spare places count too). A statement '..UptoSaid' is the law's where the arguments, and the package variables that the reading takes, are together of bulk at most 1048576: NARROWER than '..Said'. Prove '..Said' where nothing that the law and all that it calls make is longer than what came in: it says more and counts as full. Else prove '..UptoSaid'. A law counts once. -/
mutual
def uptoBulk {H : Type} : DataW H → Nat
  | .lit (.string bytes) => bytes.length + 1
  | .lit _ => 1
  | .nil => 1
  | .ptr d => uptoBulk d + 1
  | .slice elems spare => uptoBulkAll elems + uptoBulkAll spare + 1
  | .agg parts => uptoBulkAll parts + 1
  | .iface _ d => uptoBulk d + 1
  | .map entries => uptoBulkEntries entries + 1
  | .held _ => 1
def uptoBulkAll {H : Type} : List (DataW H) → Nat
  | [] => 0
  | d :: r => uptoBulk d + uptoBulkAll r
def uptoBulkEntries {H : Type} : List (Lit × DataW H) → Nat
  | [] => 0
  | x :: r => uptoBulkEntry x + uptoBulkEntries r
def uptoBulkEntry {H : Type} : Lit × DataW H → Nat
  | (.string bytes, d) => bytes.length + uptoBulk d + 1
  | (_, d) => uptoBulk d + 1
 end
def uptoSmall : (H : Type) → List (DataW H) → Bool := fun _ ds => decide (uptoBulkAll ds ≤ 1048576)
def OpenSpec.upto (s : _root_.Go.ChangeSpec) : _root_.Go.OpenSpec := { _root_.Go.OpenSpec.ofChange s with cond := some uptoSmall }

/-- 'gavellaw10.VlogAgree', WHERE WHAT IT READS IS OF BULK AT MOST 1048576: true; the input reads as it did. -/
def vlogAgreeUptoRow : OpenClaim := { program := "ytedndjbhgbdpoaa", sum := "b9cc6791d863d6cae84d447fd0aa4fb0bb986d7c346f87bf5c4df0ef15f5d719", func := "gavel/gavellaw10.VlogAgree", spec := "vlogAgree", apart := false, narrowed := true }
def VlogAgreeUptoSaid : Prop := vlogAgreeUptoRow.holds Try.pinned (OpenSpec.upto vlogAgreeSpec)

/-- 'gavellaw10.VlogStays', WHERE WHAT IT READS IS OF BULK AT MOST 1048576: true; the input reads as it did. -/
def vlogStaysUptoRow : OpenClaim := { program := "ytedndjbhgbdpoaa", sum := "b9cc6791d863d6cae84d447fd0aa4fb0bb986d7c346f87bf5c4df0ef15f5d719", func := "gavel/gavellaw10.VlogStays", spec := "vlogStays", apart := false, narrowed := true }
def VlogStaysUptoSaid : Prop := vlogStaysUptoRow.holds Try.pinned (OpenSpec.upto vlogStaysSpec)

/-- 'gavellaw10.VlogKeeps', WHERE WHAT IT READS IS OF BULK AT MOST 1048576: true; the input reads as it did. -/
def vlogKeepsUptoRow : OpenClaim := { program := "ytedndjbhgbdpoaa", sum := "b9cc6791d863d6cae84d447fd0aa4fb0bb986d7c346f87bf5c4df0ef15f5d719", func := "gavel/gavellaw10.VlogKeeps", spec := "vlogKeeps", apart := false, narrowed := true }
def VlogKeepsUptoSaid : Prop := vlogKeepsUptoRow.holds Try.pinned (OpenSpec.upto vlogKeepsSpec)

/-- 'gavellaw10.VlogWindow', WHERE WHAT IT READS IS OF BULK AT MOST 1048576: true; the input reads as it did. -/
def vlogWindowUptoRow : OpenClaim := { program := "ytedndjbhgbdpoaa", sum := "b9cc6791d863d6cae84d447fd0aa4fb0bb986d7c346f87bf5c4df0ef15f5d719", func := "gavel/gavellaw10.VlogWindow", spec := "vlogWindow", apart := false, narrowed := true }
def VlogWindowUptoSaid : Prop := vlogWindowUptoRow.holds Try.pinned (OpenSpec.upto vlogWindowSpec)

/-- 'gavellaw10.VlogCuts', WHERE WHAT IT READS IS OF BULK AT MOST 1048576: true; the input reads as it did. -/
def vlogCutsUptoRow : OpenClaim := { program := "ytedndjbhgbdpoaa", sum := "b9cc6791d863d6cae84d447fd0aa4fb0bb986d7c346f87bf5c4df0ef15f5d719", func := "gavel/gavellaw10.VlogCuts", spec := "vlogCuts", apart := false, narrowed := true }
def VlogCutsUptoSaid : Prop := vlogCutsUptoRow.holds Try.pinned (OpenSpec.upto vlogCutsSpec)

/-- 'gavellaw10.VlogStable', WHERE WHAT IT READS IS OF BULK AT MOST 1048576: true; the input reads as it did. -/
def vlogStableUptoRow : OpenClaim := { program := "ytedndjbhgbdpoaa", sum := "b9cc6791d863d6cae84d447fd0aa4fb0bb986d7c346f87bf5c4df0ef15f5d719", func := "gavel/gavellaw10.VlogStable", spec := "vlogStable", apart := false, narrowed := true }
def VlogStableUptoSaid : Prop := vlogStableUptoRow.holds Try.pinned (OpenSpec.upto vlogStableSpec)

/-- 'gavellaw10.VlogViews', WHERE WHAT IT READS IS OF BULK AT MOST 1048576: true; the input reads as it did. -/
def vlogViewsUptoRow : OpenClaim := { program := "ytedndjbhgbdpoaa", sum := "b9cc6791d863d6cae84d447fd0aa4fb0bb986d7c346f87bf5c4df0ef15f5d719", func := "gavel/gavellaw10.VlogViews", spec := "vlogViews", apart := false, narrowed := true }
def VlogViewsUptoSaid : Prop := vlogViewsUptoRow.holds Try.pinned (OpenSpec.upto vlogViewsSpec)

/-- 'gavellaw10.VlogPlays', WHERE WHAT IT READS IS OF BULK AT MOST 1048576: true; the input reads as it did. -/
def vlogPlaysUptoRow : OpenClaim := { program := "ytedndjbhgbdpoaa", sum := "b9cc6791d863d6cae84d447fd0aa4fb0bb986d7c346f87bf5c4df0ef15f5d719", func := "gavel/gavellaw10.VlogPlays", spec := "vlogPlays", apart := false, narrowed := true }
def VlogPlaysUptoSaid : Prop := vlogPlaysUptoRow.holds Try.pinned (OpenSpec.upto vlogPlaysSpec)

/-- 'gavellaw10.VlogNobody', WHERE WHAT IT READS IS OF BULK AT MOST 1048576: true; the input reads as it did. -/
def vlogNobodyUptoRow : OpenClaim := { program := "ytedndjbhgbdpoaa", sum := "b9cc6791d863d6cae84d447fd0aa4fb0bb986d7c346f87bf5c4df0ef15f5d719", func := "gavel/gavellaw10.VlogNobody", spec := "vlogNobody", apart := false, narrowed := true }
def VlogNobodyUptoSaid : Prop := vlogNobodyUptoRow.holds Try.pinned (OpenSpec.upto vlogNobodySpec)

end Rows
end Go.Proofs.Ytedndjbhgbdpoaa
