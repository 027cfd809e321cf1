/- right: may an order be? The program's and the reference's. -/
import Derived.Test.YtilbhnloelgpdaaRows
import Derived.Test.YtilbhnloelgpdaaORow
import Derived.Test.YtilbhnloelgpdaaBlk
import Derived.WalkKit
import Derived.WalkLawsBesides
import Derived.Lib.Hide
import Derived.Outline
import Derived.Deep.QuietTactic
import Derived.BigQuiet
import Derived.StillTailTactics
import Derived.Deep.Cut
import Derived.Deep.LoopGhost
import Derived.Deep.RegionHeld3
namespace Go.Proofs.Ytilbhnloelgpdaa
open Go.RowKit
set_option linter.unusedVariables false
set_option linter.unusedSimpArgs false
def oval (o : Ord) : Value := .agg #[.int .i64 o.id, .int .i64 o.owner, .int .i64 o.price, .int .i64 o.amount, .int .i64 o.place, .bool o.buys]
def Told (w : World) (v : Value) (e : Ending) (w' : World) : Prop := e = .returned v ∧ Below w.heap.size w w'
theorem told_bool {w w' : World} {b c : Bool} (h : c = b) (hb : Below w.heap.size w w') : Told w (.bool b) (.returned (.bool c)) w' := ⟨by rw [h], hb⟩
set_option maxHeartbeats 2000000 in
theorem right_calls (w : World) (o : Ord) : Calls Try.prog 47 #[oval o] w (Told w (.bool o.right)) := by
  obtain ⟨i, ow, p, a, pl, b⟩ := o
  obtain ⟨R, hR⟩ : ∃ R, Hid ((Ord.right ⟨i, ow, p, a, pl, b⟩) = R) := ⟨_, Lib.hid rfl⟩
  have hRR : Hid (R = decide (0 ≤ i ∧ i ≤ 9007199254740992 ∧ 0 ≤ ow ∧ ow ≤ 15 ∧ 0 ≤ p ∧ p ≤ 1099511627776 ∧ 1 ≤ a ∧ a ≤ 1048576)) := Lib.hid hR.out.symm
  show Calls Try.prog 47 #[.agg #[.int .i64 i, .int .i64 ow, .int .i64 p, .int .i64 a, .int .i64 pl, .bool b]] w _
  rw [hR.out]
  have hb0 : Hid (Below w.heap.size w (w.alloc (.cells #[.int .i64 i, .int .i64 ow, .int .i64 p, .int .i64 a, .int .i64 pl, .bool b] 33))) := Lib.hid ((Below.refl _ _).alloc (Nat.le_refl _) _)
  have B0 := Lib.hid (Blk.new w 33 #[.int .i64 i, .int .i64 ow, .int .i64 p, .int .i64 a, .int .i64 pl, .bool b])
  go_enter Try.func47, Try.ntmps47
  go_upto_region 1 with (fail)
  obtain ⟨g, hg⟩ : ∃ g, w.heap.size = g := ⟨_, rfl⟩
  have HG := Lib.hid hg
  rw [hg] at B0 ⊢
  clear hg
  generalize World.alloc w _ = wy at hb0 B0 ⊢
  have HX : Hid (wy.cell? ⟨g, 0, none⟩ = some (.int .i64 i) ∧ wy.cell? ⟨g, 1, none⟩ = some (.int .i64 ow) ∧ wy.cell? ⟨g, 2, none⟩ = some (.int .i64 p) ∧ wy.cell? ⟨g, 3, none⟩ = some (.int .i64 a)) := Lib.hid ⟨B0.out.cell 0, B0.out.cell 1, B0.out.cell 2, B0.out.cell 3⟩
  obtain ⟨c0, c1, c2, c3⟩ := HX.out
  go_wp2
  all_goals (try simp only [Exit.inBlock, Exit.then])
  all_goals refine bodyPost_ret (by simp [results, Try.results47, asAddr, go_sem]; rfl) rfl (told_bool ?_ hb0.out)
  all_goals rw [hRR.out]
  all_goals first | exact (decide_eq_true (by omega)).symm | exact (decide_eq_false (by omega)).symm | (rw [decide_eq_decide]; omega)
set_option maxHeartbeats 2000000 in
theorem rright_calls (w : World) (o : Ord) : Calls Try.prog 37 #[oval o] w (Told w (.bool o.right)) := by
  obtain ⟨i, ow, p, a, pl, b⟩ := o
  obtain ⟨R, hR⟩ : ∃ R, Hid ((Ord.right ⟨i, ow, p, a, pl, b⟩) = R) := ⟨_, Lib.hid rfl⟩
  have hRR : Hid (R = decide (0 ≤ i ∧ i ≤ 9007199254740992 ∧ 0 ≤ ow ∧ ow ≤ 15 ∧ 0 ≤ p ∧ p ≤ 1099511627776 ∧ 1 ≤ a ∧ a ≤ 1048576)) := Lib.hid hR.out.symm
  show Calls Try.prog 37 #[.agg #[.int .i64 i, .int .i64 ow, .int .i64 p, .int .i64 a, .int .i64 pl, .bool b]] w _
  rw [hR.out]
  have hb0 : Hid (Below w.heap.size w (w.alloc (.cells #[.int .i64 i, .int .i64 ow, .int .i64 p, .int .i64 a, .int .i64 pl, .bool b] 33))) := Lib.hid ((Below.refl _ _).alloc (Nat.le_refl _) _)
  have B0 := Lib.hid (Blk.new w 33 #[.int .i64 i, .int .i64 ow, .int .i64 p, .int .i64 a, .int .i64 pl, .bool b])
  go_enter Try.func37, Try.ntmps37
  go_upto_region 1 with (fail)
  obtain ⟨g, hg⟩ : ∃ g, w.heap.size = g := ⟨_, rfl⟩
  have HG := Lib.hid hg
  rw [hg] at B0 ⊢
  clear hg
  generalize World.alloc w _ = wy at hb0 B0 ⊢
  have HX : Hid (wy.cell? ⟨g, 0, none⟩ = some (.int .i64 i) ∧ wy.cell? ⟨g, 1, none⟩ = some (.int .i64 ow) ∧ wy.cell? ⟨g, 2, none⟩ = some (.int .i64 p) ∧ wy.cell? ⟨g, 3, none⟩ = some (.int .i64 a)) := Lib.hid ⟨B0.out.cell 0, B0.out.cell 1, B0.out.cell 2, B0.out.cell 3⟩
  obtain ⟨c0, c1, c2, c3⟩ := HX.out
  go_wp2
  all_goals (try simp only [Exit.inBlock, Exit.then])
  all_goals refine bodyPost_ret (by simp [results, Try.results37, asAddr, go_sem]; rfl) rfl (told_bool ?_ hb0.out)
  all_goals rw [hRR.out]
  all_goals first | exact (decide_eq_true (by omega)).symm | exact (decide_eq_false (by omega)).symm | (rw [decide_eq_decide]; omega)
end Go.Proofs.Ytilbhnloelgpdaa
