/- rights' own function; slices.IndexFunc at it. -/
import Derived.Test.YtilbhnloelgpdaaOClone
namespace Go.Proofs.Ytilbhnloelgpdaa
open Go.RowKit
set_option linter.unusedVariables false
set_option linter.unusedSimpArgs false
set_option maxHeartbeats 2000000 in
theorem wrong_calls (w : World) (o : Ord) : Calls Try.prog 58 #[oval o] w (Told w (.bool (!o.right))) := by
  have HR := Lib.hid (fun wx => right_calls wx o)
  obtain ⟨i, ow, p, a, pl, b⟩ := o
  unfold oval at HR ⊢
  simp only at HR ⊢
  generalize Ord.right ⟨i, ow, p, a, pl, b⟩ = r at HR ⊢
  have hb0 : Hid (Below w.heap.size w (w.alloc (.cells #[.int .i64 i, .int .i64 ow, .int .i64 p, .int .i64 a, .int .i64 pl, .bool b] 33))) := Lib.hid ((Below.refl _ _).alloc (Nat.le_refl _) _)
  have B0 := Lib.hid (Blk.new w 33 #[.int .i64 i, .int .i64 ow, .int .i64 p, .int .i64 a, .int .i64 pl, .bool b])
  go_enter Try.func58, Try.ntmps58
  go_upto_region 1 with (fail)
  obtain ⟨g, hg⟩ : ∃ g, w.heap.size = g := ⟨_, rfl⟩
  rw [hg] at B0 ⊢
  clear hg
  generalize World.alloc w _ = wy at hb0 B0 ⊢
  have HX : Hid (wy.cell? ⟨g, 0, none⟩ = some (.int .i64 i) ∧ wy.cell? ⟨g, 1, none⟩ = some (.int .i64 ow) ∧ wy.cell? ⟨g, 2, none⟩ = some (.int .i64 p) ∧ wy.cell? ⟨g, 3, none⟩ = some (.int .i64 a) ∧ wy.cell? ⟨g, 4, none⟩ = some (.int .i64 pl) ∧ wy.cell? ⟨g, 5, none⟩ = some (.bool b)) := Lib.hid ⟨B0.out.cell 0, B0.out.cell 1, B0.out.cell 2, B0.out.cell 3, B0.out.cell 4, B0.out.cell 5⟩
  obtain ⟨c0, c1, c2, c3, c4, c5⟩ := HX.out
  go_wp2_with (go_at_call 47; (with_reducible refine (HR.out _).mono ?_); rintro e w1 ⟨rfl, hh⟩; have hb1 := Lib.hid (below_next hb0.out hh); clear hh)
  refine bodyPost_ret (by simp [results, Try.results58, asAddr, go_sem]; rfl) rfl ?_
  exact ⟨rfl, hb1.out⟩
end Go.Proofs.Ytilbhnloelgpdaa
