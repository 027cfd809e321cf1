/- The contracts of RotateLeft32 at the shifts that SHA-256 asks for, and of the two tables. -/
import Derived.Test.YtblgldllfllcpaaRows
import Derived.Test.YtblgldllfllcpaaSp
import Derived.Test.YtblgldllfllcpaaMem
import Derived.WalkKit
import Derived.WalkLawsBesides
import Derived.Lib.Hide
import Derived.Laws.Tables
import Derived.Deep.WholeRow
namespace Go.Proofs.Ytblgldllfllcpaa
open Go.RowKit
theorem rot_eq (x : Nat) (k : Nat) (hx : x < 4294967296) (_ : k ≤ 32) : bits .or .u32 ((x * 2 ^ (32 - k) % 4294967296 : Nat) : Int) ((x / 2 ^ k : Nat) : Int) = ((Sp.rotr x k : Nat) : Int) := by
  have h2 : x / 2 ^ k < 4294967296 := Nat.lt_of_le_of_lt (Nat.div_le_self _ _) hx
  rw [u32_or_nat _ _ (Nat.mod_lt _ (by omega)) h2]
  unfold Sp.rotr
  have e := Nat.or_mod_two_pow (a := x / 2 ^ k) (b := x * 2 ^ (32 - k)) (n := 32)
  rw [show (2 : Nat) ^ 32 = 4294967296 from rfl] at e
  rw [e, Nat.mod_eq_of_lt h2, Nat.or_comm]
theorem rot7_calls (x : Nat) (w : World) (hx : x < 4294967296) :
    Calls Try.prog 24 #[.int .u32 x, .int .i64 (-7)] w fun e w' => e = .returned (.int .u32 (Sp.rotr x 7)) ∧ w' = w := by
  have h := Lib.hid (rot_eq x 7 hx (by omega))
  have hb : bits .and .u64 (IntKind.u64.wrap (-7)) 31 = 25 := by decide
  have hb2 : bits .and .u64 18446744073709551609 31 = 25 := by decide
  go_enter Try.func24, Try.ntmps24
  go_wp2
  go_ret
  exact ⟨by rw [← h.out]; rfl, rfl⟩
theorem rot18_calls (x : Nat) (w : World) (hx : x < 4294967296) :
    Calls Try.prog 24 #[.int .u32 x, .int .i64 (-18)] w fun e w' => e = .returned (.int .u32 (Sp.rotr x 18)) ∧ w' = w := by
  have h := Lib.hid (rot_eq x 18 hx (by omega))
  have hb : bits .and .u64 (IntKind.u64.wrap (-18)) 31 = 14 := by decide
  have hb2 : bits .and .u64 18446744073709551598 31 = 14 := by decide
  go_enter Try.func24, Try.ntmps24
  go_wp2
  go_ret
  exact ⟨by rw [← h.out]; rfl, rfl⟩
theorem rot17_calls (x : Nat) (w : World) (hx : x < 4294967296) :
    Calls Try.prog 24 #[.int .u32 x, .int .i64 (-17)] w fun e w' => e = .returned (.int .u32 (Sp.rotr x 17)) ∧ w' = w := by
  have h := Lib.hid (rot_eq x 17 hx (by omega))
  have hb : bits .and .u64 (IntKind.u64.wrap (-17)) 31 = 15 := by decide
  have hb2 : bits .and .u64 18446744073709551599 31 = 15 := by decide
  go_enter Try.func24, Try.ntmps24
  go_wp2
  go_ret
  exact ⟨by rw [← h.out]; rfl, rfl⟩
theorem rot19_calls (x : Nat) (w : World) (hx : x < 4294967296) :
    Calls Try.prog 24 #[.int .u32 x, .int .i64 (-19)] w fun e w' => e = .returned (.int .u32 (Sp.rotr x 19)) ∧ w' = w := by
  have h := Lib.hid (rot_eq x 19 hx (by omega))
  have hb : bits .and .u64 (IntKind.u64.wrap (-19)) 31 = 13 := by decide
  have hb2 : bits .and .u64 18446744073709551597 31 = 13 := by decide
  go_enter Try.func24, Try.ntmps24
  go_wp2
  go_ret
  exact ⟨by rw [← h.out]; rfl, rfl⟩
theorem rot6_calls (x : Nat) (w : World) (hx : x < 4294967296) :
    Calls Try.prog 24 #[.int .u32 x, .int .i64 (-6)] w fun e w' => e = .returned (.int .u32 (Sp.rotr x 6)) ∧ w' = w := by
  have h := Lib.hid (rot_eq x 6 hx (by omega))
  have hb : bits .and .u64 (IntKind.u64.wrap (-6)) 31 = 26 := by decide
  have hb2 : bits .and .u64 18446744073709551610 31 = 26 := by decide
  go_enter Try.func24, Try.ntmps24
  go_wp2
  go_ret
  exact ⟨by rw [← h.out]; rfl, rfl⟩
theorem rot11_calls (x : Nat) (w : World) (hx : x < 4294967296) :
    Calls Try.prog 24 #[.int .u32 x, .int .i64 (-11)] w fun e w' => e = .returned (.int .u32 (Sp.rotr x 11)) ∧ w' = w := by
  have h := Lib.hid (rot_eq x 11 hx (by omega))
  have hb : bits .and .u64 (IntKind.u64.wrap (-11)) 31 = 21 := by decide
  have hb2 : bits .and .u64 18446744073709551605 31 = 21 := by decide
  go_enter Try.func24, Try.ntmps24
  go_wp2
  go_ret
  exact ⟨by rw [← h.out]; rfl, rfl⟩
theorem rot25_calls (x : Nat) (w : World) (hx : x < 4294967296) :
    Calls Try.prog 24 #[.int .u32 x, .int .i64 (-25)] w fun e w' => e = .returned (.int .u32 (Sp.rotr x 25)) ∧ w' = w := by
  have h := Lib.hid (rot_eq x 25 hx (by omega))
  have hb : bits .and .u64 (IntKind.u64.wrap (-25)) 31 = 7 := by decide
  have hb2 : bits .and .u64 18446744073709551591 31 = 7 := by decide
  go_enter Try.func24, Try.ntmps24
  go_wp2
  go_ret
  exact ⟨by rw [← h.out]; rfl, rfl⟩
theorem rot2_calls (x : Nat) (w : World) (hx : x < 4294967296) :
    Calls Try.prog 24 #[.int .u32 x, .int .i64 (-2)] w fun e w' => e = .returned (.int .u32 (Sp.rotr x 2)) ∧ w' = w := by
  have h := Lib.hid (rot_eq x 2 hx (by omega))
  have hb : bits .and .u64 (IntKind.u64.wrap (-2)) 31 = 30 := by decide
  have hb2 : bits .and .u64 18446744073709551614 31 = 30 := by decide
  go_enter Try.func24, Try.ntmps24
  go_wp2
  go_ret
  exact ⟨by rw [← h.out]; rfl, rfl⟩
theorem rot13_calls (x : Nat) (w : World) (hx : x < 4294967296) :
    Calls Try.prog 24 #[.int .u32 x, .int .i64 (-13)] w fun e w' => e = .returned (.int .u32 (Sp.rotr x 13)) ∧ w' = w := by
  have h := Lib.hid (rot_eq x 13 hx (by omega))
  have hb : bits .and .u64 (IntKind.u64.wrap (-13)) 31 = 19 := by decide
  have hb2 : bits .and .u64 18446744073709551603 31 = 19 := by decide
  go_enter Try.func24, Try.ntmps24
  go_wp2
  go_ret
  exact ⟨by rw [← h.out]; rfl, rfl⟩
theorem rot22_calls (x : Nat) (w : World) (hx : x < 4294967296) :
    Calls Try.prog 24 #[.int .u32 x, .int .i64 (-22)] w fun e w' => e = .returned (.int .u32 (Sp.rotr x 22)) ∧ w' = w := by
  have h := Lib.hid (rot_eq x 22 hx (by omega))
  have hb : bits .and .u64 (IntKind.u64.wrap (-22)) 31 = 10 := by decide
  have hb2 : bits .and .u64 18446744073709551594 31 = 10 := by decide
  go_enter Try.func24, Try.ntmps24
  go_wp2
  go_ret
  exact ⟨by rw [← h.out]; rfl, rfl⟩

/-- Words as cells. -/
def u32s (l : List Nat) : Array Value := (l.map fun (n : Nat) => Value.int .u32 (n : Int)).toArray
theorem begin_calls (w : World) : Calls Try.prog 22 #[] w fun e w' => e = .returned (.agg (u32s Sp.H0.list)) ∧ Below w.heap.size w w' := by
  go_enter Try.func22, Try.ntmps22
  go_wp2
  exact bodyPost_ret (v := .agg #[.int .u32 1779033703, .int .u32 3144134277, .int .u32 1013904242, .int .u32 2773480762, .int .u32 1359893119, .int .u32 2600822924, .int .u32 528734635, .int .u32 1541459225]) (by simp [results, Try.results22, go_sem]) rfl ⟨rfl, (Below.refl _ _).alloc (Nat.le_refl _) _⟩
/-- The table of 64 words: built and stored as one row. -/
theorem table_done (w : World) (z : Array Value) : ((w.alloc (.cells z 51)).setRow w.heap.size (u32s Sp.K)) = w.alloc (.cells (u32s Sp.K) 51) := World.setRow_alloc_new _ _ _ _
set_option maxRecDepth 100000 in
set_option maxHeartbeats 2000000 in
theorem rounds_calls (w : World) : Calls Try.prog 25 #[] w fun e w' => e = .returned (.agg (u32s Sp.K)) ∧ Below w.heap.size w w' := by
  go_enter Try.func25, Try.ntmps25
  go_wp2_with (first
    | (refine wpList_build rfl 51 _ rfl (by kernel_rfl) ?_; generalize hq : (Try.prog.built _ _).getD #[] = q; obtain rfl : q = u32s Sp.K := hq.symm.trans (by kernel_rfl); clear hq)
    | (refine wpList_store_row rfl 51 _ _ rfl w.heap.size (u32s Sp.K) rfl rfl 51 _ (heap_alloc_new _ _) (by kernel_rfl) (by kernel_rfl) (by kernel_rfl) ?_; rw [table_done]))
  exact bodyPost_ret (results_cell_row Try.results25 _ _ w.heap.size 51 (u32s Sp.K) (0, 0) _ rfl (heap_alloc_new _ _) Try.underlying51 rfl (by kernel_rfl)) rfl ⟨rfl, (Below.refl _ _).alloc (Nat.le_refl _) _⟩
end Go.Proofs.Ytblgldllfllcpaa
