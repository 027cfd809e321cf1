/- The contract of New. -/
import Derived.Test.YtedndjbhgbdpoaaKeep
namespace Go.Proofs.Ytedndjbhgbdpoaa
open Go.RowKit
theorem fresh_cells (n : Int) (gm : Nat) : (vcells (Vl.fresh n) (fun _ _ => none) (fun _ => .slice none 0 0) gm) = [.int .i64 n, .int .i64 0, .int .i64 0] ++ (List.replicate 8 [.bool false, .string noText, .string noText, .map none, .map none, .int .i64 0, .int .i64 0, .int .i64 0, .int .i64 0, .int .i64 0, .string noText, .string noText, .slice none 0 0]).flatten ++ [.map (some gm)] := by rfl
theorem Vl.fresh_ok {n : Int} (h : n = 4 ∨ n = 7 ∨ n = 10 ∨ n = 13) : (Vl.fresh n).Ok :=
  ⟨h, ⟨Int.le_refl _, by show (0 : Int) ≤ _; omega⟩, ⟨Int.le_refl _, by show (0 : Int) ≤ _; omega⟩, fun _ _ _ hv => absurd rfl hv, fun _ hv => absurd rfl hv, fun _ => .inl ⟨rfl, rfl⟩⟩
theorem fresh_at (w : World) (n : Int) (h : n = 4 ∨ n = 7 ∨ n = 10 ∨ n = 13) (cs : Array Value) (hcs : cs = (vcells (Vl.fresh n) (fun _ _ => none) (fun _ => .slice none 0 0) w.heap.size).toArray) :
    AtV ((w.alloc (.map #[] 0)).alloc (.cells cs 82)) (w.heap.size + 1) w.heap.size (fun _ _ => none) (fun _ => .slice none 0 0) (Vl.fresh n) := by
  have hs : (w.alloc (.map #[] 0)).heap.size = w.heap.size + 1 := by simp
  refine ⟨?_, fun _ _ _ _ _ => rfl, ?_, fun _ _ => .inl ⟨rfl, rfl⟩, (fun _ _ _ _ _ h => by cases h), Vl.fresh_ok h⟩
  · rw [← hcs, ← hs]; exact Blk.new _ _ _
  · exact (MapAt.made w Try.prog 3).carry (heap_alloc_old _ _ (by rw [hs]; omega))
def zlog : Array Value := (([.int .i64 0, .int .i64 0, .int .i64 0] : List Value) ++ (List.replicate 8 ([.bool false, .string noText, .string noText, .map none, .map none, .int .i64 0, .int .i64 0, .int .i64 0, .int .i64 0, .int .i64 0, .string noText, .string noText, .slice none 0 0] : List Value)).flatten ++ ([.map none] : List Value)).toArray
theorem zlog_zero (w : World) : (zeroValue 82).run Try.prog w = .ok (.agg zlog) w := by kernel_rfl
theorem zlog_size : zlog.size = 108 := by rfl
theorem zlog_set (n : Int) (gm : Nat) : (zlog.setIfInBounds 0 (.int .i64 n)).setIfInBounds 107 (.map (some gm)) = (vcells (Vl.fresh n) (fun _ _ => none) (fun _ => .slice none 0 0) gm).toArray := by
  rw [fresh_cells]; rfl
def Starts (n : Int) (w : World) (e : Ending) (w' : World) : Prop := ∃ g gm, e = .returned (.tuple #[.pointer (some ⟨g, 0, none⟩), .int .i64 0]) ∧ AtV w' g gm (fun _ _ => none) (fun _ => .slice none 0 0) (Vl.fresh n) ∧ w.heap.size ≤ g ∧ w.heap.size ≤ gm ∧ Below w.heap.size w w'
theorem starts {n : Int} {w w' : World} (g gm : Nat) (h1 : AtV w' g gm (fun _ _ => none) (fun _ => .slice none 0 0) (Vl.fresh n)) (h2 : w.heap.size ≤ g) (h3 : w.heap.size ≤ gm) (h4 : Below w.heap.size w w') : Starts n w (.returned (.tuple #[.pointer (some ⟨g, 0, none⟩), .int .i64 0])) w' := ⟨g, gm, rfl, h1, h2, h3, h4⟩
set_option maxHeartbeats 4000000 in
set_option maxRecDepth 100000 in
theorem new_calls (w : World) (n : Int) (hn : n = 4 ∨ n = 7 ∨ n = 10 ∨ n = 13) :
    Calls Try.prog 13 #[.int .i64 n] w (Starts n w) := by
  have hmm := @run_makeMap Try.prog
  have HF := Lib.hid (fun cs h => fresh_at w n hn cs h)
  have hz := zlog_zero
  have hz1 := zlog_size
  have HZ := Lib.hid zlog_set
  have hz2 : ¬ zlog = #[] := fun e => by rw [e] at hz1; cases hz1
  generalize zlog = Z at hz hz1 hz2 HZ
  rcases hn with rfl | rfl | rfl | rfl <;>
  · go_enter Try.func13, Try.ntmps13
    go_wp2
    go_ret2
    exact starts (w.heap.size + 1) w.heap.size (HF.out _ (HZ.out _ _)) (by omega) (by omega) (((Below.refl _ _).alloc (Nat.le_refl _) _).alloc (by simp) _)
end Go.Proofs.Ytedndjbhgbdpoaa
