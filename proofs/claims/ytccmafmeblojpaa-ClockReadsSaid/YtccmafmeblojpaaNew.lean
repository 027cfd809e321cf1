/- The contracts of New and of the methods that tell one number. -/
import Derived.Test.YtccmafmeblojpaaNext
namespace Go.Proofs.Ytccmafmeblojpaa
open Go.RowKit
theorem info_bidder : (Try.prog.info? 69).map (fun i => (i.zero, i.size, i.bytes)) = some (some (.agg #[.int .i64 0, .int .i64 0]), 2, 16) := by kernel_rfl
theorem bcells_zero (n : Nat) : bcells (List.replicate n (0, 0)) = List.replicate (n * 2) (.int .i64 0) := by
  induction n with
  | zero => rfl
  | succ n ih =>
    rw [List.replicate_succ, show (n + 1) * 2 = n * 2 + 1 + 1 from by omega, List.replicate_succ, List.replicate_succ, ← ih]
    rfl
theorem made_bidders (n : Nat) : madeCells (Value.agg #[.int .i64 0, .int .i64 0]).cells (n * 2) = (bcells (List.replicate n (0, 0))).toArray := by
  rw [bcells_zero]
  apply Array.ext'
  unfold madeCells
  simp [Value.cells]
  rw [List.eq_replicate_iff]
  refine ⟨by simp, fun b hb => ?_⟩
  obtain ⟨x, _, rfl⟩ := List.mem_map.1 hb
  rcases Nat.mod_two_eq_zero_or_one x with h | h <;> rw [h] <;> rfl
def Auc.fresh (su st sp : Int) (n : Nat) : Auc := ⟨su, st, sp, 1, 0, List.replicate n (0, 0)⟩
theorem new_bad (su st sp bd : Int) (w : World) (h : su < 1 ∨ su > 1048576 ∨ st < 0 ∨ st > 1099511627776 ∨ sp < 1 ∨ sp > 1099511627776 ∨ bd < 1 ∨ bd > 16) :
    Calls Try.prog 18 #[.int .i64 su, .int .i64 st, .int .i64 sp, .int .i64 bd] w fun e w' => e = .returned (.tuple #[.pointer none, .int .i64 1]) ∧ w' = w := by
  by_cases h1 : su < 1
  · clear h
    go_enter Try.func18, Try.ntmps18
    go_wp2
    go_ret2
    exact ⟨rfl, rfl⟩
  have g1 : 1 ≤ su := by omega
  by_cases h2 : su > 1048576
  · have h2' : 1048576 < su := h2
    clear h
    go_enter Try.func18, Try.ntmps18
    go_wp2
    go_ret2
    exact ⟨rfl, rfl⟩
  have g2 : su ≤ 1048576 := by omega
  by_cases h3 : st < 0
  · clear h
    go_enter Try.func18, Try.ntmps18
    go_wp2
    go_ret2
    exact ⟨rfl, rfl⟩
  have g3 : 0 ≤ st := by omega
  by_cases h4 : st > 1099511627776
  · have h4' : 1099511627776 < st := h4
    clear h
    go_enter Try.func18, Try.ntmps18
    go_wp2
    go_ret2
    exact ⟨rfl, rfl⟩
  have g4 : st ≤ 1099511627776 := by omega
  by_cases h5 : sp < 1
  · clear h
    go_enter Try.func18, Try.ntmps18
    go_wp2
    go_ret2
    exact ⟨rfl, rfl⟩
  have g5 : 1 ≤ sp := by omega
  by_cases h6 : sp > 1099511627776
  · have h6' : 1099511627776 < sp := h6
    clear h
    go_enter Try.func18, Try.ntmps18
    go_wp2
    go_ret2
    exact ⟨rfl, rfl⟩
  have g6 : sp ≤ 1099511627776 := by omega
  by_cases h7 : bd < 1
  · clear h
    go_enter Try.func18, Try.ntmps18
    go_wp2
    go_ret2
    exact ⟨rfl, rfl⟩
  have g7 : 1 ≤ bd := by omega
  have h8 : 16 < bd := by omega
  clear h
  go_enter Try.func18, Try.ntmps18
  go_wp2
  go_ret2
  exact ⟨rfl, rfl⟩
theorem fresh_ok {su st sp : Int} {n : Nat} (h1 : 1 ≤ su ∧ su ≤ 1048576) (h2 : 0 ≤ st ∧ st ≤ 1099511627776) (h3 : 1 ≤ sp ∧ sp ≤ 1099511627776) (h4 : 1 ≤ n ∧ n ≤ 16) : (Auc.fresh su st sp n).Ok := by
  refine ⟨h1, h2, h3, Int.le_refl _, ?_, .inl rfl, by simpa [Auc.fresh] using h4, fun p hp => ?_⟩
  · unfold Auc.price Auc.fresh
    simp only [Int.sub_self, Int.zero_mul, Int.add_zero]
    exact h2.2
  · rw [List.eq_of_mem_replicate hp]; simp
theorem new_calls (su st sp : Int) (n : Nat) (w : World) (h1 : 1 ≤ su ∧ su ≤ 1048576) (h2 : 0 ≤ st ∧ st ≤ 1099511627776) (h3 : 1 ≤ sp ∧ sp ≤ 1099511627776) (h4 : 1 ≤ n ∧ n ≤ 16) :
    Calls Try.prog 18 #[.int .i64 su, .int .i64 st, .int .i64 sp, .int .i64 (n : Int)] w fun e w' => ∃ g gl, e = .returned (.tuple #[.pointer (some ⟨g, 0, none⟩), .int .i64 0]) ∧ AtA w' g gl (Auc.fresh su st sp n) ∧ w.heap.size ≤ g ∧ w.heap.size ≤ gl ∧ Below w.heap.size w w' := by
  have hok := Lib.hid (fresh_ok h1 h2 h3 h4)
  obtain ⟨a1, a2⟩ := h1
  obtain ⟨b1, b2⟩ := h2
  obtain ⟨d1, d2⟩ := h3
  obtain ⟨n1, n2⟩ := h4
  have m1 : (1 : Int) ≤ (n : Int) := by omega
  have m2 : (n : Int) ≤ 16 := by omega
  obtain ⟨i0, hi0, hz0, hz1, hz2⟩ := info_parts info_bidder
  have hmk : ∀ w, (Instr.makeSlice 65 (.int .i64 (n : Int)) (.int .i64 (n : Int))).run Try.prog w = .ok (.slice (some ⟨w.heap.size, 0, none⟩) n n) (w.alloc (.cells (bcells (List.replicate n (0, 0))).toArray 69)) := fun w => by
    rw [run_make (P := Try.prog) w 65 69 i0 _ Try.underlying65 hi0 hz0 .i64 .i64 (n : Int) (n : Int) (by omega) (by omega) (by rw [hz2]; omega) (by omega)]
    rw [hz1, Int.toNat_natCast, made_bidders]
  clear hi0 hz0 hz1 hz2 n1 n2
  go_enter Try.func18, Try.ntmps18
  go_wp2
  go_ret2
  refine ⟨w.heap.size + 1, w.heap.size, by simp, ⟨?_, (Blk.new w _ _).alloc _, by omega, hok.out⟩, by omega, Nat.le_refl _, ((Below.refl _ _).alloc (Nat.le_refl _) _).alloc (by simp) _⟩
  have := Blk.new (w.alloc (.cells (bcells (List.replicate n (0, 0))).toArray 69)) 67 (acells (Auc.fresh su st sp n) w.heap.size)
  simp [acells, Auc.fresh] at this
  simpa [acells, Auc.fresh] using this
theorem round_calls (w : World) (g gl : Nat) (a : Auc) (h : AtA w g gl a) :
    Calls Try.prog 21 #[.pointer (some ⟨g, 0, none⟩)] w fun e w' => e = .returned (.int .i64 a.round) ∧ w' = w := by
  obtain ⟨c0, c1, c2, c3, c4, c5⟩ := h.cells
  clear h
  go_enter Try.func21, Try.ntmps21
  go_wp2
  go_ret
  exact ⟨rfl, rfl⟩
theorem state_calls (w : World) (g gl : Nat) (a : Auc) (h : AtA w g gl a) :
    Calls Try.prog 24 #[.pointer (some ⟨g, 0, none⟩)] w fun e w' => e = .returned (.int .i64 a.state) ∧ w' = w := by
  obtain ⟨c0, c1, c2, c3, c4, c5⟩ := h.cells
  clear h
  go_enter Try.func24, Try.ntmps24
  go_wp2
  go_ret
  exact ⟨rfl, rfl⟩
end Go.Proofs.Ytccmafmeblojpaa
