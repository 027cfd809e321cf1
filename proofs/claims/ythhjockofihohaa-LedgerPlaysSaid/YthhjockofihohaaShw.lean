/- The reference's Shown; Account and New that refuse. -/
import Derived.Test.YthhjockofihohaaRNew
import Derived.Test.YthhjockofihohaaLedE
import Derived.BigRegion
namespace Go.Proofs.Ythhjockofihohaa
open Go.RowKit
theorem account_bad (w : World) (g gl : Nat) (x : Led) (h : AtL w g gl x) (who : Int) (hw : who < 0 ∨ x.n ≤ who) :
    Calls Try.prog 12 #[.pointer (some ⟨g, 0, none⟩), .int .i64 who] w fun e w' => e = .returned (.tuple #[.agg #[.int .i64 0, .int .i64 0, .int .i64 0, .int .i64 0, .int .i64 0, .int .i64 0, .int .i64 0, .int .i64 0, .int .i64 0, .int .i64 0], .bool false]) ∧ Below w.heap.size w w' := by
  have HF := Lib.hid (fun w1 (hb : Below w.heap.size w w1) => find_bad w1 g gl x (h.next hb) who hw)
  have hb0 : Hid (Below w.heap.size w (w.alloc (.cells #[.int .i64 0, .int .i64 0, .int .i64 0, .int .i64 0, .int .i64 0, .int .i64 0, .int .i64 0, .int .i64 0, .int .i64 0, .int .i64 0] 36))) := Lib.hid ((Below.refl _ _).alloc (Nat.le_refl _) _)
  clear h hw
  go_enter Try.func12, Try.ntmps12
  go_wp2_with (first
    | (go_at_call 29; (with_reducible refine (HF.out _ hb0.out).mono ?_); rintro e w1 ⟨rfl, rfl⟩))
  (try simp only [Exit.inBlock, Exit.then])
  refine bodyPost_ret (by simp [results, Try.results12, asAddr, go_sem]; rfl) rfl ?_
  exact ⟨rfl, hb0.out⟩
theorem new_bad (n k : Int) (w : World) (h : ¬ (1 ≤ n ∧ n ≤ 16 ∧ 1 ≤ k ∧ k ≤ 4)) :
    Calls Try.prog 13 #[.int .i64 n, .int .i64 k] w fun e w' => e = .returned (.tuple #[.pointer none, .int .i64 1]) ∧ w = w' := by
  by_cases a : n < 1
  · clear h
    go_enter Try.func13, Try.ntmps13
    go_wp2
    go_ret2
    exact ⟨rfl, rfl⟩
  · have aB : decide (n < 1) = false := by simpa using a
    by_cases b : 16 < n
    · clear h
      go_enter Try.func13, Try.ntmps13
      go_wp2
      go_ret2
      exact ⟨rfl, rfl⟩
    · have bB : decide (16 < n) = false := by simpa using b
      by_cases c : k < 1
      · clear h
        go_enter Try.func13, Try.ntmps13
        go_wp2
        go_ret2
        exact ⟨rfl, rfl⟩
      · have cB : decide (k < 1) = false := by simpa using c
        have d : 4 < k := by omega
        clear h
        go_enter Try.func13, Try.ntmps13
        go_wp2
        go_ret2
        exact ⟨rfl, rfl⟩
/-- What Shown has told behind j of four rounds. -/
def shw (F K : Nat → Int) (j : Nat) : Array Value := #[.int .i64 (F 0 + K 0), .int .i64 (K 0), .int .i64 (if 0 < j then F 1 + K 1 else 0), .int .i64 (if 1 < j then F 2 + K 2 else 0), .int .i64 (if 2 < j then F 3 + K 3 else 0), .int .i64 (if 3 < j then F 4 + K 4 else 0), .int .i64 (if 0 < j then K 1 else 0), .int .i64 (if 1 < j then K 2 else 0), .int .i64 (if 2 < j then K 3 else 0), .int .i64 (if 3 < j then K 4 else 0)]
set_option maxHeartbeats 2000000 in
theorem shown_calls (w : World) (F K : Nat → Int) (s : Int) (t : ByteArray) (hF : ∀ p, p < 5 → 0 ≤ F p ∧ F p ≤ 1099511627776) (hK : ∀ p, p < 5 → 0 ≤ K p ∧ K p ≤ 1099511627776) :
    Calls Try.prog 38 #[.agg #[.int .i64 (F 0), .int .i64 (F 1), .int .i64 (F 2), .int .i64 (F 3), .int .i64 (F 4), .int .i64 (K 0), .int .i64 (K 1), .int .i64 (K 2), .int .i64 (K 3), .int .i64 (K 4), .int .i64 s, .string t]] w fun e w' => e = .returned (.agg (shw F K 4)) ∧ Below w.heap.size w w' := by
  have hS : Hid (∀ p, p < 5 → IntKind.i64.wrap (F p + K p) = F p + K p) := Lib.hid fun p hp => by
    have := hF p hp
    have := hK p hp
    rw [IntKind.wrap_i64]; omega
  clear hF hK
  go_enter Try.func38, Try.ntmps38
  go_upto_region 2 with (fail)
  have hb0 : Hid (Below w.heap.size w (((w.alloc (.cells #[.int .i64 (F 0), .int .i64 (F 1), .int .i64 (F 2), .int .i64 (F 3), .int .i64 (F 4), .int .i64 (K 0), .int .i64 (K 1), .int .i64 (K 2), .int .i64 (K 3), .int .i64 (K 4), .int .i64 s, .string t] 69)).alloc (.cells #[.int .i64 0, .int .i64 0, .int .i64 0, .int .i64 0, .int .i64 0, .int .i64 0, .int .i64 0, .int .i64 0, .int .i64 0, .int .i64 0] 36)).alloc (.cells #[.int .i64 0, .int .i64 0, .int .i64 0, .int .i64 0, .int .i64 0, .int .i64 0, .int .i64 0, .int .i64 0, .int .i64 0, .int .i64 0] 36))) := Lib.hid ((((Below.refl _ _).alloc (Nat.le_refl _) _).alloc (by simp) _).alloc (by simp; omega) _)
  have B1 : Hid (Blk (((w.alloc (.cells #[.int .i64 (F 0), .int .i64 (F 1), .int .i64 (F 2), .int .i64 (F 3), .int .i64 (F 4), .int .i64 (K 0), .int .i64 (K 1), .int .i64 (K 2), .int .i64 (K 3), .int .i64 (K 4), .int .i64 s, .string t] 69)).alloc (.cells #[.int .i64 0, .int .i64 0, .int .i64 0, .int .i64 0, .int .i64 0, .int .i64 0, .int .i64 0, .int .i64 0, .int .i64 0, .int .i64 0] 36)).alloc (.cells #[.int .i64 0, .int .i64 0, .int .i64 0, .int .i64 0, .int .i64 0, .int .i64 0, .int .i64 0, .int .i64 0, .int .i64 0, .int .i64 0] 36)) w.heap.size 69 #[.int .i64 (F 0), .int .i64 (F 1), .int .i64 (F 2), .int .i64 (F 3), .int .i64 (F 4), .int .i64 (K 0), .int .i64 (K 1), .int .i64 (K 2), .int .i64 (K 3), .int .i64 (K 4), .int .i64 s, .string t]) := Lib.hid (((Blk.new _ _ _).alloc _).alloc _)
  have B2 : Hid (Blk (((w.alloc (.cells #[.int .i64 (F 0), .int .i64 (F 1), .int .i64 (F 2), .int .i64 (F 3), .int .i64 (F 4), .int .i64 (K 0), .int .i64 (K 1), .int .i64 (K 2), .int .i64 (K 3), .int .i64 (K 4), .int .i64 s, .string t] 69)).alloc (.cells #[.int .i64 0, .int .i64 0, .int .i64 0, .int .i64 0, .int .i64 0, .int .i64 0, .int .i64 0, .int .i64 0, .int .i64 0, .int .i64 0] 36)).alloc (.cells #[.int .i64 0, .int .i64 0, .int .i64 0, .int .i64 0, .int .i64 0, .int .i64 0, .int .i64 0, .int .i64 0, .int .i64 0, .int .i64 0] 36)) (w.heap.size + 1) 36 #[.int .i64 0, .int .i64 0, .int .i64 0, .int .i64 0, .int .i64 0, .int .i64 0, .int .i64 0, .int .i64 0, .int .i64 0, .int .i64 0]) := Lib.hid (by have := (Blk.new (w.alloc (.cells #[.int .i64 (F 0), .int .i64 (F 1), .int .i64 (F 2), .int .i64 (F 3), .int .i64 (F 4), .int .i64 (K 0), .int .i64 (K 1), .int .i64 (K 2), .int .i64 (K 3), .int .i64 (K 4), .int .i64 s, .string t] 69)) 36 #[.int .i64 0, .int .i64 0, .int .i64 0, .int .i64 0, .int .i64 0, .int .i64 0, .int .i64 0, .int .i64 0, .int .i64 0, .int .i64 0]).alloc (.cells #[.int .i64 0, .int .i64 0, .int .i64 0, .int .i64 0, .int .i64 0, .int .i64 0, .int .i64 0, .int .i64 0, .int .i64 0, .int .i64 0] 36); simpa using this)
  have B3 : Hid (Blk (((w.alloc (.cells #[.int .i64 (F 0), .int .i64 (F 1), .int .i64 (F 2), .int .i64 (F 3), .int .i64 (F 4), .int .i64 (K 0), .int .i64 (K 1), .int .i64 (K 2), .int .i64 (K 3), .int .i64 (K 4), .int .i64 s, .string t] 69)).alloc (.cells #[.int .i64 0, .int .i64 0, .int .i64 0, .int .i64 0, .int .i64 0, .int .i64 0, .int .i64 0, .int .i64 0, .int .i64 0, .int .i64 0] 36)).alloc (.cells #[.int .i64 0, .int .i64 0, .int .i64 0, .int .i64 0, .int .i64 0, .int .i64 0, .int .i64 0, .int .i64 0, .int .i64 0, .int .i64 0] 36)) (w.heap.size + 2) 36 #[.int .i64 0, .int .i64 0, .int .i64 0, .int .i64 0, .int .i64 0, .int .i64 0, .int .i64 0, .int .i64 0, .int .i64 0, .int .i64 0]) := Lib.hid (by have := Blk.new ((w.alloc (.cells #[.int .i64 (F 0), .int .i64 (F 1), .int .i64 (F 2), .int .i64 (F 3), .int .i64 (F 4), .int .i64 (K 0), .int .i64 (K 1), .int .i64 (K 2), .int .i64 (K 3), .int .i64 (K 4), .int .i64 s, .string t] 69)).alloc (.cells #[.int .i64 0, .int .i64 0, .int .i64 0, .int .i64 0, .int .i64 0, .int .i64 0, .int .i64 0, .int .i64 0, .int .i64 0, .int .i64 0] 36)) 36 #[.int .i64 0, .int .i64 0, .int .i64 0, .int .i64 0, .int .i64 0, .int .i64 0, .int .i64 0, .int .i64 0, .int .i64 0, .int .i64 0]; simpa using this)
  obtain ⟨g1, hg1⟩ : ∃ g1, w.heap.size = g1 := ⟨_, rfl⟩
  have HG := Lib.hid hg1
  rw [hg1] at B1 B2 B3 ⊢
  clear hg1
  generalize World.alloc (World.alloc (World.alloc w _) _) _ = wy at hb0 B1 B2 B3 ⊢
  have x0 : wy.cell? ⟨g1, 0, none⟩ = some (.int .i64 (F 0)) := B1.out.cell 0
  have x5 : wy.cell? ⟨g1, 5, none⟩ = some (.int .i64 (K 0)) := B1.out.cell 5
  have y0 : wy.cell? ⟨g1 + 2, 0, none⟩ = some (.int .i64 0) := B3.out.cell 0
  have f0 := B3.out.frozen 0
  have hw0 := hS.out 0 (by omega)
  go_upto_region 3 with (fail)
  have hb1 : Hid (Below w.heap.size w (wy.setCell ⟨g1 + 2, 0, none⟩ (.int .i64 (F 0 + K 0)))) := Lib.hid (hb0.out.setCell (by rw [HG.out]; exact Nat.le_add_right _ 2) _)
  have C1 : Hid (Blk (wy.setCell ⟨g1 + 2, 0, none⟩ (.int .i64 (F 0 + K 0))) g1 69 #[.int .i64 (F 0), .int .i64 (F 1), .int .i64 (F 2), .int .i64 (F 3), .int .i64 (F 4), .int .i64 (K 0), .int .i64 (K 1), .int .i64 (K 2), .int .i64 (K 3), .int .i64 (K 4), .int .i64 s, .string t]) := Lib.hid (B1.out.far (by omega) _)
  have C2 : Hid (Blk (wy.setCell ⟨g1 + 2, 0, none⟩ (.int .i64 (F 0 + K 0))) (g1 + 1) 36 #[.int .i64 0, .int .i64 0, .int .i64 0, .int .i64 0, .int .i64 0, .int .i64 0, .int .i64 0, .int .i64 0, .int .i64 0, .int .i64 0]) := Lib.hid (B2.out.far (by omega) _)
  have C3 := Lib.hid (B3.out.set_ 0 (.int .i64 (F 0 + K 0)))
  clear x0 x5 y0 f0 hw0 hb0 B1 B2 B3
  generalize World.setCell wy _ _ = wz at hb1 C1 C2 C3 ⊢
  have x5 : wz.cell? ⟨g1, 5, none⟩ = some (.int .i64 (K 0)) := C1.out.cell 5
  have y1 : wz.cell? ⟨g1 + 2, 1, none⟩ = some (.int .i64 0) := C3.out.cell 1
  have f1 := C3.out.frozen 1
  go_upto_region 4 with (fail)
  have hb2 : Hid (Below w.heap.size w (wz.setCell ⟨g1 + 2, 1, none⟩ (.int .i64 (K 0)))) := Lib.hid (hb1.out.setCell (by rw [HG.out]; exact Nat.le_add_right _ 2) _)
  have D1 : Hid (Blk (wz.setCell ⟨g1 + 2, 1, none⟩ (.int .i64 (K 0))) g1 69 #[.int .i64 (F 0), .int .i64 (F 1), .int .i64 (F 2), .int .i64 (F 3), .int .i64 (F 4), .int .i64 (K 0), .int .i64 (K 1), .int .i64 (K 2), .int .i64 (K 3), .int .i64 (K 4), .int .i64 s, .string t]) := Lib.hid (C1.out.far (by omega) _)
  have D2 : Hid (Blk (wz.setCell ⟨g1 + 2, 1, none⟩ (.int .i64 (K 0))) (g1 + 1) 36 #[.int .i64 0, .int .i64 0, .int .i64 0, .int .i64 0, .int .i64 0, .int .i64 0, .int .i64 0, .int .i64 0, .int .i64 0, .int .i64 0]) := Lib.hid (C2.out.far (by omega) _)
  have D3 : Hid (Blk (wz.setCell ⟨g1 + 2, 1, none⟩ (.int .i64 (K 0))) (g1 + 2) 36 (shw F K 0)) := Lib.hid (C3.out.set_ 1 (.int .i64 (K 0)))
  clear x5 y1 f1 hb1 C1 C2 C3
  generalize World.setCell wz _ _ = wx at hb2 D1 D2 D3 ⊢
  go_wp2
  go_loopg [4] 5 (fun gk s4 wr => ∃ j : Nat, gk = 5 - j ∧ j ≤ 4 ∧ s4 = .int .i64 (j : Int) ∧ Hid (Below w.heap.size w wr) ∧ Hid (Blk wr g1 69 #[.int .i64 (F 0), .int .i64 (F 1), .int .i64 (F 2), .int .i64 (F 3), .int .i64 (F 4), .int .i64 (K 0), .int .i64 (K 1), .int .i64 (K 2), .int .i64 (K 3), .int .i64 (K 4), .int .i64 s, .string t]) ∧ Hid (Blk wr (g1 + 1) 36 #[.int .i64 0, .int .i64 0, .int .i64 0, .int .i64 0, .int .i64 0, .int .i64 0, .int .i64 0, .int .i64 0, .int .i64 0, .int .i64 0]) ∧ Hid (Blk wr (g1 + 2) 36 (shw F K j)))
  case atStart => exact ⟨0, rfl, Nat.zero_le _, rfl, hb2, D1, D2, D3⟩
  case round =>
    clear hb2 D1 D2 D3
    obtain ⟨j, rfl, hj, rfl, hb, D1, D2, D3⟩ := hrel
    rcases (show j = 0 ∨ j = 1 ∨ j = 2 ∨ j = 3 ∨ j = 4 by omega) with rfl | rfl | rfl | rfl | rfl
    · have x1 : wr.cell? ⟨g1, 1, none⟩ = some (.int .i64 (F 1)) := D1.out.cell 1
      have x2 : wr.cell? ⟨g1, 6, none⟩ = some (.int .i64 (K 1)) := D1.out.cell 6
      have y1 : wr.cell? ⟨g1 + 2, 2, none⟩ = some (.int .i64 0) := D3.out.cell 2
      have f1 := D3.out.frozen 2
      have hw1 := hS.out 1 (by omega)
      go_upto_region 7 with (fail)
      go_region
      clear x1 x2 y1 f1 hw1
      have hb3 : Hid (Below w.heap.size w (wr.setCell ⟨g1 + 2, 2, none⟩ (.int .i64 (F 1 + K 1))).drew) := Lib.hid (hb.out.setCell (by rw [HG.out]; exact Nat.le_add_right _ 2) _).drew
      have E1 : Hid (Blk (wr.setCell ⟨g1 + 2, 2, none⟩ (.int .i64 (F 1 + K 1))).drew g1 69 #[.int .i64 (F 0), .int .i64 (F 1), .int .i64 (F 2), .int .i64 (F 3), .int .i64 (F 4), .int .i64 (K 0), .int .i64 (K 1), .int .i64 (K 2), .int .i64 (K 3), .int .i64 (K 4), .int .i64 s, .string t]) := Lib.hid (D1.out.far (by omega) _)
      have E2 : Hid (Blk (wr.setCell ⟨g1 + 2, 2, none⟩ (.int .i64 (F 1 + K 1))).drew (g1 + 1) 36 #[.int .i64 0, .int .i64 0, .int .i64 0, .int .i64 0, .int .i64 0, .int .i64 0, .int .i64 0, .int .i64 0, .int .i64 0, .int .i64 0]) := Lib.hid (D2.out.far (by omega) _)
      have E3 := Lib.hid (D3.out.set_ 2 (.int .i64 (F 1 + K 1))).drew
      generalize World.drew (World.setCell wr _ _) = wu at hb3 E1 E2 E3 ⊢
      have x2 : wu.cell? ⟨g1, 6, none⟩ = some (.int .i64 (K 1)) := E1.out.cell 6
      have y1 : wu.cell? ⟨g1 + 2, 6, none⟩ = some (.int .i64 0) := E3.out.cell 6
      have f1 := E3.out.frozen 6
      go_wp2
      go_roundg (5 - (0 + 1))
      case measure => omega
      case rel => exact ⟨0 + 1, rfl, by omega, rfl, Lib.hid (hb3.out.setCell (by rw [HG.out]; exact Nat.le_add_right _ 2) _), Lib.hid (E1.out.far (by omega) _), Lib.hid (E2.out.far (by omega) _), Lib.hid (E3.out.set_ 6 (.int .i64 (K 1)))⟩
    · have x1 : wr.cell? ⟨g1, 2, none⟩ = some (.int .i64 (F 2)) := D1.out.cell 2
      have x2 : wr.cell? ⟨g1, 7, none⟩ = some (.int .i64 (K 2)) := D1.out.cell 7
      have y1 : wr.cell? ⟨g1 + 2, 3, none⟩ = some (.int .i64 0) := D3.out.cell 3
      have f1 := D3.out.frozen 3
      have hw1 := hS.out 2 (by omega)
      go_upto_region 7 with (fail)
      go_region
      clear x1 x2 y1 f1 hw1
      have hb3 : Hid (Below w.heap.size w (wr.setCell ⟨g1 + 2, 3, none⟩ (.int .i64 (F 2 + K 2))).drew) := Lib.hid (hb.out.setCell (by rw [HG.out]; exact Nat.le_add_right _ 2) _).drew
      have E1 : Hid (Blk (wr.setCell ⟨g1 + 2, 3, none⟩ (.int .i64 (F 2 + K 2))).drew g1 69 #[.int .i64 (F 0), .int .i64 (F 1), .int .i64 (F 2), .int .i64 (F 3), .int .i64 (F 4), .int .i64 (K 0), .int .i64 (K 1), .int .i64 (K 2), .int .i64 (K 3), .int .i64 (K 4), .int .i64 s, .string t]) := Lib.hid (D1.out.far (by omega) _)
      have E2 : Hid (Blk (wr.setCell ⟨g1 + 2, 3, none⟩ (.int .i64 (F 2 + K 2))).drew (g1 + 1) 36 #[.int .i64 0, .int .i64 0, .int .i64 0, .int .i64 0, .int .i64 0, .int .i64 0, .int .i64 0, .int .i64 0, .int .i64 0, .int .i64 0]) := Lib.hid (D2.out.far (by omega) _)
      have E3 := Lib.hid (D3.out.set_ 3 (.int .i64 (F 2 + K 2))).drew
      generalize World.drew (World.setCell wr _ _) = wu at hb3 E1 E2 E3 ⊢
      have x2 : wu.cell? ⟨g1, 7, none⟩ = some (.int .i64 (K 2)) := E1.out.cell 7
      have y1 : wu.cell? ⟨g1 + 2, 7, none⟩ = some (.int .i64 0) := E3.out.cell 7
      have f1 := E3.out.frozen 7
      go_wp2
      go_roundg (5 - (1 + 1))
      case measure => omega
      case rel => exact ⟨1 + 1, rfl, by omega, rfl, Lib.hid (hb3.out.setCell (by rw [HG.out]; exact Nat.le_add_right _ 2) _), Lib.hid (E1.out.far (by omega) _), Lib.hid (E2.out.far (by omega) _), Lib.hid (E3.out.set_ 7 (.int .i64 (K 2)))⟩
    · have x1 : wr.cell? ⟨g1, 3, none⟩ = some (.int .i64 (F 3)) := D1.out.cell 3
      have x2 : wr.cell? ⟨g1, 8, none⟩ = some (.int .i64 (K 3)) := D1.out.cell 8
      have y1 : wr.cell? ⟨g1 + 2, 4, none⟩ = some (.int .i64 0) := D3.out.cell 4
      have f1 := D3.out.frozen 4
      have hw1 := hS.out 3 (by omega)
      go_upto_region 7 with (fail)
      go_region
      clear x1 x2 y1 f1 hw1
      have hb3 : Hid (Below w.heap.size w (wr.setCell ⟨g1 + 2, 4, none⟩ (.int .i64 (F 3 + K 3))).drew) := Lib.hid (hb.out.setCell (by rw [HG.out]; exact Nat.le_add_right _ 2) _).drew
      have E1 : Hid (Blk (wr.setCell ⟨g1 + 2, 4, none⟩ (.int .i64 (F 3 + K 3))).drew g1 69 #[.int .i64 (F 0), .int .i64 (F 1), .int .i64 (F 2), .int .i64 (F 3), .int .i64 (F 4), .int .i64 (K 0), .int .i64 (K 1), .int .i64 (K 2), .int .i64 (K 3), .int .i64 (K 4), .int .i64 s, .string t]) := Lib.hid (D1.out.far (by omega) _)
      have E2 : Hid (Blk (wr.setCell ⟨g1 + 2, 4, none⟩ (.int .i64 (F 3 + K 3))).drew (g1 + 1) 36 #[.int .i64 0, .int .i64 0, .int .i64 0, .int .i64 0, .int .i64 0, .int .i64 0, .int .i64 0, .int .i64 0, .int .i64 0, .int .i64 0]) := Lib.hid (D2.out.far (by omega) _)
      have E3 := Lib.hid (D3.out.set_ 4 (.int .i64 (F 3 + K 3))).drew
      generalize World.drew (World.setCell wr _ _) = wu at hb3 E1 E2 E3 ⊢
      have x2 : wu.cell? ⟨g1, 8, none⟩ = some (.int .i64 (K 3)) := E1.out.cell 8
      have y1 : wu.cell? ⟨g1 + 2, 8, none⟩ = some (.int .i64 0) := E3.out.cell 8
      have f1 := E3.out.frozen 8
      go_wp2
      go_roundg (5 - (2 + 1))
      case measure => omega
      case rel => exact ⟨2 + 1, rfl, by omega, rfl, Lib.hid (hb3.out.setCell (by rw [HG.out]; exact Nat.le_add_right _ 2) _), Lib.hid (E1.out.far (by omega) _), Lib.hid (E2.out.far (by omega) _), Lib.hid (E3.out.set_ 8 (.int .i64 (K 3)))⟩
    · have x1 : wr.cell? ⟨g1, 4, none⟩ = some (.int .i64 (F 4)) := D1.out.cell 4
      have x2 : wr.cell? ⟨g1, 9, none⟩ = some (.int .i64 (K 4)) := D1.out.cell 9
      have y1 : wr.cell? ⟨g1 + 2, 5, none⟩ = some (.int .i64 0) := D3.out.cell 5
      have f1 := D3.out.frozen 5
      have hw1 := hS.out 4 (by omega)
      go_upto_region 7 with (fail)
      go_region
      clear x1 x2 y1 f1 hw1
      have hb3 : Hid (Below w.heap.size w (wr.setCell ⟨g1 + 2, 5, none⟩ (.int .i64 (F 4 + K 4))).drew) := Lib.hid (hb.out.setCell (by rw [HG.out]; exact Nat.le_add_right _ 2) _).drew
      have E1 : Hid (Blk (wr.setCell ⟨g1 + 2, 5, none⟩ (.int .i64 (F 4 + K 4))).drew g1 69 #[.int .i64 (F 0), .int .i64 (F 1), .int .i64 (F 2), .int .i64 (F 3), .int .i64 (F 4), .int .i64 (K 0), .int .i64 (K 1), .int .i64 (K 2), .int .i64 (K 3), .int .i64 (K 4), .int .i64 s, .string t]) := Lib.hid (D1.out.far (by omega) _)
      have E2 : Hid (Blk (wr.setCell ⟨g1 + 2, 5, none⟩ (.int .i64 (F 4 + K 4))).drew (g1 + 1) 36 #[.int .i64 0, .int .i64 0, .int .i64 0, .int .i64 0, .int .i64 0, .int .i64 0, .int .i64 0, .int .i64 0, .int .i64 0, .int .i64 0]) := Lib.hid (D2.out.far (by omega) _)
      have E3 := Lib.hid (D3.out.set_ 5 (.int .i64 (F 4 + K 4))).drew
      generalize World.drew (World.setCell wr _ _) = wu at hb3 E1 E2 E3 ⊢
      have x2 : wu.cell? ⟨g1, 9, none⟩ = some (.int .i64 (K 4)) := E1.out.cell 9
      have y1 : wu.cell? ⟨g1 + 2, 9, none⟩ = some (.int .i64 0) := E3.out.cell 9
      have f1 := E3.out.frozen 9
      go_wp2
      go_roundg (5 - (3 + 1))
      case measure => omega
      case rel => exact ⟨3 + 1, rfl, by omega, rfl, Lib.hid (hb3.out.setCell (by rw [HG.out]; exact Nat.le_add_right _ 2) _), Lib.hid (E1.out.far (by omega) _), Lib.hid (E2.out.far (by omega) _), Lib.hid (E3.out.set_ 9 (.int .i64 (K 4)))⟩
    · have z0 := D3.out.cell 0
      have z1 := D3.out.cell 1
      have z2 := D3.out.cell 2
      have z3 := D3.out.cell 3
      have z4 := D3.out.cell 4
      have z5 := D3.out.cell 5
      have z6 := D3.out.cell 6
      have z7 := D3.out.cell 7
      have z8 := D3.out.cell 8
      have z9 := D3.out.cell 9
      have u0 : wr.cell? ⟨g1 + 1, 0, none⟩ = some (.int .i64 0) := D2.out.cell 0
      have v0 := D2.out.frozen 0
      have u1 : wr.cell? ⟨g1 + 1, 1, none⟩ = some (.int .i64 0) := D2.out.cell 1
      have v1 := D2.out.frozen 1
      have u2 : wr.cell? ⟨g1 + 1, 2, none⟩ = some (.int .i64 0) := D2.out.cell 2
      have v2 := D2.out.frozen 2
      have u3 : wr.cell? ⟨g1 + 1, 3, none⟩ = some (.int .i64 0) := D2.out.cell 3
      have v3 := D2.out.frozen 3
      have u4 : wr.cell? ⟨g1 + 1, 4, none⟩ = some (.int .i64 0) := D2.out.cell 4
      have v4 := D2.out.frozen 4
      have u5 : wr.cell? ⟨g1 + 1, 5, none⟩ = some (.int .i64 0) := D2.out.cell 5
      have v5 := D2.out.frozen 5
      have u6 : wr.cell? ⟨g1 + 1, 6, none⟩ = some (.int .i64 0) := D2.out.cell 6
      have v6 := D2.out.frozen 6
      have u7 : wr.cell? ⟨g1 + 1, 7, none⟩ = some (.int .i64 0) := D2.out.cell 7
      have v7 := D2.out.frozen 7
      have u8 : wr.cell? ⟨g1 + 1, 8, none⟩ = some (.int .i64 0) := D2.out.cell 8
      have v8 := D2.out.frozen 8
      have u9 : wr.cell? ⟨g1 + 1, 9, none⟩ = some (.int .i64 0) := D2.out.cell 9
      have v9 := D2.out.frozen 9
      simp only [shw, List.getElem?_toArray, List.getElem?_cons_zero, List.getElem?_cons_succ, Nat.reduceLT, if_true] at z0 z1 z2 z3 z4 z5 z6 z7 z8 z9
      go_wp2
      (try simp only [Exit.inBlock, Exit.then])
      refine bodyPost_ret (by simp [results, Try.results38, asAddr, go_sem, u0, u1, u2, u3, u4, u5, u6, u7, u8, u9]; rfl) rfl ?_
      refine ⟨rfl, ?_⟩
      have hle : w.heap.size ≤ g1 + 1 := by rw [HG.out]; exact Nat.le_succ _
      exact (((((((((hb.out.setCell hle _).setCell hle _).setCell hle _).setCell hle _).setCell hle _).setCell hle _).setCell hle _).setCell hle _).setCell hle _).setCell hle _
end Go.Proofs.Ythhjockofihohaa
