/- awake and begun of the ledger's laws. -/
import Derived.Test.YthhjockofihohaaLedF
namespace Go.Proofs.Ythhjockofihohaa
open Go.RowKit
def x0 : Led := Led.fresh 2 1
def x1 : Led := (x0.pay 0 9).1
def x2 : Led := (x1.hold 0 5).1
def x3 : Led := (x2.take 0 5).1
def x4 : Led := (x3.move 0 1 3).1
theorem r1 : (x0.pay 0 9).2 = 0 := by decide
theorem r2 : (x1.hold 0 5).2 = 0 := by decide
theorem r3 : (x2.take 0 5).2 = 61 := by decide
theorem r4 : (x3.move 0 1 3).2 = 0 := by decide
theorem n4 : x4.n = 2 := by decide
theorem s4 : x4.z 0 0 = 6 ∧ x4.z 0 1 = 2 ∧ x4.z 1 0 = 3 ∧ x4.z 1 1 = 0 := by decide
section
variable {w0 w : World} {g gl : Nat}
theorem ex_pay (h : Lw w0 w g gl x0) : Calls Try.prog 19 #[.pointer (some ⟨g, 0, none⟩), .int .i64 0, .int .i64 9] w fun e w' => e = .returned (.int .i64 0) ∧ Lw w0 w' g gl x1 := by
  have := h.pay 0 9; rw [r1] at this; exact this
theorem ex_hold (h : Lw w0 w g gl x1) : Calls Try.prog 23 #[.pointer (some ⟨g, 0, none⟩), .int .i64 0, .int .i64 5] w fun e w' => e = .returned (.int .i64 0) ∧ Lw w0 w' g gl x2 := by
  have := h.hold 0 5; rw [r2] at this; exact this
theorem ex_take (h : Lw w0 w g gl x2) : Calls Try.prog 20 #[.pointer (some ⟨g, 0, none⟩), .int .i64 0, .int .i64 5] w fun e w' => e = .returned (.int .i64 61) ∧ Lw w0 w' g gl x3 := by
  have := h.take 0 5; rw [r3] at this; exact this
theorem ex_move (h : Lw w0 w g gl x3) : Calls Try.prog 27 #[.pointer (some ⟨g, 0, none⟩), .int .i64 0, .int .i64 1, .int .i64 3] w fun e w' => e = .returned (.int .i64 0) ∧ Lw w0 w' g gl x4 := by
  have := h.move 0 1 3; rw [r4] at this; exact this
theorem ex_acc0 (h : Lw w0 w g gl x4) : Calls Try.prog 12 #[.pointer (some ⟨g, 0, none⟩), .int .i64 0] w fun e w' => e = .returned (.tuple #[.agg #[.int .i64 6, .int .i64 2, .int .i64 (x4.z 0 2), .int .i64 (x4.z 0 3), .int .i64 (x4.z 0 4), .int .i64 (x4.z 0 5), .int .i64 (x4.z 0 6), .int .i64 (x4.z 0 7), .int .i64 (x4.z 0 8), .int .i64 (x4.z 0 9)], .bool true]) ∧ Lw w0 w' g gl x4 := by
  have := h.account 0 (by rw [n4]; omega)
  unfold told10 at this
  rw [s4.1, s4.2.1] at this
  exact this
theorem ex_acc1b (h : Lw w0 w g gl x4) : Calls Try.prog 12 #[.pointer (some ⟨g, 0, none⟩), .int .i64 1] w fun e w' => e = .returned (.tuple #[.agg #[.int .i64 3, .int .i64 0, .int .i64 (x4.z 1 2), .int .i64 (x4.z 1 3), .int .i64 (x4.z 1 4), .int .i64 (x4.z 1 5), .int .i64 (x4.z 1 6), .int .i64 (x4.z 1 7), .int .i64 (x4.z 1 8), .int .i64 (x4.z 1 9)], .bool true]) ∧ Lw w0 w' g gl x4 ∧ Below w.heap.size w w' := by
  have := account_calls w g gl x4 h.at_ 1 (by rw [n4]; omega)
  unfold told10 at this
  rw [s4.2.2.1, s4.2.2.2] at this
  exact this.mono fun _ _ ⟨h1, h2⟩ => ⟨h1, h.next h2, h2⟩
end
set_option maxHeartbeats 2000000 in
theorem awake_calls (w : World) : Calls Try.prog 11 #[] w fun e w' => e = .returned (.bool true) ∧ Below w.heap.size w w' := by
  have HN := Lib.hid (Lw.new 2 1 w (by omega) (by omega))
  go_enter Try.func11, Try.ntmps11
  go_upto_region 4 with (first
    | (go_at_call 13; (refine HN.out.mono ?_); rintro e w1 ⟨g, gl, rfl, h⟩; have H0 := Lib.hid h; clear h)
    | (go_at_call 19; (with_reducible refine (ex_pay H0.out).mono ?_); rintro e w2 ⟨rfl, h⟩; have H1 := Lib.hid h; clear h)
    | (go_at_call 23; (with_reducible refine (ex_hold H1.out).mono ?_); rintro e w3 ⟨rfl, h⟩; have H2 := Lib.hid h; clear h)
    | (go_at_call 20; (with_reducible refine (ex_take H2.out).mono ?_); rintro e w4 ⟨rfl, h⟩; have H3 := Lib.hid h; clear h)
    | (go_at_call 27; (with_reducible refine (ex_move H3.out).mono ?_); rintro e w5 ⟨rfl, h⟩; have H4 := Lib.hid h; clear h))
  have HA0 := Lib.hid (ex_acc0 H4.out)
  generalize x4.z 0 2 = a2 at HA0
  generalize x4.z 0 3 = a3 at HA0
  generalize x4.z 0 4 = a4 at HA0
  generalize x4.z 0 5 = a5 at HA0
  generalize x4.z 0 6 = a6 at HA0
  generalize x4.z 0 7 = a7 at HA0
  generalize x4.z 0 8 = a8 at HA0
  generalize x4.z 0 9 = a9 at HA0
  go_upto_region 5 with (first
    | (go_at_call 12; (with_reducible refine HA0.out.mono ?_); rintro e w6 ⟨rfl, h⟩; have H5 := Lib.hid h; clear h))
  obtain ⟨g0, hg0⟩ : ∃ g0, g0 = w6.heap.size := ⟨_, rfl⟩
  have H6 : Hid (Lw w (w6.alloc (.cells #[.int .i64 6, .int .i64 2, .int .i64 a2, .int .i64 a3, .int .i64 a4, .int .i64 a5, .int .i64 a6, .int .i64 a7, .int .i64 a8, .int .i64 a9] 36)) g gl x4) := Lib.hid (H5.out.next ((Below.refl _ _).alloc (Nat.le_refl _) _))
  have B0 : Hid (Blk (w6.alloc (.cells #[.int .i64 6, .int .i64 2, .int .i64 a2, .int .i64 a3, .int .i64 a4, .int .i64 a5, .int .i64 a6, .int .i64 a7, .int .i64 a8, .int .i64 a9] 36)) g0 36 #[.int .i64 6, .int .i64 2, .int .i64 a2, .int .i64 a3, .int .i64 a4, .int .i64 a5, .int .i64 a6, .int .i64 a7, .int .i64 a8, .int .i64 a9]) := Lib.hid (by rw [hg0]; exact Blk.new _ _ _)
  rw [← hg0]
  generalize World.alloc w6 _ = wy at H6 B0 ⊢
  have HA1 := Lib.hid (ex_acc1b H6.out)
  generalize x4.z 1 2 = b2 at HA1
  generalize x4.z 1 3 = b3 at HA1
  generalize x4.z 1 4 = b4 at HA1
  generalize x4.z 1 5 = b5 at HA1
  generalize x4.z 1 6 = b6 at HA1
  generalize x4.z 1 7 = b7 at HA1
  generalize x4.z 1 8 = b8 at HA1
  generalize x4.z 1 9 = b9 at HA1
  have HB0 : Hid (∀ w1, Below wy.heap.size wy w1 → w1.cell? ⟨g0, 0, none⟩ = some (.int .i64 6) ∧ w1.cell? ⟨g0, 1, none⟩ = some (.int .i64 2)) := Lib.hid fun w1 hb => ⟨(B0.out.below hb B0.out.lt).cell 0, (B0.out.below hb B0.out.lt).cell 1⟩
  clear hg0 HA0 HN
  go_upto_region 6 with (first
    | (go_at_call 12; (with_reducible refine HA1.out.mono ?_); rintro e w7 ⟨rfl, h, hb⟩; have H7 := Lib.hid h; have hb7 := Lib.hid hb; clear h hb))
  have c0 : (w7.alloc (.cells #[.int .i64 3, .int .i64 0, .int .i64 b2, .int .i64 b3, .int .i64 b4, .int .i64 b5, .int .i64 b6, .int .i64 b7, .int .i64 b8, .int .i64 b9] 36)).cell? ⟨g0, 0, none⟩ = some (.int .i64 6) := (HB0.out _ (hb7.out.alloc hb7.out.size _)).1
  have c1 : (w7.alloc (.cells #[.int .i64 3, .int .i64 0, .int .i64 b2, .int .i64 b3, .int .i64 b4, .int .i64 b5, .int .i64 b6, .int .i64 b7, .int .i64 b8, .int .i64 b9] 36)).cell? ⟨g0, 1, none⟩ = some (.int .i64 2) := (HB0.out _ (hb7.out.alloc hb7.out.size _)).2
  go_wp2
  go_ret
  exact ⟨rfl, H7.out.all.alloc H7.out.all.size _⟩
end Go.Proofs.Ythhjockofihohaa
