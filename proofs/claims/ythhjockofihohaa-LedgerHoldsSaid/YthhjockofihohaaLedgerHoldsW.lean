/- The walk of LedgerHolds: nothing is below 0, nobody holds more than there is, no total is above the greatest. -/
import Derived.Test.YthhjockofihohaaLedP
namespace Go.Proofs.Ythhjockofihohaa
open Go.RowKit
/-- The blocks that the law lays for itself. -/
def tots (x : Led) : Array Value := #[.int .i64 (x.tot 2), .int .i64 (x.tot 3), .int .i64 (x.tot 4), .int .i64 (x.tot 5)]
def accs (x : Led) (i : Nat) : Array Value := #[.int .i64 (x.z i 0), .int .i64 (x.z i 1), .int .i64 (x.z i 2), .int .i64 (x.z i 3), .int .i64 (x.z i 4), .int .i64 (x.z i 5), .int .i64 (x.z i 6), .int .i64 (x.z i 7), .int .i64 (x.z i 8), .int .i64 (x.z i 9)]
theorem tots_at (x : Led) {p : Nat} (h : p < 4) : (tots x)[p]? = some (.int .i64 (x.tot (2 + p))) := by
  rcases (show p = 0 ∨ p = 1 ∨ p = 2 ∨ p = 3 by omega) with rfl | rfl | rfl | rfl <;> rfl
theorem accs_at (x : Led) (i : Nat) {p : Nat} (h : p < 4) : (accs x i)[2 + p]? = some (.int .i64 (x.z i (2 + p))) ∧ (accs x i)[6 + p]? = some (.int .i64 (x.z i (6 + p))) := by
  rcases (show p = 0 ∨ p = 1 ∨ p = 2 ∨ p = 3 by omega) with rfl | rfl | rfl | rfl <;> exact ⟨rfl, rfl⟩
set_option maxHeartbeats 4000000 in
set_option maxRecDepth 100000 in
theorem LedgerHolds_walk (w : World) (A : Option Addr) (n c : Nat) (Z : Nat → LAct) (hZ : Script w A n Z) :
    Calls Try.prog 4 #[.slice A n c] w fun e w' => e = .returned (.bool true) ∧ Below w.heap.size w w' := by
  have HB := Lib.hid (begun_calls w A n c Z hZ)
  obtain ⟨hx3, hx2⟩ := Led.three_acts Z (min n 100)
  generalize Led.three.acts Z (min n 100) = x at HB hx3 hx2
  have HX3 := Lib.hid hx3
  have HX2 := Lib.hid hx2
  clear hZ hx3 hx2
  go_enter Try.func4, Try.ntmps4
  go_upto_region 4 with (first
    | (go_at_call 7; (refine HB.out.mono ?_); rintro e w1 ⟨g, gl, rfl, h⟩; have H0 := Lib.hid h; clear h))
  have HT := Lib.hid (H0.out.totals)
  have t0 : 0 ≤ x.tot 0 := sumTo_pos fun j hj => by have := H0.out.at_.ok.cash j hj; omega
  have t1 := H0.out.at_.ok.most
  have HOK := Lib.hid H0.out.at_.ok
  clear HB
  go_upto_region 5 with (first
    | (go_at_call 8; (refine HT.out.mono ?_); rintro e w2 ⟨rfl, h⟩; have H1 := Lib.hid h; clear h))
  obtain ⟨gt, hgt⟩ : ∃ gt, gt = w2.heap.size := ⟨_, rfl⟩
  have H2 : Hid (Lw w (w2.alloc (.cells #[.int .i64 (x.tot 2), .int .i64 (x.tot 3), .int .i64 (x.tot 4), .int .i64 (x.tot 5)] 27)) g gl x) := Lib.hid (H1.out.next ((Below.refl _ _).alloc (Nat.le_refl _) _))
  have B2 : Hid (Blk (w2.alloc (.cells #[.int .i64 (x.tot 2), .int .i64 (x.tot 3), .int .i64 (x.tot 4), .int .i64 (x.tot 5)] 27)) gt 27 (tots x)) := Lib.hid (by rw [hgt]; exact Blk.new _ _ _)
  rw [← hgt]
  generalize World.alloc w2 _ = wy at H2 B2 ⊢
  generalize x.tot 0 = tc at t0 t1 HT ⊢
  clear hgt H0 H1 HT
  go_wp2
  go_loopg [6] 4 (fun gk s6 wr => ∃ i, gk = 4 - i ∧ i ≤ 3 ∧ s6 = .int .i64 (i : Int) ∧ Hid (Lw w wr g gl x) ∧ Hid (Blk wr gt 27 (tots x)))
  case atStart => exact ⟨0, rfl, Nat.zero_le _, rfl, H2, B2⟩
  case round =>
    clear H2 B2
    obtain ⟨i, rfl, hi, rfl, H, B⟩ := hrel
    have i0 : (0 : Int) ≤ (i : Int) := by omega
    by_cases hlt : i < 3
    · have hltI : (i : Int) < 3 := by omega
      have hix : i < x.n := by rw [HX3.out]; exact hlt
      have HA := Lib.hid (account_calls wr g gl x H.out.at_ i hix)
      unfold told10 at HA
      go_upto_region 11 with (first
        | (go_at_call 12; (refine HA.out.mono ?_); rintro e w3 ⟨rfl, h⟩; have hb3 := Lib.hid h; clear h))
      obtain ⟨ga, hga⟩ : ∃ ga, ga = w3.heap.size := ⟨_, rfl⟩
      have hb4 : Hid (Below wr.heap.size wr (w3.alloc (.cells (accs x i) 36))) := Lib.hid (hb3.out.alloc hb3.out.size _)
      have B4 : Hid (Blk (w3.alloc (.cells (accs x i) 36)) ga 36 (accs x i)) := Lib.hid (by rw [hga]; exact Blk.new _ _ _)
      unfold accs at hb4 B4
      rw [← hga]
      generalize World.alloc w3 _ = wz at hb4 B4 ⊢
      have H4 : Hid (Lw w wz g gl x) := Lib.hid (H.out.next hb4.out)
      have B5 : Hid (Blk wz gt 27 (tots x)) := Lib.hid (B.out.below hb4.out B.out.lt)
      have BA : Hid (Blk wz ga 36 (accs x i)) := B4
      have c0 : wz.cell? ⟨ga, 0, none⟩ = some (.int .i64 (x.z i 0)) := BA.out.cell 0
      have c1 : wz.cell? ⟨ga, 1, none⟩ = some (.int .i64 (x.z i 1)) := BA.out.cell 1
      obtain ⟨q0, q1⟩ := HOK.out.cash i hix
      have q2 : decide (x.z i 1 < 0) = false := by simpa using q0
      have q3 : decide (x.z i 0 < x.z i 1) = false := by simpa using q1
      clear hga H B hb3 hb4 B4 HA
      go_wp2
      clear c0 c1 q0 q1 q2 q3
      go_loopg [9] 5 (fun gk s9 wr => ∃ p, gk = 5 - p ∧ p ≤ 4 ∧ s9 = .int .i64 (p : Int) ∧ Hid (Lw w wr g gl x) ∧ Hid (Blk wr gt 27 (tots x)) ∧ Hid (Blk wr ga 36 (accs x i)))
      case atStart => exact ⟨0, rfl, Nat.zero_le _, rfl, H4, B5, BA⟩
      case round =>
        clear H4 B5 BA
        obtain ⟨p, rfl, hp, rfl, H, B, BA⟩ := hrel
        have p0 : (0 : Int) ≤ (p : Int) := by omega
        by_cases hlt2 : p < 4
        · have hltI2 : (p : Int) < 4 := by omega
          have cg : wr.cell? ⟨ga, 2 + p, none⟩ = some (.int .i64 (x.z i (2 + p))) := by rw [BA.out.cell]; exact (accs_at x i hlt2).1
          have cl : wr.cell? ⟨ga, 6 + p, none⟩ = some (.int .i64 (x.z i (6 + p))) := by rw [BA.out.cell]; exact (accs_at x i hlt2).2
          have ct : wr.cell? ⟨gt, p, none⟩ = some (.int .i64 (x.tot (2 + p))) := by rw [B.out.cell]; exact tots_at x hlt2
          obtain ⟨q0, q1⟩ := HOK.out.good i p hix hlt2
          have q4 := HOK.out.mosts p hlt2
          have q2 : decide (x.z i (6 + p) < 0) = false := by simpa using q0
          have q3 : decide (x.z i (2 + p) < x.z i (6 + p)) = false := by simpa using q1
          have q5 : decide (1099511627776 < x.tot (2 + p)) = false := by simpa using q4
          have hz : 1 < p → x.z i (2 + p) = 0 := fun h => HOK.out.none_ i p hix hlt2 (by rw [HX2.out]; omega)
          generalize x.tot (2 + p) = y0 at ct q4 q5
          generalize x.z i (6 + p) = y1 at cl q0 q1 q2 q3
          generalize x.z i (2 + p) = y2 at cg q1 q3 hz
          have hbB := Lib.hid (fun k => H.out.drewN k)
          by_cases h1 : 1 < p
          · have h1I : decide ((1 : Int) < (p : Int)) = true := by simp; omega
            have h1N : decide (1 < p) = true := by simpa using h1
            have hy := hz h1
            subst hy
            clear hz
            go_wp2
            go_quiet (fail)
            go_wp2
            go_roundg (5 - (p + 1))
            case measure => omega
            case rel => exact ⟨p + 1, rfl, by omega, by go_num, Lib.hid (hbB.out _), Lib.hid (B.out.drewN _), Lib.hid (BA.out.drewN _)⟩
          · have h1I : decide ((1 : Int) < (p : Int)) = false := by simp; omega
            have h1N : decide (1 < p) = false := by simpa using h1
            clear hz
            go_wp2
            go_quiet (fail)
            go_wp2
            go_roundg (5 - (p + 1))
            case measure => omega
            case rel => exact ⟨p + 1, rfl, by omega, by go_num, Lib.hid (hbB.out _), Lib.hid (B.out.drewN _), Lib.hid (BA.out.drewN _)⟩
        · obtain rfl : p = 4 := by omega
          go_wp2
          go_roundg (4 - (i + 1))
          case measure => omega
          case rel => exact ⟨i + 1, rfl, by omega, by go_num, H, B⟩
    · obtain rfl : i = 3 := by omega
      go_wp2_with (first | (go_at_call 11; (with_reducible refine (awake_calls _).mono ?_); rintro e w5 ⟨rfl, hb⟩))
      go_ret
      exact ⟨rfl, H.out.all.trans (hb.mono H.out.all.size)⟩
end Go.Proofs.Ythhjockofihohaa
