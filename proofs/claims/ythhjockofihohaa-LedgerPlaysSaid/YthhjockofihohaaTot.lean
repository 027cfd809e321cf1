/- The contract of Totals. -/
import Derived.Test.YthhjockofihohaaLedA
namespace Go.Proofs.Ythhjockofihohaa
open Go.RowKit
/-- What is summed of good p: i accounts, and one more of the first k goods. -/
def part4 (x : Led) (i k p : Nat) : Int := sumTo (fun a => x.z a (2 + p)) (if p < k then i + 1 else i)
theorem part4_put (x : Led) (i k : Nat) : part4 x i (k + 1) k = part4 x i k k + x.z i (2 + k) := by
  unfold part4; rw [if_pos (by omega), if_neg (by omega)]; rfl
theorem part4_keep (x : Led) (i k p : Nat) (h : p ≠ k) : part4 x i (k + 1) p = part4 x i k p := by
  unfold part4
  by_cases h2 : p < k
  · rw [if_pos h2, if_pos (by omega)]
  · rw [if_neg h2, if_neg (by omega)]
theorem part4_next (x : Led) (i p : Nat) (h : p < 4) : part4 x i 4 p = part4 x (i + 1) 0 p := by
  unfold part4; rw [if_pos h, if_neg (by omega)]
theorem part4_bound {x : Led} (h : x.Ok) {i k p : Nat} (hi : i < x.n) (hp : p < 4) : 0 ≤ part4 x i k p ∧ part4 x i k p ≤ 1099511627776 := by
  have hz : ∀ j, j < x.n → 0 ≤ x.z j (2 + p) := fun j hj => by have := h.good j p hj hp; omega
  unfold part4
  refine ⟨sumTo_pos fun j hj => hz j (by split at hj <;> omega), Int.le_trans (sumTo_mono hz (by split <;> omega)) (h.mosts p hp)⟩
def sums4 (x : Led) (i k : Nat) : Array Value := #[.int .i64 (part4 x i k 0), .int .i64 (part4 x i k 1), .int .i64 (part4 x i k 2), .int .i64 (part4 x i k 3)]
theorem sums4_put (x : Led) (i : Nat) {k : Nat} (hk : k < 4) : (sums4 x i k).setIfInBounds k (.int .i64 (part4 x i k k + x.z i (2 + k))) = sums4 x i (k + 1) := by
  rw [← part4_put]
  unfold sums4
  rcases (show k = 0 ∨ k = 1 ∨ k = 2 ∨ k = 3 by omega) with rfl | rfl | rfl | rfl
  · rw [part4_keep x i 0 1 (by omega), part4_keep x i 0 2 (by omega), part4_keep x i 0 3 (by omega)]; rfl
  · rw [part4_keep x i 1 0 (by omega), part4_keep x i 1 2 (by omega), part4_keep x i 1 3 (by omega)]; rfl
  · rw [part4_keep x i 2 0 (by omega), part4_keep x i 2 1 (by omega), part4_keep x i 2 3 (by omega)]; rfl
  · rw [part4_keep x i 3 0 (by omega), part4_keep x i 3 1 (by omega), part4_keep x i 3 2 (by omega)]; rfl
theorem index4 (w : World) (a b c d : Int) (v : Int) (i : Int) (h : (i = 0 ∧ v = a) ∨ (i = 1 ∧ v = b) ∨ (i = 2 ∧ v = c) ∨ (i = 3 ∧ v = d)) :
    (Instr.index 27 (.agg #[.int .i64 a, .int .i64 b, .int .i64 c, .int .i64 d]) (.int .i64 i)).run Try.prog w = .ok (.int .i64 v) w := by
  rcases h with ⟨rfl, rfl⟩ | ⟨rfl, rfl⟩ | ⟨rfl, rfl⟩ | ⟨rfl, rfl⟩ <;> simp [Instr.index, run_underlying Try.underlying27, asIntOf, go_sem]
set_option maxHeartbeats 4000000 in
theorem totals_calls (w : World) (g gl : Nat) (x : Led) (h : AtL w g gl x) :
    Calls Try.prog 8 #[.pointer (some ⟨g, 0, none⟩)] w fun e w' => e = .returned (.tuple #[.int .i64 (x.tot 0), .agg #[.int .i64 (x.tot 2), .int .i64 (x.tot 3), .int .i64 (x.tot 4), .int .i64 (x.tot 5)]]) ∧ Below w.heap.size w w' := by
  have H := Lib.hid h
  obtain ⟨n, hn⟩ : ∃ n, Hid (x.n = n) := ⟨_, Lib.hid rfl⟩
  have hn16 := h.ok.len.2
  rw [hn.out] at hn16
  have hc1 : Hid (∀ w1, Below w.heap.size w w1 → w1.cell? ⟨g, 1, none⟩ = some (.slice (some ⟨gl, 0, none⟩) n n)) := Lib.hid fun w1 hb => by
    have := (h.next hb).cells.2
    rwa [hn.out] at this
  clear h
  go_enter Try.func8, Try.ntmps8
  go_upto_region 1 with (fail)
  obtain ⟨gt, hgt⟩ : ∃ gt, gt = w.heap.size := ⟨_, rfl⟩
  have hB0 : Hid (Blk (w.alloc (.cells #[.int .i64 0, .int .i64 0, .int .i64 0, .int .i64 0] 27)) gt 27 (sums4 x 0 0)) := Lib.hid (by rw [hgt]; exact Blk.new _ _ _)
  have hb0 : Hid (Below w.heap.size w (w.alloc (.cells #[.int .i64 0, .int .i64 0, .int .i64 0, .int .i64 0] 27))) := Lib.hid ((Below.refl _ _).alloc (Nat.le_refl _) _)
  have hgl : Hid (w.heap.size ≤ gt) := Lib.hid (by rw [hgt]; exact Nat.le_refl _)
  rw [← hgt]
  generalize World.alloc w _ = wx at hB0 hb0 ⊢
  clear hgt
  have c1 := hc1.out _ hb0.out
  go_wp2
  clear c1
  go_loopg [2, 15] (n + 1) (fun gk s2 s15 wr => ∃ i, gk = n + 1 - i ∧ i ≤ n ∧ s15 = .int .i64 (i : Int) ∧ s2 = .int .i64 (sumTo (fun a => x.z a 0) i) ∧ Hid (Blk wr gt 27 (sums4 x i 0)) ∧ Hid (Below w.heap.size w wr))
  case atStart => exact ⟨0, rfl, Nat.zero_le _, rfl, rfl, hB0, hb0⟩
  case round =>
    clear hB0 hb0
    obtain ⟨i, rfl, hi, rfl, rfl, hB, hb⟩ := hrel
    have i0 : (0 : Int) ≤ (i : Int) := by omega
    by_cases hlt : i < n
    · have hltI : (i : Int) < (n : Int) := by omega
      have hl : i < x.n := by rw [hn.out]; exact hlt
      have HA := H.out.next hb.out
      have k0 : wr.cell? ⟨gl, i * 12, none⟩ = some (.int .i64 (x.z i 0)) := HA.num hl (k := 0) (by omega)
      have k1 := HA.num hl (k := 1) (by omega)
      have k2 := HA.num hl (k := 2) (by omega)
      have k3 := HA.num hl (k := 3) (by omega)
      have k4 := HA.num hl (k := 4) (by omega)
      have k5 := HA.num hl (k := 5) (by omega)
      have k6 := HA.num hl (k := 6) (by omega)
      have k7 := HA.num hl (k := 7) (by omega)
      have k8 := HA.num hl (k := 8) (by omega)
      have k9 := HA.num hl (k := 9) (by omega)
      have k10 := HA.num hl (k := 10) (by omega)
      have k11 := HA.text hl
      have hzb := H.out.ok.cash i hl
      have hzs : 0 ≤ sumTo (fun a => x.z a 0) i := sumTo_pos fun j hj => by have := H.out.ok.cash j (by omega); omega
      have hzt : sumTo (fun a => x.z a 0) (i + 1) ≤ 1099511627776 := Int.le_trans (sumTo_mono (fun j hj => by have := H.out.ok.cash j hj; omega) (by omega)) H.out.ok.most
      have hsn : Hid (sumTo (fun a => x.z a 0) (i + 1) = sumTo (fun a => x.z a 0) i + x.z i 0) := Lib.hid rfl
      rw [hsn.out] at hzt
      have hgd : ∀ p, p < 4 → 0 ≤ x.z i (2 + p) ∧ x.z i (2 + p) ≤ 1099511627776 := fun p hp => by
        have := H.out.ok.good i p hl hp
        have := H.out.ok.good_le hl hp
        omega
      have d0 := hgd 0 (by omega)
      have d1 := hgd 1 (by omega)
      have d2 := hgd 2 (by omega)
      have d3 := hgd 3 (by omega)
      have PB : Hid (∀ k p, p < 4 → 0 ≤ part4 x i k p ∧ part4 x i k p ≤ 1099511627776) := Lib.hid fun k p hp => part4_bound H.out.ok hl hp
      have P0 := Lib.hid (sums4_put x i (k := 0) (by omega))
      have P1 := Lib.hid (sums4_put x i (k := 1) (by omega))
      have P2 := Lib.hid (sums4_put x i (k := 2) (by omega))
      have P3 := Lib.hid (sums4_put x i (k := 3) (by omega))
      obtain ⟨zc0, zc1⟩ := hzb
      simp only [Nat.reduceAdd] at d0 d1 d2 d3 P0 P1 P2 P3
      generalize x.z i 0 = y0 at *
      generalize x.z i 1 = y1 at *
      generalize x.z i 2 = y2 at *
      generalize x.z i 3 = y3 at *
      generalize x.z i 4 = y4 at *
      generalize x.z i 5 = y5 at *
      generalize x.z i 6 = y6 at *
      generalize x.z i 7 = y7 at *
      generalize x.z i 8 = y8 at *
      generalize x.z i 9 = y9 at *
      generalize x.z i 10 = y10 at *
      generalize x.r i = yr at *
      clear HA hl hgd
      go_wp2
      have hBw := Lib.hid (hB.out.alloc (.cells #[.int .i64 y0, .int .i64 y1, .int .i64 y2, .int .i64 y3, .int .i64 y4, .int .i64 y5, .int .i64 y6, .int .i64 y7, .int .i64 y8, .int .i64 y9, .int .i64 y10, .string yr] 60))
      have hbw := Lib.hid (hb.out.alloc hb.out.size (.cells #[.int .i64 y0, .int .i64 y1, .int .i64 y2, .int .i64 y3, .int .i64 y4, .int .i64 y5, .int .i64 y6, .int .i64 y7, .int .i64 y8, .int .i64 y9, .int .i64 y10, .string yr] 60))
      generalize World.alloc wr _ = wz at hBw hbw ⊢
      clear k0 k1 k2 k3 k4 k5 k6 k7 k8 k9 k10 k11 hB hb
      go_loopg [27] 5 (fun gk s27 wr => ∃ k, gk = 5 - k ∧ k ≤ 4 ∧ s27 = .int .i64 ((k : Nat) : Int) ∧ Hid (Blk wr gt 27 (sums4 x i k)) ∧ Hid (Below w.heap.size w wr))
      case atStart => exact ⟨0, rfl, Nat.zero_le _, rfl, hBw, hbw⟩
      case round =>
        clear hBw hbw
        obtain ⟨k, rfl, hk, rfl, hB, hb⟩ := hrel
        by_cases hk4 : k < 4
        · rcases (show k = 0 ∨ k = 1 ∨ k = 2 ∨ k = 3 by omega) with rfl | rfl | rfl | rfl
          · have c2 : wr.cell? ⟨gt, 0, none⟩ = some (.int .i64 (part4 x i 0 0)) := hB.out.cell 0
            have f2 := hB.out.frozen 0
            obtain ⟨b1, b2⟩ := PB.out 0 0 (by omega)
            have hB2 := hB.out.set_ 0 (.int .i64 (part4 x i 0 0 + y2))
            rw [P0.out] at hB2
            replace hB2 := Lib.hid hB2
            generalize part4 x i 0 0 = y at c2 b1 b2 hB2
            have hix := index4 wr y2 y3 y4 y5 y2 0 (by simp)
            go_wp2
            go_roundg (5 - (0 + 1))
            case measure => omega
            case rel => exact ⟨0 + 1, rfl, by omega, by go_num, hB2, Lib.hid (hb.out.setCell (p := ⟨gt, 0, none⟩) hgl.out _)⟩
          · have c2 : wr.cell? ⟨gt, 1, none⟩ = some (.int .i64 (part4 x i 1 1)) := hB.out.cell 1
            have f2 := hB.out.frozen 1
            obtain ⟨b1, b2⟩ := PB.out 1 1 (by omega)
            have hB2 := hB.out.set_ 1 (.int .i64 (part4 x i 1 1 + y3))
            rw [P1.out] at hB2
            replace hB2 := Lib.hid hB2
            generalize part4 x i 1 1 = y at c2 b1 b2 hB2
            have hix := index4 wr y2 y3 y4 y5 y3 1 (by simp)
            go_wp2
            go_roundg (5 - (1 + 1))
            case measure => omega
            case rel => exact ⟨1 + 1, rfl, by omega, by go_num, hB2, Lib.hid (hb.out.setCell (p := ⟨gt, 1, none⟩) hgl.out _)⟩
          · have c2 : wr.cell? ⟨gt, 2, none⟩ = some (.int .i64 (part4 x i 2 2)) := hB.out.cell 2
            have f2 := hB.out.frozen 2
            obtain ⟨b1, b2⟩ := PB.out 2 2 (by omega)
            have hB2 := hB.out.set_ 2 (.int .i64 (part4 x i 2 2 + y4))
            rw [P2.out] at hB2
            replace hB2 := Lib.hid hB2
            generalize part4 x i 2 2 = y at c2 b1 b2 hB2
            have hix := index4 wr y2 y3 y4 y5 y4 2 (by simp)
            go_wp2
            go_roundg (5 - (2 + 1))
            case measure => omega
            case rel => exact ⟨2 + 1, rfl, by omega, by go_num, hB2, Lib.hid (hb.out.setCell (p := ⟨gt, 2, none⟩) hgl.out _)⟩
          · have c2 : wr.cell? ⟨gt, 3, none⟩ = some (.int .i64 (part4 x i 3 3)) := hB.out.cell 3
            have f2 := hB.out.frozen 3
            obtain ⟨b1, b2⟩ := PB.out 3 3 (by omega)
            have hB2 := hB.out.set_ 3 (.int .i64 (part4 x i 3 3 + y5))
            rw [P3.out] at hB2
            replace hB2 := Lib.hid hB2
            generalize part4 x i 3 3 = y at c2 b1 b2 hB2
            have hix := index4 wr y2 y3 y4 y5 y5 3 (by simp)
            go_wp2
            go_roundg (5 - (3 + 1))
            case measure => omega
            case rel => exact ⟨3 + 1, rfl, by omega, by go_num, hB2, Lib.hid (hb.out.setCell (p := ⟨gt, 3, none⟩) hgl.out _)⟩
        · obtain rfl : k = 4 := by omega
          have hfin : Hid (sums4 x i 4 = sums4 x (i + 1) 0) := Lib.hid (by unfold sums4; rw [part4_next x i 0 (by omega), part4_next x i 1 (by omega), part4_next x i 2 (by omega), part4_next x i 3 (by omega)])
          go_wp2
          go_roundg (n + 1 - (i + 1))
          case measure => omega
          case rel => exact ⟨i + 1, rfl, by omega, by go_num, by rw [hsn.out], by rw [← hfin.out]; exact hB, hb⟩
    · obtain rfl : i = n := by omega
      have hp : Hid (∀ p, part4 x i 0 p = x.tot (2 + p)) := Lib.hid fun p => by unfold part4 Led.tot; rw [if_neg (by omega), hn.out]
      have ht : Hid (sumTo (fun a => x.z a 0) i = x.tot 0) := Lib.hid (by unfold Led.tot; rw [hn.out])
      have hBt : Hid (Blk wr gt 27 #[.int .i64 (x.tot 2), .int .i64 (x.tot 3), .int .i64 (x.tot 4), .int .i64 (x.tot 5)]) := Lib.hid (by
        have := hB.out
        unfold sums4 at this
        rw [hp.out 0, hp.out 1, hp.out 2, hp.out 3] at this
        exact this)
      rw [ht.out]
      clear hB
      have t0 : wr.cell? ⟨gt, 0, none⟩ = some (.int .i64 (x.tot 2)) := hBt.out.cell 0
      have t1 : wr.cell? ⟨gt, 1, none⟩ = some (.int .i64 (x.tot 3)) := hBt.out.cell 1
      have t2 : wr.cell? ⟨gt, 2, none⟩ = some (.int .i64 (x.tot 4)) := hBt.out.cell 2
      have t3 : wr.cell? ⟨gt, 3, none⟩ = some (.int .i64 (x.tot 5)) := hBt.out.cell 3
      go_wp2
      (try simp only [Exit.inBlock, Exit.then])
      refine bodyPost_ret (by simp [results, Try.results8, asAddr, t0, t1, t2, t3, go_sem]; rfl) rfl ?_
      exact ⟨rfl, hb.out⟩
end Go.Proofs.Ythhjockofihohaa
