/- The reference's Refused and Total. -/
import Derived.Test.YthhjockofihohaaRefM
namespace Go.Proofs.Ythhjockofihohaa
open Go.RowKit
/-- A call that only looks: the answer, and nothing that was there has turned. -/
theorem refused_calls (w : World) (A : Option Addr) (y : Led) (hk : y.ROk) (c : Nat) (who part n : Int) :
    Calls Try.prog 40 #[.agg #[.int .i64 y.goods, .slice A y.n c], .int .i64 who, .int .i64 part, .int .i64 n] w fun e w' => e = .returned (.int .i64 (y.rerr who part n)) ∧ Below w.heap.size w w' := by
  have hg := hk.kinds
  have E : Hid (y.rerr who part n = if who < 0 ∨ y.n ≤ who then 60 else if part < 0 ∨ y.goods < part ∨ n < 1 ∨ 1099511627776 < n then 1 else 0) := Lib.hid rfl
  rw [E.out]
  clear E hk
  generalize y.n = m
  generalize y.goods = gd at hg ⊢
  have hb0 : Hid (Below w.heap.size w (w.alloc (.cells #[.int .i64 gd, .slice A m c] 44))) := Lib.hid ((Below.refl _ _).alloc (Nat.le_refl _) _)
  by_cases a1 : who < 0
  · have E2 : Hid ((if who < 0 ∨ (m : Int) ≤ who then (60 : Int) else if part < 0 ∨ gd < part ∨ n < 1 ∨ 1099511627776 < n then 1 else 0) = 60) := Lib.hid (if_pos (.inl a1))
    rw [E2.out]
    go_enter Try.func40, Try.ntmps40
    go_wp2
    go_ret
    exact ⟨rfl, hb0.out⟩
  · by_cases a2 : (m : Int) ≤ who
    · have E2 : Hid ((if who < 0 ∨ (m : Int) ≤ who then (60 : Int) else if part < 0 ∨ gd < part ∨ n < 1 ∨ 1099511627776 < n then 1 else 0) = 60) := Lib.hid (if_pos (.inr a2))
      rw [E2.out]
      go_enter Try.func40, Try.ntmps40
      go_wp2
      go_ret
      exact ⟨rfl, hb0.out⟩
    · have E1 : Hid ((if who < 0 ∨ (m : Int) ≤ who then (60 : Int) else if part < 0 ∨ gd < part ∨ n < 1 ∨ 1099511627776 < n then 1 else 0) = if part < 0 ∨ gd < part ∨ n < 1 ∨ 1099511627776 < n then 1 else 0) := Lib.hid (if_neg (by omega))
      rw [E1.out]
      have a1B : decide (who < 0) = false := by simpa using a1
      have a2B : decide ((m : Int) ≤ who) = false := by simpa using a2
      by_cases b1 : part < 0
      · rw [if_pos (.inl b1)]
        go_enter Try.func40, Try.ntmps40
        go_wp2
        go_ret
        exact ⟨rfl, hb0.out⟩
      · by_cases b2 : gd < part
        · rw [if_pos (.inr (.inl b2))]
          go_enter Try.func40, Try.ntmps40
          go_wp2
          go_ret
          exact ⟨rfl, hb0.out⟩
        · by_cases b3 : n < 1
          · rw [if_pos (.inr (.inr (.inl b3)))]
            go_enter Try.func40, Try.ntmps40
            go_wp2
            go_ret
            exact ⟨rfl, hb0.out⟩
          · by_cases b4 : 1099511627776 < n
            · rw [if_pos (.inr (.inr (.inr b4)))]
              go_enter Try.func40, Try.ntmps40
              go_wp2
              go_ret
              exact ⟨rfl, hb0.out⟩
            · rw [if_neg (by omega)]
              go_enter Try.func40, Try.ntmps40
              go_wp2
              go_ret
              exact ⟨rfl, hb0.out⟩
theorem rtot_pos {y : Led} (hk : y.ROk) {p : Nat} (hp : p < 5) : ∀ i, i < y.n → 0 ≤ y.z i p + y.z i (5 + p) := fun i hi => by
  have h1 := hk.num i p hi (by omega)
  have h2 := hk.num i (5 + p) hi (by omega)
  omega
set_option maxHeartbeats 1000000 in
theorem total_calls (w : World) (A : Option Addr) (y : Led) (h : RAt w A y) (hk : y.ROk) (c : Nat) {p : Nat} (hp : p < 5) (gd : Int) :
    Calls Try.prog 37 #[.agg #[.int .i64 gd, .slice A y.n c], .int .i64 (p : Int)] w fun e w' => e = .returned (.int .i64 (y.rtot p)) ∧ Below w.heap.size w w' := by
  have HK := Lib.hid hk
  have htot := hk.tot p hp
  have HPos := Lib.hid (rtot_pos hk hp)
  obtain ⟨b, o, rfl, hbl, hcell⟩ := h.num
  have HC := Lib.hid hcell
  have HBL := Lib.hid hbl
  clear h hcell hbl hk
  have p0 : (0 : Int) ≤ (p : Int) := by omega
  have p5 : (p : Int) < 5 := by omega
  have hF : Hid (∀ i, sumTo (fun i => y.z i p + y.z i (5 + p)) (i + 1) = sumTo (fun i => y.z i p + y.z i (5 + p)) i + (y.z i p + y.z i (5 + p))) := Lib.hid fun _ => rfl
  have hMono : Hid (∀ i, i ≤ y.n → 0 ≤ sumTo (fun i => y.z i p + y.z i (5 + p)) i ∧ sumTo (fun i => y.z i p + y.z i (5 + p)) i ≤ 1099511627776) := Lib.hid fun i hi => ⟨sumTo_pos fun j hj => HPos.out j (by omega), Int.le_trans (sumTo_mono HPos.out hi) htot⟩
  have hE : Hid (y.rtot p = sumTo (fun i => y.z i p + y.z i (5 + p)) y.n) := Lib.hid rfl
  have hNum : Hid (∀ i, i < y.n → 0 ≤ y.z i p ∧ y.z i p ≤ 1099511627776 ∧ 0 ≤ y.z i (5 + p) ∧ y.z i (5 + p) ≤ 1099511627776) := Lib.hid fun i hi => ⟨(HK.out.num i p hi (by omega)).1, (HK.out.num i p hi (by omega)).2, (HK.out.num i (5 + p) hi (by omega)).1, (HK.out.num i (5 + p) hi (by omega)).2⟩
  rw [hE.out]
  have hn16 := HK.out.len.2
  generalize hm : y.n = m at hMono hNum hn16 ⊢
  have HM := Lib.hid hm
  clear hm htot hE HPos
  go_enter Try.func37, Try.ntmps37
  go_upto_region 1 with (fail)
  have hb0 : Hid (Below w.heap.size w (w.alloc (.cells #[.int .i64 gd, .slice (some ⟨b, o, none⟩) m c] 44))) := Lib.hid ((Below.refl _ _).alloc (Nat.le_refl _) _)
  have B1 : Hid (Blk (w.alloc (.cells #[.int .i64 gd, .slice (some ⟨b, o, none⟩) m c] 44)) w.heap.size 44 #[.int .i64 gd, .slice (some ⟨b, o, none⟩) m c]) := Lib.hid (Blk.new _ _ _)
  obtain ⟨g1, hg1⟩ : ∃ g1, w.heap.size = g1 := ⟨_, rfl⟩
  rw [hg1] at B1 ⊢
  clear hg1
  generalize World.alloc w _ = wy at hb0 B1 ⊢
  go_wp2
  go_loopg [5, 6] (m + 1) (fun gk s5 s6 wr => ∃ i : Nat, gk = m + 1 - i ∧ i ≤ m ∧ s5 = .int .i64 (sumTo (fun i => y.z i p + y.z i (5 + p)) i) ∧ s6 = .int .i64 (i : Int) ∧ Hid (Below wy.heap.size wy wr))
  case atStart => exact ⟨0, rfl, Nat.zero_le _, rfl, rfl, Lib.hid (Below.refl _ _)⟩
  case round =>
    obtain ⟨i, rfl, hi, rfl, rfl, hb⟩ := hrel
    have i0 : (0 : Int) ≤ (i : Int) := by omega
    have x1 : wr.cell? ⟨g1, 1, none⟩ = some (.slice (some ⟨b, o, none⟩) m c) := (B1.out.below hb.out B1.out.lt).cell 1
    by_cases hlt : i < m
    · have hltI : (i : Int) < (m : Int) := by omega
      have hbw := Lib.hid (below_next hb0.out hb.out)
      have y1 : wr.cell? ⟨b, o + i * 12 + p, none⟩ = some (.int .i64 (y.z i p)) := (below_cell hbw.out HBL.out).trans (HC.out i p (by rw [HM.out]; exact hlt) (by omega))
      have y2 : wr.cell? ⟨b, o + i * 12 + 5 + p, none⟩ = some (.int .i64 (y.z i (5 + p))) := by
        have := (below_cell (o := o + i * 12 + (5 + p)) hbw.out HBL.out).trans (HC.out i (5 + p) (by rw [HM.out]; exact hlt) (by omega))
        rw [← Nat.add_assoc] at this
        exact this
      obtain ⟨m0, m1⟩ := hMono.out i (by omega)
      have m2 := (hMono.out (i + 1) (by omega)).2
      rw [hF.out] at m2
      have HE2 := Lib.hid (hF.out i)
      obtain ⟨n0, n1, n2, n3⟩ := hNum.out i hlt
      generalize sumTo (fun i => y.z i p + y.z i (5 + p)) i = s at m0 m1 m2 HE2 ⊢
      generalize y.z i p = v1 at y1 n0 n1 m2 HE2
      generalize y.z i (5 + p) = v2 at y2 n2 n3 m2 HE2
      have hw1 : IntKind.i64.wrap (s + v1) = s + v1 := by rw [IntKind.wrap_i64]; omega
      have hw2 : IntKind.i64.wrap (s + v1 + v2) = s + v1 + v2 := by rw [IntKind.wrap_i64]; omega
      go_upto_region 5 with (fail)
      go_quiet (fail)
      clear hw1 hw2
      go_wp2
      go_roundg (m + 1 - (i + 1))
      case measure => omega
      case rel => exact ⟨i + 1, rfl, by omega, by rw [HE2.out, Int.add_assoc], by go_num, Lib.hid (below_draw hb.out _)⟩
    · obtain rfl : i = m := by omega
      go_wp2
      go_ret
      exact ⟨rfl, below_next hb0.out hb.out⟩
end Go.Proofs.Ythhjockofihohaa
