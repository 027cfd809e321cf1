/- ahead: which of two orders of one side is filled first. -/
import Derived.Test.YtilbhnloelgpdaaOCross
import Derived.Test.YtilbhnloelgpdaaStb
namespace Go.Proofs.Ytilbhnloelgpdaa
open Go.RowKit
set_option linter.unusedVariables false
set_option linter.unusedSimpArgs false
def icmp (x y : Int) : Int := if x < y then -1 else if y < x then 1 else 0
def acmp (x y : Ord) : Int := if icmp x.price y.price = 0 then icmp x.place y.place else if x.buys = true then -(icmp x.price y.price) else icmp x.price y.price
/-- x is filled ahead of y (of side b). -/
def fst (b : Bool) (x y : Ord) : Bool := if x.price = y.price then decide (x.place < y.place) else if b = true then decide (y.price < x.price) else decide (x.price < y.price)
theorem fst_swo (b : Bool) : Swo (fst b) := by
  refine ⟨fun x => ?_, fun x y h => ?_, fun x y z h => ?_⟩ <;> cases b <;> simp only [fst] at * <;> grind
theorem acmp_fst (x y : Ord) : acmp x y < 0 ↔ fst x.buys x y = true := by
  unfold acmp fst icmp
  cases x.buys <;> grind
theorem icmp_range (x y : Int) : -1 ≤ icmp x y ∧ icmp x y ≤ 1 := by unfold icmp; split <;> (try split) <;> omega
set_option maxHeartbeats 2000000 in
theorem isnan_calls (w : World) (x : Int) : Calls Try.prog 73 #[.int .i64 x] w fun e w' => e = .returned (.bool false) ∧ w' = w := by
  have hx : (x != x) = false := by simp
  go_enter Try.func73, Try.ntmps73
  go_wp2
  refine bodyPost_ret (by simp [results, Try.results73, asAddr, go_sem]; rfl) rfl ?_
  exact ⟨rfl, rfl⟩
set_option maxHeartbeats 2000000 in
theorem compare_calls (w : World) (x y : Int) : Calls Try.prog 60 #[.int .i64 x, .int .i64 y] w fun e w' => e = .returned (.int .i64 (icmp x y)) ∧ w' = w := by
  have HX := Lib.hid (isnan_calls w x)
  have HY := Lib.hid (isnan_calls w y)
  obtain ⟨E, hE'⟩ : ∃ E, Hid (icmp x y = E) := ⟨_, Lib.hid rfl⟩
  rw [hE'.out]
  by_cases h1 : x < y
  · have hE : Hid (E = -1) := Lib.hid (by rw [← hE'.out]; unfold icmp; rw [if_pos h1])
    go_enter Try.func60, Try.ntmps60
    go_wp2_with (go_at_call 73; (first | (with_reducible refine HX.out.mono ?_) | (with_reducible refine HY.out.mono ?_)); rintro e w1 ⟨rfl, rfl⟩)
    refine bodyPost_ret (by simp [results, Try.results60, asAddr, go_sem]; rfl) rfl ?_
    exact ⟨by rw [hE.out], rfl⟩
  · by_cases h2 : y < x
    · have hE : Hid (E = 1) := Lib.hid (by rw [← hE'.out]; unfold icmp; rw [if_neg h1, if_pos h2])
      go_enter Try.func60, Try.ntmps60
      go_wp2_with (go_at_call 73; (first | (with_reducible refine HX.out.mono ?_) | (with_reducible refine HY.out.mono ?_)); rintro e w1 ⟨rfl, rfl⟩)
      refine bodyPost_ret (by simp [results, Try.results60, asAddr, go_sem]; rfl) rfl ?_
      exact ⟨by rw [hE.out], rfl⟩
    · have hE : Hid (E = 0) := Lib.hid (by rw [← hE'.out]; unfold icmp; rw [if_neg h1, if_neg h2])
      go_enter Try.func60, Try.ntmps60
      go_wp2_with (go_at_call 73; (first | (with_reducible refine HX.out.mono ?_) | (with_reducible refine HY.out.mono ?_)); rintro e w1 ⟨rfl, rfl⟩)
      refine bodyPost_ret (by simp [results, Try.results60, asAddr, go_sem]; rfl) rfl ?_
      exact ⟨by rw [hE.out], rfl⟩
set_option maxHeartbeats 2000000 in
theorem or_calls (w : World) (g : Nat) (x y : Int) (c0 : w.cell? ⟨g, 0, none⟩ = some (.int .i64 x)) (c1 : w.cell? ⟨g, 1, none⟩ = some (.int .i64 y)) : Calls Try.prog 61 #[.slice (some ⟨g, 0, none⟩) 2 2] w fun e w' => e = .returned (.int .i64 (if x = 0 then y else x)) ∧ w' = w := by
  by_cases h1 : x = 0
  · rw [if_pos h1]
    subst h1
    have h1 : ((0 : Int) != 0) = false := rfl
    by_cases h2 : y = 0
    · subst h2
      go_enter Try.func61, Try.ntmps61
      go_upto_region 3 with (fail)
      go_loopg [5, 8] 3 (fun gk s5 s8 wr => wr = w ∧ ∃ i : Nat, gk = 3 - i ∧ i ≤ 2 ∧ s8 = .int .i64 (i : Int))
      case atStart => exact ⟨rfl, 0, rfl, Nat.zero_le _, rfl⟩
      case round =>
        obtain ⟨rfl, i, rfl, hi, rfl⟩ := hrel
        have hcase : i = 0 ∨ i = 1 ∨ i = 2 := by omega
        rcases hcase with rfl | rfl | rfl
        · go_wp2
          go_roundg 2
          case measure => omega
          case rel => exact ⟨rfl, 1, rfl, by omega, by go_num⟩
        · go_wp2
          go_roundg 1
          case measure => omega
          case rel => exact ⟨rfl, 2, rfl, by omega, by go_num⟩
        · go_wp2
          refine bodyPost_ret (by simp [results, Try.results61, asAddr, go_sem]; rfl) rfl ?_
          exact ⟨rfl, rfl⟩
    · have h2 : (y != 0) = true := by simpa using h2
      go_enter Try.func61, Try.ntmps61
      go_upto_region 3 with (fail)
      go_loopg [5, 8] 3 (fun gk s5 s8 wr => wr = w ∧ ∃ i : Nat, gk = 3 - i ∧ i ≤ 1 ∧ s8 = .int .i64 (i : Int))
      case atStart => exact ⟨rfl, 0, rfl, Nat.zero_le _, rfl⟩
      case round =>
        obtain ⟨rfl, i, rfl, hi, rfl⟩ := hrel
        have hcase : i = 0 ∨ i = 1 := by omega
        rcases hcase with rfl | rfl
        · go_wp2
          go_roundg 2
          case measure => omega
          case rel => exact ⟨rfl, 1, rfl, by omega, by go_num⟩
        · go_wp2
          refine bodyPost_ret (by simp [results, Try.results61, asAddr, go_sem]; rfl) rfl ?_
          exact ⟨rfl, rfl⟩
  · rw [if_neg h1]
    have h1 : (x != 0) = true := by simpa using h1
    go_enter Try.func61, Try.ntmps61
    go_upto_region 3 with (fail)
    go_loopg [5, 8] 3 (fun gk s5 s8 wr => wr = w ∧ gk = 3 ∧ s8 = .int .i64 0)
    case atStart => exact ⟨rfl, rfl, rfl⟩
    case round =>
      obtain ⟨rfl, rfl, rfl⟩ := hrel
      go_wp2
      refine bodyPost_ret (by simp [results, Try.results61, asAddr, go_sem]; rfl) rfl ?_
      exact ⟨rfl, rfl⟩
set_option maxHeartbeats 2000000 in
theorem ahead_calls (w : World) (x y : Ord) : Calls Try.prog 39 #[oval x, oval y] w (Told w (.int .i64 (acmp x y))) := by
  obtain ⟨xi, xo, xp, xa, xpl, xb⟩ := x
  obtain ⟨yi, yo, yp, ya, ypl, yb⟩ := y
  obtain ⟨E, hE⟩ : ∃ E, Hid (acmp ⟨xi, xo, xp, xa, xpl, xb⟩ ⟨yi, yo, yp, ya, ypl, yb⟩ = E) := ⟨_, Lib.hid rfl⟩
  rw [hE.out]
  have hE2 := hE.out
  unfold acmp at hE2
  simp only at hE2
  have hr := icmp_range xp yp
  have HP := Lib.hid (fun wx => compare_calls wx xp yp)
  have HQ := Lib.hid (fun wx => compare_calls wx xpl ypl)
  have HO := Lib.hid (fun wx g a b c0 c1 => or_calls wx g a b c0 c1)
  generalize icmp xp yp = P at hE2 hr HP
  generalize icmp xpl ypl = Q at hE2 HQ
  have qN : IntKind.i64.wrap (-P) = -P := by rw [IntKind.wrap_i64]; omega
  unfold oval
  simp only
  have hb0 : Hid (Below w.heap.size w ((w.alloc (.cells #[.int .i64 xi, .int .i64 xo, .int .i64 xp, .int .i64 xa, .int .i64 xpl, .bool xb] 33)).alloc (.cells #[.int .i64 yi, .int .i64 yo, .int .i64 yp, .int .i64 ya, .int .i64 ypl, .bool yb] 33))) := Lib.hid (((Below.refl _ _).alloc (Nat.le_refl _) _).alloc (by simp) _)
  have BX := Lib.hid ((Blk.new w 33 #[.int .i64 xi, .int .i64 xo, .int .i64 xp, .int .i64 xa, .int .i64 xpl, .bool xb]).alloc (.cells #[.int .i64 yi, .int .i64 yo, .int .i64 yp, .int .i64 ya, .int .i64 ypl, .bool yb] 33))
  have BY : Hid (Blk ((w.alloc (.cells #[.int .i64 xi, .int .i64 xo, .int .i64 xp, .int .i64 xa, .int .i64 xpl, .bool xb] 33)).alloc (.cells #[.int .i64 yi, .int .i64 yo, .int .i64 yp, .int .i64 ya, .int .i64 ypl, .bool yb] 33)) (w.heap.size + 1) 33 #[.int .i64 yi, .int .i64 yo, .int .i64 yp, .int .i64 ya, .int .i64 ypl, .bool yb]) := Lib.hid (by
    have h := Blk.new (w.alloc (.cells #[.int .i64 xi, .int .i64 xo, .int .i64 xp, .int .i64 xa, .int .i64 xpl, .bool xb] 33)) 33 #[.int .i64 yi, .int .i64 yo, .int .i64 yp, .int .i64 ya, .int .i64 ypl, .bool yb]
    rw [show (w.alloc (.cells #[.int .i64 xi, .int .i64 xo, .int .i64 xp, .int .i64 xa, .int .i64 xpl, .bool xb] 33)).heap.size = w.heap.size + 1 from by simp] at h
    exact h)
  cases xb with
  | true =>
    have hE3 : Hid ((if -P = 0 then Q else -P) = E) := Lib.hid (by rw [← hE2]; by_cases h0 : P = 0 <;> simp [h0])
    clear hE2
    go_enter Try.func39, Try.ntmps39
    go_upto_region 1 with (fail)
    obtain ⟨g, hg⟩ : ∃ g, w.heap.size = g := ⟨_, rfl⟩
    rw [hg] at BX BY ⊢
    clear hg
    generalize World.alloc (World.alloc w _) _ = wy at hb0 BX BY ⊢
    obtain ⟨e2, e4, e5⟩ : wy.cell? ⟨g, 2, none⟩ = some (.int .i64 xp) ∧ wy.cell? ⟨g, 4, none⟩ = some (.int .i64 xpl) ∧ wy.cell? ⟨g, 5, none⟩ = some (.bool true) := ⟨BX.out.cell 2, BX.out.cell 4, BX.out.cell 5⟩
    obtain ⟨k2, k4⟩ : wy.cell? ⟨g + 1, 2, none⟩ = some (.int .i64 yp) ∧ wy.cell? ⟨g + 1, 4, none⟩ = some (.int .i64 ypl) := ⟨BY.out.cell 2, BY.out.cell 4⟩
    go_upto_region 2 with (go_at_call 60; (with_reducible refine (HP.out _).mono ?_); rintro e w1 ⟨rfl, hw⟩; subst w1)
    go_upto_region 4 with (fail)
    have hbS : Hid (Below w.heap.size w (wy.alloc (.cells #[.int .i64 (-P), .int .i64 Q] 3))) := Lib.hid (hb0.out.alloc hb0.out.size _)
    have BS := Lib.hid (Blk.new wy 3 #[.int .i64 (-P), .int .i64 Q])
    have HO2 := Lib.hid (HO.out _ _ (-P) Q (BS.out.cell 0) (BS.out.cell 1))
    rw [hE3.out] at HO2
    go_wp2_with (first | (go_at_call 60; (with_reducible refine (HQ.out _).mono ?_); rintro e w1 ⟨rfl, hw⟩; subst w1) | (go_at_call 61; refine HO2.out.mono ?_; rintro e w1 ⟨rfl, hw⟩; subst w1))
    refine bodyPost_ret (by simp [results, Try.results39, asAddr, go_sem]; rfl) rfl ?_
    exact ⟨rfl, hbS.out⟩
  | false =>
    have hE3 : Hid ((if P = 0 then Q else P) = E) := Lib.hid (by rw [← hE2]; by_cases h0 : P = 0 <;> simp [h0])
    clear hE2
    go_enter Try.func39, Try.ntmps39
    go_upto_region 1 with (fail)
    obtain ⟨g, hg⟩ : ∃ g, w.heap.size = g := ⟨_, rfl⟩
    rw [hg] at BX BY ⊢
    clear hg
    generalize World.alloc (World.alloc w _) _ = wy at hb0 BX BY ⊢
    obtain ⟨e2, e4, e5⟩ : wy.cell? ⟨g, 2, none⟩ = some (.int .i64 xp) ∧ wy.cell? ⟨g, 4, none⟩ = some (.int .i64 xpl) ∧ wy.cell? ⟨g, 5, none⟩ = some (.bool false) := ⟨BX.out.cell 2, BX.out.cell 4, BX.out.cell 5⟩
    obtain ⟨k2, k4⟩ : wy.cell? ⟨g + 1, 2, none⟩ = some (.int .i64 yp) ∧ wy.cell? ⟨g + 1, 4, none⟩ = some (.int .i64 ypl) := ⟨BY.out.cell 2, BY.out.cell 4⟩
    go_upto_region 2 with (go_at_call 60; (with_reducible refine (HP.out _).mono ?_); rintro e w1 ⟨rfl, hw⟩; subst w1)
    go_upto_region 4 with (fail)
    have hbS : Hid (Below w.heap.size w (wy.alloc (.cells #[.int .i64 P, .int .i64 Q] 3))) := Lib.hid (hb0.out.alloc hb0.out.size _)
    have BS := Lib.hid (Blk.new wy 3 #[.int .i64 P, .int .i64 Q])
    have HO2 := Lib.hid (HO.out _ _ P Q (BS.out.cell 0) (BS.out.cell 1))
    rw [hE3.out] at HO2
    go_wp2_with (first | (go_at_call 60; (with_reducible refine (HQ.out _).mono ?_); rintro e w1 ⟨rfl, hw⟩; subst w1) | (go_at_call 61; refine HO2.out.mono ?_; rintro e w1 ⟨rfl, hw⟩; subst w1))
    refine bodyPost_ret (by simp [results, Try.results39, asAddr, go_sem]; rfl) rfl ?_
    exact ⟨rfl, hbS.out⟩
end Go.Proofs.Ytilbhnloelgpdaa
