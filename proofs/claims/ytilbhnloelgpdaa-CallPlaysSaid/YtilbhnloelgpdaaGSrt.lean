/- ahead: which of two orders of one side is filled first. Orders in a row of one's own that are swapped; swapRangeCmpFunc. rotateCmpFunc: two parts of a row of one's own change places. insertionSortCmpFunc: a part of a row of one's own is sorted, stably. Merging two sorted lists, in plain: what the binary searches find. -/
import Derived.Test.YtilbhnloelgpdaaGOrd
import Derived.BigRegion
namespace Go.Proofs.Ytilbhnloelgpdaa
open Go.RowKit
set_option linter.unusedVariables false
set_option linter.unusedSimpArgs false
def icmp (x y : Int) : Int := if x < y then -1 else if y < x then 1 else 0
def acmp (x y : Ord) : Int := if icmp x.price y.price = 0 then icmp x.place y.place else if x.buys = true then -(icmp x.price y.price) else icmp x.price y.price
/-- x is filled ahead of y (of side b). -/
def fst (b : Bool) (x y : Ord) : Bool := if x.price = y.price then decide (x.place < y.place) else if b = true then decide (y.price < x.price) else decide (x.price < y.price)
theorem fst_swo (b : Bool) : Swo (fst b) := by
  refine ⟨fun x => ?_, fun x y h => ?_, fun x y z h => ?_⟩ <;> cases b <;> simp only [fst] at * <;> grind
theorem acmp_fst (x y : Ord) : acmp x y < 0 ↔ fst x.buys x y = true := by
  unfold acmp fst icmp
  cases x.buys <;> grind
theorem icmp_range (x y : Int) : -1 ≤ icmp x y ∧ icmp x y ≤ 1 := by unfold icmp; split <;> (try split) <;> omega
set_option maxHeartbeats 2000000 in
theorem isnan_calls (w : World) (x : Int) : Calls Try.prog 73 #[.int .i64 x] w fun e w' => e = .returned (.bool false) ∧ w' = w := by
  have hx : (x != x) = false := by simp
  go_enter Try.func73, Try.ntmps73
  go_wp2
  refine bodyPost_ret (by simp [results, Try.results73, asAddr, go_sem]; rfl) rfl ?_
  exact ⟨rfl, rfl⟩
set_option maxHeartbeats 2000000 in
theorem compare_calls (w : World) (x y : Int) : Calls Try.prog 60 #[.int .i64 x, .int .i64 y] w fun e w' => e = .returned (.int .i64 (icmp x y)) ∧ w' = w := by
  have HX := Lib.hid (isnan_calls w x)
  have HY := Lib.hid (isnan_calls w y)
  obtain ⟨E, hE'⟩ : ∃ E, Hid (icmp x y = E) := ⟨_, Lib.hid rfl⟩
  rw [hE'.out]
  by_cases h1 : x < y
  · have hE : Hid (E = -1) := Lib.hid (by rw [← hE'.out]; unfold icmp; rw [if_pos h1])
    go_enter Try.func60, Try.ntmps60
    go_wp2_with (go_at_call 73; (first | (with_reducible refine HX.out.mono ?_) | (with_reducible refine HY.out.mono ?_)); rintro e w1 ⟨rfl, rfl⟩)
    refine bodyPost_ret (by simp [results, Try.results60, asAddr, go_sem]; rfl) rfl ?_
    exact ⟨by rw [hE.out], rfl⟩
  · by_cases h2 : y < x
    · have hE : Hid (E = 1) := Lib.hid (by rw [← hE'.out]; unfold icmp; rw [if_neg h1, if_pos h2])
      go_enter Try.func60, Try.ntmps60
      go_wp2_with (go_at_call 73; (first | (with_reducible refine HX.out.mono ?_) | (with_reducible refine HY.out.mono ?_)); rintro e w1 ⟨rfl, rfl⟩)
      refine bodyPost_ret (by simp [results, Try.results60, asAddr, go_sem]; rfl) rfl ?_
      exact ⟨by rw [hE.out], rfl⟩
    · have hE : Hid (E = 0) := Lib.hid (by rw [← hE'.out]; unfold icmp; rw [if_neg h1, if_neg h2])
      go_enter Try.func60, Try.ntmps60
      go_wp2_with (go_at_call 73; (first | (with_reducible refine HX.out.mono ?_) | (with_reducible refine HY.out.mono ?_)); rintro e w1 ⟨rfl, rfl⟩)
      refine bodyPost_ret (by simp [results, Try.results60, asAddr, go_sem]; rfl) rfl ?_
      exact ⟨by rw [hE.out], rfl⟩
set_option maxHeartbeats 2000000 in
theorem or_calls (w : World) (g : Nat) (x y : Int) (c0 : w.cell? ⟨g, 0, none⟩ = some (.int .i64 x)) (c1 : w.cell? ⟨g, 1, none⟩ = some (.int .i64 y)) : Calls Try.prog 61 #[.slice (some ⟨g, 0, none⟩) 2 2] w fun e w' => e = .returned (.int .i64 (if x = 0 then y else x)) ∧ w' = w := by
  by_cases h1 : x = 0
  · rw [if_pos h1]
    subst h1
    have h1 : ((0 : Int) != 0) = false := rfl
    by_cases h2 : y = 0
    · subst h2
      go_enter Try.func61, Try.ntmps61
      go_upto_region 3 with (fail)
      go_loopg [5, 8] 3 (fun gk s5 s8 wr => wr = w ∧ ∃ i : Nat, gk = 3 - i ∧ i ≤ 2 ∧ s8 = .int .i64 (i : Int))
      case atStart => exact ⟨rfl, 0, rfl, Nat.zero_le _, rfl⟩
      case round =>
        obtain ⟨rfl, i, rfl, hi, rfl⟩ := hrel
        have hcase : i = 0 ∨ i = 1 ∨ i = 2 := by omega
        rcases hcase with rfl | rfl | rfl
        · go_wp2
          go_roundg 2
          case measure => omega
          case rel => exact ⟨rfl, 1, rfl, by omega, by go_num⟩
        · go_wp2
          go_roundg 1
          case measure => omega
          case rel => exact ⟨rfl, 2, rfl, by omega, by go_num⟩
        · go_wp2
          refine bodyPost_ret (by simp [results, Try.results61, asAddr, go_sem]; rfl) rfl ?_
          exact ⟨rfl, rfl⟩
    · have h2 : (y != 0) = true := by simpa using h2
      go_enter Try.func61, Try.ntmps61
      go_upto_region 3 with (fail)
      go_loopg [5, 8] 3 (fun gk s5 s8 wr => wr = w ∧ ∃ i : Nat, gk = 3 - i ∧ i ≤ 1 ∧ s8 = .int .i64 (i : Int))
      case atStart => exact ⟨rfl, 0, rfl, Nat.zero_le _, rfl⟩
      case round =>
        obtain ⟨rfl, i, rfl, hi, rfl⟩ := hrel
        have hcase : i = 0 ∨ i = 1 := by omega
        rcases hcase with rfl | rfl
        · go_wp2
          go_roundg 2
          case measure => omega
          case rel => exact ⟨rfl, 1, rfl, by omega, by go_num⟩
        · go_wp2
          refine bodyPost_ret (by simp [results, Try.results61, asAddr, go_sem]; rfl) rfl ?_
          exact ⟨rfl, rfl⟩
  · rw [if_neg h1]
    have h1 : (x != 0) = true := by simpa using h1
    go_enter Try.func61, Try.ntmps61
    go_upto_region 3 with (fail)
    go_loopg [5, 8] 3 (fun gk s5 s8 wr => wr = w ∧ gk = 3 ∧ s8 = .int .i64 0)
    case atStart => exact ⟨rfl, rfl, rfl⟩
    case round =>
      obtain ⟨rfl, rfl, rfl⟩ := hrel
      go_wp2
      refine bodyPost_ret (by simp [results, Try.results61, asAddr, go_sem]; rfl) rfl ?_
      exact ⟨rfl, rfl⟩
set_option maxHeartbeats 2000000 in
theorem ahead_calls (w : World) (x y : Ord) : Calls Try.prog 39 #[oval x, oval y] w (Told w (.int .i64 (acmp x y))) := by
  obtain ⟨xi, xo, xp, xa, xpl, xb⟩ := x
  obtain ⟨yi, yo, yp, ya, ypl, yb⟩ := y
  obtain ⟨E, hE⟩ : ∃ E, Hid (acmp ⟨xi, xo, xp, xa, xpl, xb⟩ ⟨yi, yo, yp, ya, ypl, yb⟩ = E) := ⟨_, Lib.hid rfl⟩
  rw [hE.out]
  have hE2 := hE.out
  unfold acmp at hE2
  simp only at hE2
  have hr := icmp_range xp yp
  have HP := Lib.hid (fun wx => compare_calls wx xp yp)
  have HQ := Lib.hid (fun wx => compare_calls wx xpl ypl)
  have HO := Lib.hid (fun wx g a b c0 c1 => or_calls wx g a b c0 c1)
  generalize icmp xp yp = P at hE2 hr HP
  generalize icmp xpl ypl = Q at hE2 HQ
  have qN : IntKind.i64.wrap (-P) = -P := by rw [IntKind.wrap_i64]; omega
  unfold oval
  simp only
  have hb0 : Hid (Below w.heap.size w ((w.alloc (.cells #[.int .i64 xi, .int .i64 xo, .int .i64 xp, .int .i64 xa, .int .i64 xpl, .bool xb] 33)).alloc (.cells #[.int .i64 yi, .int .i64 yo, .int .i64 yp, .int .i64 ya, .int .i64 ypl, .bool yb] 33))) := Lib.hid (((Below.refl _ _).alloc (Nat.le_refl _) _).alloc (by simp) _)
  have BX := Lib.hid ((Blk.new w 33 #[.int .i64 xi, .int .i64 xo, .int .i64 xp, .int .i64 xa, .int .i64 xpl, .bool xb]).alloc (.cells #[.int .i64 yi, .int .i64 yo, .int .i64 yp, .int .i64 ya, .int .i64 ypl, .bool yb] 33))
  have BY : Hid (Blk ((w.alloc (.cells #[.int .i64 xi, .int .i64 xo, .int .i64 xp, .int .i64 xa, .int .i64 xpl, .bool xb] 33)).alloc (.cells #[.int .i64 yi, .int .i64 yo, .int .i64 yp, .int .i64 ya, .int .i64 ypl, .bool yb] 33)) (w.heap.size + 1) 33 #[.int .i64 yi, .int .i64 yo, .int .i64 yp, .int .i64 ya, .int .i64 ypl, .bool yb]) := Lib.hid (by
    have h := Blk.new (w.alloc (.cells #[.int .i64 xi, .int .i64 xo, .int .i64 xp, .int .i64 xa, .int .i64 xpl, .bool xb] 33)) 33 #[.int .i64 yi, .int .i64 yo, .int .i64 yp, .int .i64 ya, .int .i64 ypl, .bool yb]
    rw [show (w.alloc (.cells #[.int .i64 xi, .int .i64 xo, .int .i64 xp, .int .i64 xa, .int .i64 xpl, .bool xb] 33)).heap.size = w.heap.size + 1 from by simp] at h
    exact h)
  cases xb with
  | true =>
    have hE3 : Hid ((if -P = 0 then Q else -P) = E) := Lib.hid (by rw [← hE2]; by_cases h0 : P = 0 <;> simp [h0])
    clear hE2
    go_enter Try.func39, Try.ntmps39
    go_upto_region 1 with (fail)
    obtain ⟨g, hg⟩ : ∃ g, w.heap.size = g := ⟨_, rfl⟩
    rw [hg] at BX BY ⊢
    clear hg
    generalize World.alloc (World.alloc w _) _ = wy at hb0 BX BY ⊢
    obtain ⟨e2, e4, e5⟩ : wy.cell? ⟨g, 2, none⟩ = some (.int .i64 xp) ∧ wy.cell? ⟨g, 4, none⟩ = some (.int .i64 xpl) ∧ wy.cell? ⟨g, 5, none⟩ = some (.bool true) := ⟨BX.out.cell 2, BX.out.cell 4, BX.out.cell 5⟩
    obtain ⟨k2, k4⟩ : wy.cell? ⟨g + 1, 2, none⟩ = some (.int .i64 yp) ∧ wy.cell? ⟨g + 1, 4, none⟩ = some (.int .i64 ypl) := ⟨BY.out.cell 2, BY.out.cell 4⟩
    go_upto_region 2 with (go_at_call 60; (with_reducible refine (HP.out _).mono ?_); rintro e w1 ⟨rfl, hw⟩; subst w1)
    go_upto_region 4 with (fail)
    have hbS : Hid (Below w.heap.size w (wy.alloc (.cells #[.int .i64 (-P), .int .i64 Q] 3))) := Lib.hid (hb0.out.alloc hb0.out.size _)
    have BS := Lib.hid (Blk.new wy 3 #[.int .i64 (-P), .int .i64 Q])
    have HO2 := Lib.hid (HO.out _ _ (-P) Q (BS.out.cell 0) (BS.out.cell 1))
    rw [hE3.out] at HO2
    go_wp2_with (first | (go_at_call 60; (with_reducible refine (HQ.out _).mono ?_); rintro e w1 ⟨rfl, hw⟩; subst w1) | (go_at_call 61; refine HO2.out.mono ?_; rintro e w1 ⟨rfl, hw⟩; subst w1))
    refine bodyPost_ret (by simp [results, Try.results39, asAddr, go_sem]; rfl) rfl ?_
    exact ⟨rfl, hbS.out⟩
  | false =>
    have hE3 : Hid ((if P = 0 then Q else P) = E) := Lib.hid (by rw [← hE2]; by_cases h0 : P = 0 <;> simp [h0])
    clear hE2
    go_enter Try.func39, Try.ntmps39
    go_upto_region 1 with (fail)
    obtain ⟨g, hg⟩ : ∃ g, w.heap.size = g := ⟨_, rfl⟩
    rw [hg] at BX BY ⊢
    clear hg
    generalize World.alloc (World.alloc w _) _ = wy at hb0 BX BY ⊢
    obtain ⟨e2, e4, e5⟩ : wy.cell? ⟨g, 2, none⟩ = some (.int .i64 xp) ∧ wy.cell? ⟨g, 4, none⟩ = some (.int .i64 xpl) ∧ wy.cell? ⟨g, 5, none⟩ = some (.bool false) := ⟨BX.out.cell 2, BX.out.cell 4, BX.out.cell 5⟩
    obtain ⟨k2, k4⟩ : wy.cell? ⟨g + 1, 2, none⟩ = some (.int .i64 yp) ∧ wy.cell? ⟨g + 1, 4, none⟩ = some (.int .i64 ypl) := ⟨BY.out.cell 2, BY.out.cell 4⟩
    go_upto_region 2 with (go_at_call 60; (with_reducible refine (HP.out _).mono ?_); rintro e w1 ⟨rfl, hw⟩; subst w1)
    go_upto_region 4 with (fail)
    have hbS : Hid (Below w.heap.size w (wy.alloc (.cells #[.int .i64 P, .int .i64 Q] 3))) := Lib.hid (hb0.out.alloc hb0.out.size _)
    have BS := Lib.hid (Blk.new wy 3 #[.int .i64 P, .int .i64 Q])
    have HO2 := Lib.hid (HO.out _ _ P Q (BS.out.cell 0) (BS.out.cell 1))
    rw [hE3.out] at HO2
    go_wp2_with (first | (go_at_call 60; (with_reducible refine (HQ.out _).mono ?_); rintro e w1 ⟨rfl, hw⟩; subst w1) | (go_at_call 61; refine HO2.out.mono ?_; rintro e w1 ⟨rfl, hw⟩; subst w1))
    refine bodyPost_ret (by simp [results, Try.results39, asAddr, go_sem]; rfl) rfl ?_
    exact ⟨rfl, hbS.out⟩
end Go.Proofs.Ytilbhnloelgpdaa
namespace Go.Proofs.Ytilbhnloelgpdaa
open Go.RowKit
set_option linter.unusedVariables false
set_option linter.unusedSimpArgs false
/-- The orders F in a row made behind w0. -/
structure Sw (w0 w : World) (A : Option Addr) (m c : Nat) (F : List Ord) : Prop where
  row : Mine w0 w 6 (.slice A m c) m (ocells F)
  len : F.length = m
  all : Below w0.heap.size w0 w
theorem Sw.below {w0 w w' : World} {A : Option Addr} {m c : Nat} {F : List Ord} (h : Sw w0 w A m c F) (hb : Below w.heap.size w w') : Sw w0 w' A m c F := ⟨h.row.below hb, h.len, h.all.trans (hb.mono h.all.size)⟩
theorem Sw.lies {w0 w : World} {A : Option Addr} {m c : Nat} {F : List Ord} (h : Sw w0 w A m c F) (hm : 0 < m) : ∃ b o, A = some ⟨b, o, none⟩ := by
  obtain ⟨b, o, e, _⟩ := (h.row.orow h.len).2.some (by rw [h.len]; exact hm)
  exact ⟨b, o, e⟩
theorem Sw.six {w0 w : World} {b o m c : Nat} {F : List Ord} (h : Sw w0 w (some ⟨b, o, none⟩) m c F) {x : Nat} (hx : x < m) :
    w.cell? ⟨b, o + x * 6, none⟩ = some (.int .i64 (F.getD x ord0).id) ∧ w.cell? ⟨b, o + x * 6 + 1, none⟩ = some (.int .i64 (F.getD x ord0).owner) ∧ w.cell? ⟨b, o + x * 6 + 2, none⟩ = some (.int .i64 (F.getD x ord0).price) ∧
    w.cell? ⟨b, o + x * 6 + 3, none⟩ = some (.int .i64 (F.getD x ord0).amount) ∧ w.cell? ⟨b, o + x * 6 + 4, none⟩ = some (.int .i64 (F.getD x ord0).place) ∧ w.cell? ⟨b, o + x * 6 + 5, none⟩ = some (.bool (F.getD x ord0).buys) :=
  ORow.six (h.row.orow h.len).2 (by rw [h.len]; exact hx) (Below.refl _ _)
theorem Sw.put {w0 w : World} {b o m c : Nat} {F : List Ord} (h : Sw w0 w (some ⟨b, o, none⟩) m c F) {x : Nat} (hx : x < m) (q : Ord) :
    w.there b (o + x * 6) 6 ∧ Sw w0 (w.setCells b (o + x * 6) (ocell q)) (some ⟨b, o, none⟩) m c (F.set x q) := by
  obtain ⟨g, off, e, hg, hce, hM⟩ := h.row.over (p := x * 6) (vs := ocell q) (by rw [ocell_length]; omega) (by rw [ocell_length]; omega)
  cases e
  refine ⟨fun j hj => ?_, ?_, by rw [List.length_set]; exact h.len, ?_⟩
  · have := hce j (by rw [ocell_length]; exact hj)
    exact this
  · rw [over_ocells F (by rw [h.len]; exact hx)] at hM
    exact hM
  · exact (Only.of_below (S := fun k => k = b) h.all).trans (only_setCells _ _ _ _) (fun k hk => .inl hk) |>.below (Nat.le_refl _) fun k hk => hk ▸ hg
theorem Sw.swap {w0 w : World} {b o m c : Nat} {F : List Ord} (h : Sw w0 w (some ⟨b, o, none⟩) m c F) {x y : Nat} (hx : x < m) (hy : y < m) (p q : Ord) :
    Sw w0 ((w.setCells b (o + x * 6) (ocell p)).setCells b (o + y * 6) (ocell q)) (some ⟨b, o, none⟩) m c ((F.set x p).set y q) := ((h.put hx p).2.put hy q).2
/-- F with what stands from x on and what stands from y on changed, i of each. -/
def swaps (F : List Ord) (x y : Nat) : Nat → List Ord
  | 0 => F
  | i + 1 => ((swaps F x y i).set (x + i) ((swaps F x y i).getD (y + i) ord0)).set (y + i) ((swaps F x y i).getD (x + i) ord0)
set_option maxHeartbeats 4000000 in
theorem swapr_calls (w0 w : World) (A : Option Addr) (m c : Nat) (F : List Ord) (h : Sw w0 w A m c F) (hm : m ≤ 64) (x0 y0 n : Nat) (hxy : x0 + n ≤ y0) (hyn : y0 + n ≤ m) (fv : Value) :
    Calls Try.prog 75 #[.slice A m c, .int .i64 (x0 : Int), .int .i64 (y0 : Int), .int .i64 (n : Int), fv] w fun e w' => e = .returned (.tuple #[]) ∧ Sw w0 w' A m c (swaps F x0 y0 n) := by
  have H := Lib.hid h
  clear h
  go_enter Try.func75, Try.ntmps75
  go_upto_region 1 with (fail)
  go_loopg [10] (n + 1) (fun gk s10 wr => ∃ i : Nat, gk = n + 1 - i ∧ i ≤ n ∧ s10 = .int .i64 (i : Int) ∧ Hid (Sw w0 wr A m c (swaps F x0 y0 i)))
  case atStart => exact ⟨0, rfl, Nat.zero_le _, rfl, H⟩
  case round =>
    obtain ⟨i, rfl, hi, rfl, HW⟩ := hrel
    by_cases hlt : i < n
    · have hltI : (i : Int) < (n : Int) := by omega
      obtain ⟨b, o, rfl⟩ := HW.out.lies (by omega)
      obtain ⟨x, hxe⟩ : ∃ x, Hid (x0 + i = x) := ⟨_, Lib.hid rfl⟩
      obtain ⟨y, hye⟩ : ∃ y, Hid (y0 + i = y) := ⟨_, Lib.hid rfl⟩
      have hx : x < m := by have := hxe.out; omega
      have hy : y < m := by have := hye.out; omega
      have hne : x < y := by have := hxe.out; have := hye.out; omega
      have qx : IntKind.i64.wrap ((x0 : Int) + (i : Int)) = (x : Int) := by rw [IntKind.wrap_i64]; have := hxe.out; omega
      have qy : IntKind.i64.wrap ((y0 : Int) + (i : Int)) = (y : Int) := by rw [IntKind.wrap_i64]; have := hye.out; omega
      have x1 : (0 : Int) ≤ (x : Int) := by omega
      have x2 : (x : Int) < (m : Int) := by omega
      have y1 : (0 : Int) ≤ (y : Int) := by omega
      have y2 : (y : Int) < (m : Int) := by omega
      have HN : Hid (swaps F x0 y0 (i + 1) = ((swaps F x0 y0 i).set x ((swaps F x0 y0 i).getD y ord0)).set y ((swaps F x0 y0 i).getD x ord0)) := Lib.hid (by rw [← hxe.out, ← hye.out]; rfl)
      generalize swaps F x0 y0 i = G at HW HN
      have HM := Lib.hid (show n + 1 - (i + 1) < n + 1 - i by omega)
      have HZ := Lib.hid fun p q => HW.out.swap hx hy p q
      obtain ⟨c0, c1, c2, c3, c4, c5⟩ := HW.out.six hx
      obtain ⟨d0, d1, d2, d3, d4, d5⟩ := HW.out.six hy
      obtain ⟨t1, _⟩ := HW.out.put hx ord0
      obtain ⟨t2, _⟩ := HW.out.put hy ord0
      obtain ⟨f0, f1, f2, f3, f4, f5⟩ : (wr.frozen? ⟨b, o + x * 6, none⟩ = false ∧ wr.frozen? ⟨b, o + x * 6 + 1, none⟩ = false ∧ wr.frozen? ⟨b, o + x * 6 + 2, none⟩ = false ∧ wr.frozen? ⟨b, o + x * 6 + 3, none⟩ = false ∧ wr.frozen? ⟨b, o + x * 6 + 4, none⟩ = false ∧ wr.frozen? ⟨b, o + x * 6 + 5, none⟩ = false) := ⟨(t1 0 (by decide)).2, (t1 1 (by decide)).2, (t1 2 (by decide)).2, (t1 3 (by decide)).2, (t1 4 (by decide)).2, (t1 5 (by decide)).2⟩
      obtain ⟨g0, g1, g2, g3, g4, g5⟩ : (wr.frozen? ⟨b, o + y * 6, none⟩ = false ∧ wr.frozen? ⟨b, o + y * 6 + 1, none⟩ = false ∧ wr.frozen? ⟨b, o + y * 6 + 2, none⟩ = false ∧ wr.frozen? ⟨b, o + y * 6 + 3, none⟩ = false ∧ wr.frozen? ⟨b, o + y * 6 + 4, none⟩ = false ∧ wr.frozen? ⟨b, o + y * 6 + 5, none⟩ = false) := ⟨(t2 0 (by decide)).2, (t2 1 (by decide)).2, (t2 2 (by decide)).2, (t2 3 (by decide)).2, (t2 4 (by decide)).2, (t2 5 (by decide)).2⟩
      clear t1 t2
      generalize G.getD x ord0 = p at c0 c1 c2 c3 c4 c5 HN
      generalize G.getD y ord0 = q at d0 d1 d2 d3 d4 d5 HN
      obtain ⟨pi, po, pp, pa, ppl, pb⟩ := p
      obtain ⟨qi, qo, qp, qa, qpl, qb⟩ := q
      simp only at c0 c1 c2 c3 c4 c5 d0 d1 d2 d3 d4 d5
      go_upto_region 3 with (fail)
      go_region
      go_wp2
      go_roundg (n + 1 - (i + 1))
      case measure => exact HM.out
      case rel => exact ⟨i + 1, rfl, by omega, by go_num, Lib.hid (by rw [HN.out]; exact (HZ.out ⟨qi, qo, qp, qa, qpl, qb⟩ ⟨pi, po, pp, pa, ppl, pb⟩).below (Below.refl _ _).drew)⟩
    · obtain rfl : n = i := by omega
      go_wp2
      go_end0
      exact ⟨rfl, HW.out⟩
end Go.Proofs.Ytilbhnloelgpdaa
namespace Go.Proofs.Ytilbhnloelgpdaa
open Go.RowKit
set_option linter.unusedVariables false
set_option linter.unusedSimpArgs false
theorem swaps_length (F : List Ord) (x y : Nat) : ∀ n, (swaps F x y n).length = F.length
  | 0 => rfl
  | n + 1 => by unfold swaps; rw [List.length_set, List.length_set, swaps_length F x y n]
theorem swaps_get (F : List Ord) (x y : Nat) : ∀ (n : Nat), x + n ≤ y → y + n ≤ F.length → ∀ k, (swaps F x y n)[k]? = if x ≤ k ∧ k < x + n then F[k - x + y]? else if y ≤ k ∧ k < y + n then F[k - y + x]? else F[k]?
  | 0, _, _, k => by
    rw [if_neg (by omega), if_neg (by omega)]; rfl
  | n + 1, h1, h2, k => by
    have ih := swaps_get F x y n (by omega) (by omega)
    have hl := swaps_length F x y n
    have ex : (swaps F x y n).getD (x + n) ord0 = F.getD (x + n) ord0 := by
      rw [List.getD_eq_getElem?_getD, List.getD_eq_getElem?_getD, ih, if_neg (by omega), if_neg (by omega)]
    have ey : (swaps F x y n).getD (y + n) ord0 = F.getD (y + n) ord0 := by
      rw [List.getD_eq_getElem?_getD, List.getD_eq_getElem?_getD, ih, if_neg (by omega), if_neg (by omega)]
    unfold swaps
    rw [ex, ey, List.getElem?_set, List.length_set, List.getElem?_set, hl, ih]
    by_cases e1 : y + n = k
    · subst e1
      rw [if_pos rfl, if_pos (by omega), if_neg (by omega), if_pos (by omega), show y + n - y + x = x + n from by omega, List.getD_eq_getElem?_getD, List.getElem?_eq_getElem (by omega)]; rfl
    · rw [if_neg e1]
      by_cases e2 : x + n = k
      · subst e2
        rw [if_pos rfl, if_pos (by omega), if_pos (by omega), show x + n - x + y = y + n from by omega, List.getD_eq_getElem?_getD, List.getElem?_eq_getElem (by omega)]; rfl
      · rw [if_neg e2]
        (repeat' split) <;> first | rfl | omega
theorem swaps_parts (P X Q Y R : List Ord) (h : Y.length = X.length) : swaps (P ++ (X ++ (Q ++ (Y ++ R)))) P.length (P.length + X.length + Q.length) X.length = P ++ (Y ++ (Q ++ (X ++ R))) := by
  apply List.ext_getElem?
  intro k
  rw [swaps_get _ _ _ _ (by omega) (by simp only [List.length_append]; omega)]
  simp only [List.getElem?_append]
  grind
theorem rot_gt (P X Y R : List Ord) (h : Y.length ≤ X.length) : swaps (P ++ (X ++ (Y ++ R))) P.length (P.length + X.length) Y.length = (P ++ Y) ++ (X.drop Y.length ++ (X.take Y.length ++ R)) := by
  have e := swaps_parts P (X.take Y.length) (X.drop Y.length) Y R (by rw [List.length_take]; omega)
  rw [List.length_take, Nat.min_eq_left h, List.length_drop, show P.length + Y.length + (X.length - Y.length) = P.length + X.length from by omega] at e
  rw [← List.append_assoc (X.take _), List.take_append_drop] at e
  rw [e, List.append_assoc]
theorem rot_lt (P X Y R : List Ord) (h : X.length ≤ Y.length) : swaps (P ++ (X ++ (Y ++ R))) P.length (P.length + Y.length) X.length = P ++ (Y.drop (Y.length - X.length) ++ (Y.take (Y.length - X.length) ++ (X ++ R))) := by
  have e := swaps_parts P X (Y.take (Y.length - X.length)) (Y.drop (Y.length - X.length)) R (by rw [List.length_drop]; omega)
  rw [List.length_take, Nat.min_eq_left (by omega), show P.length + X.length + (Y.length - X.length) = P.length + Y.length from by omega] at e
  rw [← List.append_assoc (Y.take _), List.take_append_drop] at e
  exact e
structure Rot (T P X Y R : List Ord) (k i j : Nat) : Prop where
  p : P.length + i = k
  x : X.length = i
  y : Y.length = j
  i0 : 0 < i
  j0 : 0 < j
  goal : P ++ (Y ++ (X ++ R)) = T
theorem Rot.gt {T P X Y R : List Ord} {k i j : Nat} (h : Rot T P X Y R k i j) (hij : j < i) : Rot T (P ++ Y) (X.drop j) (X.take j) R k (i - j) j := by
  obtain ⟨h1, h2, h3, h4, h5, h6⟩ := h
  refine ⟨by rw [List.length_append]; omega, by rw [List.length_drop]; omega, by rw [List.length_take]; omega, by omega, h5, ?_⟩
  rw [← List.append_assoc (X.take _), List.take_append_drop, List.append_assoc]; exact h6
theorem Rot.lt {T P X Y R : List Ord} {k i j : Nat} (h : Rot T P X Y R k i j) (hij : i < j) : Rot T P (Y.drop (j - i)) (Y.take (j - i)) (X ++ R) k i (j - i) := by
  obtain ⟨h1, h2, h3, h4, h5, h6⟩ := h
  refine ⟨h1, by rw [List.length_drop]; omega, by rw [List.length_take]; omega, h4, by omega, ?_⟩
  rw [← List.append_assoc (Y.take _), List.take_append_drop]; exact h6
set_option maxHeartbeats 4000000 in
theorem rotate_calls (w0 w : World) (A : Option Addr) (m c : Nat) (P X Y R : List Ord) (h : Sw w0 w A m c (P ++ (X ++ (Y ++ R)))) (hm : m ≤ 64) (a k b : Nat) (ha : P.length = a) (hk : a + X.length = k) (hb : k + Y.length = b) (hX : 0 < X.length) (hY : 0 < Y.length) (fv : Value) :
    Calls Try.prog 74 #[.slice A m c, .int .i64 (a : Int), .int .i64 (k : Int), .int .i64 (b : Int), fv] w fun e w' => e = .returned (.tuple #[]) ∧ Sw w0 w' A m c (P ++ (Y ++ (X ++ R))) := by
  have hlen : P.length + (X.length + (Y.length + R.length)) = m := by have := h.len; simpa using this
  have HR : Hid (Rot (P ++ (Y ++ (X ++ R))) P X Y R k X.length Y.length) := Lib.hid ⟨by omega, rfl, rfl, hX, hY, rfl⟩
  have H := Lib.hid h
  obtain ⟨T, hT⟩ : ∃ T, Hid (P ++ (Y ++ (X ++ R)) = T) := ⟨_, Lib.hid rfl⟩
  rw [hT.out] at HR ⊢
  obtain ⟨x, hx⟩ : ∃ x, Hid (X.length = x) := ⟨_, Lib.hid rfl⟩
  obtain ⟨y, hy⟩ : ∃ y, Hid (Y.length = y) := ⟨_, Lib.hid rfl⟩
  rw [hx.out, hy.out] at HR
  rw [hx.out] at hk hlen hX
  rw [hy.out] at hb hlen hY
  rw [ha] at hlen
  have q1 : IntKind.i64.wrap ((k : Int) - (a : Int)) = (x : Int) := by rw [IntKind.wrap_i64]; omega
  have q2 : IntKind.i64.wrap ((b : Int) - (k : Int)) = (y : Int) := by rw [IntKind.wrap_i64]; omega
  clear h
  go_enter Try.func74, Try.ntmps74
  go_upto_region 2 with (fail)
  go_loopg [10, 11] (x + y) (fun gk s10 s11 wr => ∃ (i j : Nat) (P1 X1 Y1 R1 : List Ord), gk = i + j ∧ s10 = .int .i64 (i : Int) ∧ s11 = .int .i64 (j : Int) ∧ Hid (Rot T P1 X1 Y1 R1 k i j) ∧ Hid (Sw w0 wr A m c (P1 ++ (X1 ++ (Y1 ++ R1)))))
  case atStart => exact ⟨x, y, P, X, Y, R, rfl, rfl, rfl, HR, H⟩
  case round =>
    obtain ⟨i, j, P1, X1, Y1, R1, rfl, rfl, rfl, HI, HW⟩ := hrel
    obtain ⟨p, hp⟩ : ∃ p, Hid (P1.length = p) := ⟨_, Lib.hid rfl⟩
    have hl1 : p + (i + (j + R1.length)) = m := by have := HW.out.len; have h2 := HI.out.x; have h3 := HI.out.y; have h4 := hp.out; simp only [List.length_append] at this; omega
    have hpk : p + i = k := by have := HI.out.p; have h4 := hp.out; omega
    have i0 := HI.out.i0
    have j0 := HI.out.j0
    have q3 : IntKind.i64.wrap ((k : Int) - (i : Int)) = (p : Int) := by rw [IntKind.wrap_i64]; omega
    rcases Nat.lt_trichotomy j i with hij | hij | hij
    · have hne : ((i : Int) != (j : Int)) = true := by simp; omega
      have hI : (j : Int) < (i : Int) := by omega
      have q4 : IntKind.i64.wrap ((i : Int) - (j : Int)) = ((i - j : Nat) : Int) := by rw [IntKind.wrap_i64]; omega
      have HC := Lib.hid (swapr_calls w0 wr A m c _ HW.out hm p k j (by omega) (by omega) fv)
      have HE := Lib.hid (rot_gt P1 X1 Y1 R1 (by rw [HI.out.x, HI.out.y]; omega))
      rw [HI.out.y, hp.out, HI.out.x, hpk] at HE
      rw [HE.out] at HC
      have HN := Lib.hid (HI.out.gt hij)
      have HM := Lib.hid (show i - j + j < i + j by omega)
      generalize i - j = i' at q4 HN HM
      clear HE HI HW
      go_wp2_with (go_at_call 75; (with_reducible refine HC.out.mono ?_); rintro e w1 ⟨rfl, hw⟩; have HW := Lib.hid hw; clear hw)
      go_roundg (i' + j)
      case measure => exact HM.out
      case rel => exact ⟨i', j, _, _, _, _, rfl, by go_num, rfl, HN, HW⟩
    · subst hij
      have hne : ((j : Int) != (j : Int)) = false := by simp
      have HC := Lib.hid (swapr_calls w0 wr A m c _ HW.out hm p k j (by omega) (by omega) fv)
      have HE := Lib.hid (rot_gt P1 X1 Y1 R1 (by rw [HI.out.x, HI.out.y]; omega))
      rw [HI.out.y, hp.out, HI.out.x, hpk] at HE
      rw [HE.out, List.drop_of_length_le (by rw [HI.out.x]; omega), List.take_of_length_le (by rw [HI.out.x]; omega), List.nil_append, List.append_assoc, HI.out.goal] at HC
      clear HE HI HW
      go_wp2_with (go_at_call 75; (with_reducible refine HC.out.mono ?_); rintro e w1 ⟨rfl, hw⟩; have HW := Lib.hid hw; clear hw)
      go_end0
      exact ⟨rfl, HW.out⟩
    · have hne : ((i : Int) != (j : Int)) = true := by simp; omega
      have hI : ¬ (j : Int) < (i : Int) := by omega
      obtain ⟨y1, hy1⟩ : ∃ y1, Hid (p + j = y1) := ⟨_, Lib.hid rfl⟩
      have h1 := hy1.out
      have q5 : IntKind.i64.wrap ((k : Int) + (j : Int)) = ((k + j : Nat) : Int) := by rw [IntKind.wrap_i64]; omega
      have q6 : IntKind.i64.wrap (((k + j : Nat) : Int) - (i : Int)) = (y1 : Int) := by rw [IntKind.wrap_i64]; omega
      have q4 : IntKind.i64.wrap ((j : Int) - (i : Int)) = ((j - i : Nat) : Int) := by rw [IntKind.wrap_i64]; omega
      have HC := Lib.hid (swapr_calls w0 wr A m c _ HW.out hm p y1 i (by omega) (by omega) fv)
      have HE := Lib.hid (rot_lt P1 X1 Y1 R1 (by rw [HI.out.x, HI.out.y]; omega))
      rw [HI.out.y, hp.out, HI.out.x, h1] at HE
      rw [HE.out] at HC
      have HN := Lib.hid (HI.out.lt hij)
      have HM := Lib.hid (show i + (j - i) < i + j by omega)
      generalize j - i = j' at q4 HN HM HC
      generalize k + j = kj at q5 q6
      clear HE HI HW h1
      go_wp2_with (go_at_call 75; (with_reducible refine HC.out.mono ?_); rintro e w1 ⟨rfl, hw⟩; have HW := Lib.hid hw; clear hw)
      go_roundg (i + j')
      case measure => exact HM.out
      case rel => exact ⟨i, j', _, _, _, _, rfl, rfl, by go_num, HN, HW⟩
end Go.Proofs.Ytilbhnloelgpdaa
namespace Go.Proofs.Ytilbhnloelgpdaa
open Go.RowKit
set_option linter.unusedVariables false
set_option linter.unusedSimpArgs false
theorem pair_get (H T : List Ord) (p o : Ord) : (H ++ p :: o :: T).getD H.length ord0 = p ∧ (H ++ p :: o :: T).getD (H.length + 1) ord0 = o ∧ ((H ++ p :: o :: T).set (H.length + 1) p).set H.length o = H ++ o :: p :: T ∧ ((H ++ p :: o :: T).set H.length o).set (H.length + 1) p = H ++ o :: p :: T := by
  refine ⟨?_, ?_, ?_, ?_⟩ <;> simp [List.getD_eq_getElem?_getD, List.set_append]
theorem nil_or_last (U : List Ord) : U = [] ∨ ∃ U' p, U = U' ++ [p] := by
  rcases List.eq_nil_or_concat U with h | ⟨U', p, h⟩
  · exact .inl h
  · exact .inr ⟨U', p, by rw [h, List.concat_eq_append]⟩
theorem sortd_short {lt : Ord → Ord → Bool} {M : List Ord} (h : M.length ≤ 1) : Sortd lt M := by
  match M, h with
  | [], _ => exact List.Pairwise.nil
  | [x], _ => exact List.pairwise_singleton _ _
theorem ins_step {b : Bool} {S S1 U V : List Ord} {t : Nat} (h : Stab (fst b) (S.take t) S1) (ht : t < S.length) (hU : S1 = U ++ V) (h1 : ∀ x ∈ U, fst b (S.getD t ord0) x = false) (h2 : ∀ x ∈ V, fst b (S.getD t ord0) x = true) :
    Stab (fst b) (S.take (t + 1)) (U ++ S.getD t ord0 :: V) := by
  subst hU
  have h3 := stab_insert (fst_swo b) h.sorted h1 h2
  rw [Ca.take_at S ht]
  refine Stab.of_alike (fun x => ?_) (by have := h.len; simp only [List.length_append, List.length_cons, List.length_nil] at *; omega) h3
  rw [cls_append, h.alike, cls_append]
theorem ins_stop {b : Bool} {U V : List Ord} {p o : Ord} (h : Sortd (fst b) ((U ++ [p]) ++ V)) (hp : fst b o p = false) : ∀ x ∈ U ++ [p], fst b o x = false := by
  intro x hx
  obtain ⟨h1, _, _⟩ := sortd_append.1 h
  rcases List.mem_append.1 hx with hx | hx
  · exact (fst_swo b).le_trans ((sortd_append.1 h1).2.2 x hx p (by simp)) hp
  · rw [List.mem_singleton.1 hx]; exact hp
set_option maxHeartbeats 4000000 in
theorem insert_calls (w0 w : World) (A : Option Addr) (m c : Nat) (P S R : List Ord) (sd : Bool) (h : Sw w0 w A m c (P ++ (S ++ R))) (hm : m ≤ 64) (hS : ∀ o ∈ S, o.buys = sd) (a e : Nat) (ha : P.length = a) (he : a + S.length = e) :
    Calls Try.prog 71 #[.slice A m c, .int .i64 (a : Int), .int .i64 (e : Int), .func (.func 39) #[] #[]] w fun e w' => e = .returned (.tuple #[]) ∧ ∃ S', Stab (fst sd) S S' ∧ Sw w0 w' A m c (P ++ (S' ++ R)) := by
  have hlen : P.length + (S.length + R.length) = m := by have := h.len; simpa using this
  have H0 : Hid (Sw w0 w A m c (P ++ (S.take 1 ++ (S.drop 1 ++ R)))) := Lib.hid (by rw [← List.append_assoc (S.take 1), List.take_append_drop]; exact h)
  have HS1 : Hid (Stab (fst sd) (S.take 1) (S.take 1)) := Lib.hid (Stab.refl (sortd_short (by rw [List.length_take]; omega)))
  have HS := Lib.hid hS
  have HAh := Lib.hid (fun wx x y => ahead_calls wx x y)
  obtain ⟨n, hn⟩ : ∃ n, Hid (S.length = n) := ⟨_, Lib.hid rfl⟩
  have HP := Lib.hid ha
  rw [hn.out] at he hlen
  rw [ha] at hlen
  clear h hS ha
  have qs : IntKind.i64.wrap ((a : Int) + 1) = ((a + 1 : Nat) : Int) := by rw [IntKind.wrap_i64]; omega
  go_enter Try.func71, Try.ntmps71
  go_upto_region 1 with (fail)
  go_loopg [8, 9] (n + 2 - 1) (fun gk s8 s9 wr => ∃ (t i : Nat) (S1 : List Ord), gk = n + 2 - t ∧ 1 ≤ t ∧ t ≤ n + 1 ∧ s8 = .int .i64 (i : Int) ∧ Hid (i = a + t) ∧ Hid (Stab (fst sd) (S.take t) S1) ∧ Hid (Sw w0 wr A m c (P ++ (S1 ++ (S.drop t ++ R)))))
  case atStart => exact ⟨1, a + 1, S.take 1, rfl, by omega, by omega, by first | rfl | go_num, Lib.hid rfl, HS1, H0⟩
  case round =>
    obtain ⟨t, i, S1, rfl, ht1, htn, rfl, hi, HI, HW⟩ := hrel
    have hie := hi.out
    by_cases htl : t < n
    · have hieI : (i : Int) < (e : Int) := by omega
      have htL : Hid (t < S.length) := Lib.hid (by rw [hn.out]; exact htl)
      have hsl : Hid (S1.length = t) := Lib.hid (by rw [HI.out.len, List.length_take, hn.out]; omega)
      have hdr : Hid (S.drop t = S.getD t ord0 :: S.drop (t + 1)) := Lib.hid (by rw [List.drop_eq_getElem_cons htL.out, List.getD_eq_getElem?_getD, List.getElem?_eq_getElem htL.out]; rfl)
      have hos : Hid ((S.getD t ord0).buys = sd) := Lib.hid (HS.out _ (by rw [List.getD_eq_getElem?_getD, List.getElem?_eq_getElem htL.out]; exact List.getElem_mem htL.out))
      have HN := Lib.hid (fun U V => ins_step (U := U) (V := V) HI.out htL.out)
      generalize S.getD t ord0 = q at hdr hos HN
      obtain ⟨D, hD⟩ : ∃ D, Hid (S.drop (t + 1) ++ R = D) := ⟨_, Lib.hid rfl⟩
      have HW2 : Hid (Sw w0 wr A m c ((P ++ S1) ++ q :: ([] ++ D))) := Lib.hid (by
        have := HW.out
        rw [hdr.out] at this
        rw [← hD.out, List.append_assoc]; exact this)
      have HM := Lib.hid (show n + 2 - (t + 1) < n + 2 - t by omega)
      have qi : IntKind.i64.wrap ((i : Int) + 1) = ((i + 1 : Nat) : Int) := by rw [IntKind.wrap_i64]; omega
      clear HW hie
      go_wp2
      go_loopg [9] (t + 1) (fun gk s9 wi => ∃ (U V : List Ord) (y : Nat), gk = U.length + 1 ∧ s9 = .int .i64 (y : Int) ∧ Hid (y = a + U.length) ∧ Hid (S1 = U ++ V ∧ ∀ x ∈ V, fst sd q x = true) ∧ Hid (Sw w0 wi A m c ((P ++ U) ++ q :: (V ++ D))))
      case atStart => exact ⟨S1, [], i, by rw [hsl.out], rfl, Lib.hid (by rw [hsl.out]; exact hi.out), Lib.hid ⟨by rw [List.append_nil], by simp⟩, HW2⟩
      case round =>
        clear HW2
        obtain ⟨U, V, y, rfl, rfl, hye, hUV, HW⟩ := hrel
        rcases nil_or_last U with rfl | ⟨U', p, rfl⟩
        · obtain rfl : y = a := by have := hye.out; simpa using this
          have HF : Hid (Stab (fst sd) (S.take (t + 1)) (q :: V)) := Lib.hid (HN.out [] V hUV.out.1 (by simp) hUV.out.2)
          have HWf : Hid (Sw w0 wr A m c (P ++ ((q :: V) ++ (S.drop (t + 1) ++ R)))) := Lib.hid (by
            have := HW.out
            rw [← hD.out, List.append_nil] at this
            exact this)
          go_wp2_with (fail)
          go_quiet (fail)
          go_wp2
          go_roundg (n + 2 - (t + 1))
          case measure => exact HM.out
          case rel => exact ⟨t + 1, i + 1, q :: V, rfl, by omega, by omega, by first | rfl | go_num, Lib.hid (by have := hi.out; omega), HF, Lib.hid (HWf.out.below (below_self _ _))⟩
        · obtain ⟨x, hxe⟩ : ∃ x, Hid (a + U'.length = x) := ⟨_, Lib.hid rfl⟩
          have hye2' : y = x + 1 := by have h1 := hye.out; have h2 := hxe.out; simp only [List.length_append, List.length_cons, List.length_nil] at h1; omega
          have hye2 := Lib.hid hye2'
          have hHl : Hid ((P ++ U').length = x) := Lib.hid (by rw [List.length_append, HP.out]; exact hxe.out)
          have HW1 : Hid (Sw w0 wr A m c ((P ++ U') ++ p :: q :: (V ++ D))) := Lib.hid (by have := HW.out; simpa using this)
          clear HW
          have HG := Lib.hid (pair_get (P ++ U') (V ++ D) p q)
          rw [hHl.out, ← hye2'] at HG
          have hy : y < m := by
            have h1 := HW1.out.len
            have h2 := hHl.out
            rw [List.length_append, h2] at h1
            simp only [List.length_cons] at h1
            omega
          have hx : x < m := by omega
          obtain ⟨b, o, rfl⟩ := HW1.out.lies (by omega)
          have HW := HW1
          obtain ⟨c0, c1, c2, c3, c4, c5⟩ := HW.out.six hx
          obtain ⟨d0, d1, d2, d3, d4, d5⟩ := HW.out.six hy
          rw [HG.out.1] at c0 c1 c2 c3 c4 c5
          rw [HG.out.2.1] at d0 d1 d2 d3 d4 d5
          have HZ := Lib.hid fun u v => HW1.out.swap hy hx u v
          have x1 : (0 : Int) ≤ (x : Int) := by omega
          have x2 : (x : Int) < (m : Int) := by omega
          have y1 : (0 : Int) ≤ (y : Int) := by omega
          have y2 : (y : Int) < (m : Int) := by omega
          have y3 : (a : Int) < (y : Int) := by have := hxe.out; omega
          have qx : IntKind.i64.wrap ((y : Int) - 1) = (x : Int) := by rw [IntKind.wrap_i64]; omega
          have hAc := Lib.hid (acmp_fst q p)
          rw [hos.out] at hAc
          have hUp := Lib.hid (fun (hf : fst sd q p = false) => HN.out (U' ++ [p]) V hUV.out.1 (ins_stop (by have := HI.out.sorted; rw [hUV.out.1] at this; exact this) hf) hUV.out.2)
          have hVp := Lib.hid (fun (hf : fst sd q p = true) => (show S1 = U' ++ (p :: V) ∧ ∀ z ∈ p :: V, fst sd q z = true from ⟨by rw [hUV.out.1]; simp, fun z hz => by
            rcases List.mem_cons.1 hz with rfl | hz
            · exact hf
            · exact hUV.out.2 z hz⟩))
          obtain ⟨r, hr⟩ : ∃ r, Hid (acmp q p = r) := ⟨_, Lib.hid rfl⟩
          have HAw : Hid (∀ wx, Calls Try.prog 39 #[oval q, oval p] wx (Told wx (.int .i64 r))) := Lib.hid fun wx => by
            have := HAh.out wx q p
            rwa [hr.out] at this
          rw [hr.out] at hAc
          obtain ⟨pi, po, pp, pa, ppl, pb⟩ := p
          obtain ⟨qi, qo, qp, qa, qpl, qb⟩ := q
          unfold oval at HAw
          simp only at c0 c1 c2 c3 c4 c5 d0 d1 d2 d3 d4 d5 HAw
          have HS0 : Hid ((wr.drew.cell? ⟨b, o + x * 6, none⟩ = some (.int .i64 pi) ∧ wr.drew.cell? ⟨b, o + x * 6 + 1, none⟩ = some (.int .i64 po) ∧ wr.drew.cell? ⟨b, o + x * 6 + 2, none⟩ = some (.int .i64 pp) ∧ wr.drew.cell? ⟨b, o + x * 6 + 3, none⟩ = some (.int .i64 pa) ∧ wr.drew.cell? ⟨b, o + x * 6 + 4, none⟩ = some (.int .i64 ppl) ∧ wr.drew.cell? ⟨b, o + x * 6 + 5, none⟩ = some (.bool pb)) ∧ (wr.drew.cell? ⟨b, o + y * 6, none⟩ = some (.int .i64 qi) ∧ wr.drew.cell? ⟨b, o + y * 6 + 1, none⟩ = some (.int .i64 qo) ∧ wr.drew.cell? ⟨b, o + y * 6 + 2, none⟩ = some (.int .i64 qp) ∧ wr.drew.cell? ⟨b, o + y * 6 + 3, none⟩ = some (.int .i64 qa) ∧ wr.drew.cell? ⟨b, o + y * 6 + 4, none⟩ = some (.int .i64 qpl) ∧ wr.drew.cell? ⟨b, o + y * 6 + 5, none⟩ = some (.bool qb)) ∧ Hid (Below wr.heap.size wr wr.drew)) := Lib.hid ⟨⟨c0, c1, c2, c3, c4, c5⟩, ⟨d0, d1, d2, d3, d4, d5⟩, Lib.hid (Below.refl _ _).drew⟩
          have HK : Hid (∀ wx, ((wx.cell? ⟨b, o + x * 6, none⟩ = some (.int .i64 pi) ∧ wx.cell? ⟨b, o + x * 6 + 1, none⟩ = some (.int .i64 po) ∧ wx.cell? ⟨b, o + x * 6 + 2, none⟩ = some (.int .i64 pp) ∧ wx.cell? ⟨b, o + x * 6 + 3, none⟩ = some (.int .i64 pa) ∧ wx.cell? ⟨b, o + x * 6 + 4, none⟩ = some (.int .i64 ppl) ∧ wx.cell? ⟨b, o + x * 6 + 5, none⟩ = some (.bool pb)) ∧ (wx.cell? ⟨b, o + y * 6, none⟩ = some (.int .i64 qi) ∧ wx.cell? ⟨b, o + y * 6 + 1, none⟩ = some (.int .i64 qo) ∧ wx.cell? ⟨b, o + y * 6 + 2, none⟩ = some (.int .i64 qp) ∧ wx.cell? ⟨b, o + y * 6 + 3, none⟩ = some (.int .i64 qa) ∧ wx.cell? ⟨b, o + y * 6 + 4, none⟩ = some (.int .i64 qpl) ∧ wx.cell? ⟨b, o + y * 6 + 5, none⟩ = some (.bool qb)) ∧ Hid (Below wr.heap.size wr wx)) → Calls Try.prog 39 #[.agg #[.int .i64 qi, .int .i64 qo, .int .i64 qp, .int .i64 qa, .int .i64 qpl, .bool qb], .agg #[.int .i64 pi, .int .i64 po, .int .i64 pp, .int .i64 pa, .int .i64 ppl, .bool pb]] wx fun e w' => e = .returned (.int .i64 r) ∧ ((w'.cell? ⟨b, o + x * 6, none⟩ = some (.int .i64 pi) ∧ w'.cell? ⟨b, o + x * 6 + 1, none⟩ = some (.int .i64 po) ∧ w'.cell? ⟨b, o + x * 6 + 2, none⟩ = some (.int .i64 pp) ∧ w'.cell? ⟨b, o + x * 6 + 3, none⟩ = some (.int .i64 pa) ∧ w'.cell? ⟨b, o + x * 6 + 4, none⟩ = some (.int .i64 ppl) ∧ w'.cell? ⟨b, o + x * 6 + 5, none⟩ = some (.bool pb)) ∧ (w'.cell? ⟨b, o + y * 6, none⟩ = some (.int .i64 qi) ∧ w'.cell? ⟨b, o + y * 6 + 1, none⟩ = some (.int .i64 qo) ∧ w'.cell? ⟨b, o + y * 6 + 2, none⟩ = some (.int .i64 qp) ∧ w'.cell? ⟨b, o + y * 6 + 3, none⟩ = some (.int .i64 qa) ∧ w'.cell? ⟨b, o + y * 6 + 4, none⟩ = some (.int .i64 qpl) ∧ w'.cell? ⟨b, o + y * 6 + 5, none⟩ = some (.bool qb)) ∧ Hid (Below wr.heap.size wr w'))) := Lib.hid fun wx hs => (HAw.out wx).mono (by
            rintro e w' ⟨rfl, hb⟩
            have hbw := below_next hs.2.2.out hb
            refine ⟨rfl, ?_, ?_, Lib.hid hbw⟩
            · have := (HW1.out.below hbw).six hx
              rwa [HG.out.1] at this
            · have := (HW1.out.below hbw).six hy
              rwa [HG.out.2.1] at this)
          clear c0 c1 c2 c3 c4 c5 d0 d1 d2 d3 d4 d5 hye2'
          have HM2 := Lib.hid (show U'.length + 1 < (U' ++ [(⟨pi, po, pp, pa, ppl, pb⟩ : Ord)]).length + 1 by simp)
          go_wp2_with (fail)
          go_region_held3 (fun wx => ((wx.cell? ⟨b, o + x * 6, none⟩ = some (.int .i64 pi) ∧ wx.cell? ⟨b, o + x * 6 + 1, none⟩ = some (.int .i64 po) ∧ wx.cell? ⟨b, o + x * 6 + 2, none⟩ = some (.int .i64 pp) ∧ wx.cell? ⟨b, o + x * 6 + 3, none⟩ = some (.int .i64 pa) ∧ wx.cell? ⟨b, o + x * 6 + 4, none⟩ = some (.int .i64 ppl) ∧ wx.cell? ⟨b, o + x * 6 + 5, none⟩ = some (.bool pb)) ∧ (wx.cell? ⟨b, o + y * 6, none⟩ = some (.int .i64 qi) ∧ wx.cell? ⟨b, o + y * 6 + 1, none⟩ = some (.int .i64 qo) ∧ wx.cell? ⟨b, o + y * 6 + 2, none⟩ = some (.int .i64 qp) ∧ wx.cell? ⟨b, o + y * 6 + 3, none⟩ = some (.int .i64 qa) ∧ wx.cell? ⟨b, o + y * 6 + 4, none⟩ = some (.int .i64 qpl) ∧ wx.cell? ⟨b, o + y * 6 + 5, none⟩ = some (.bool qb)) ∧ Hid (Below wr.heap.size wr wx)))
            (first | assumption | exact HS0.out)
            ((go_at_call 39; (with_reducible refine (HK.out _ (by assumption)).mono ?_); rintro e wn ⟨rfl, hsn⟩))
          obtain ⟨⟨c0, c1, c2, c3, c4, c5⟩, ⟨d0, d1, d2, d3, d4, d5⟩, hbn⟩ := hsn
          have HWn := Lib.hid (HW1.out.below hbn.out)
          have hxy : x < y := by have := hye2.out; omega
          by_cases hneg : r < 0
          · have hV := Lib.hid (hVp.out (hAc.out.1 hneg))
            obtain ⟨t1, _⟩ := HWn.out.put hx ord0
            obtain ⟨t2, _⟩ := HWn.out.put hy ord0
            obtain ⟨f0, f1, f2, f3, f4, f5⟩ : (wn.frozen? ⟨b, o + x * 6, none⟩ = false ∧ wn.frozen? ⟨b, o + x * 6 + 1, none⟩ = false ∧ wn.frozen? ⟨b, o + x * 6 + 2, none⟩ = false ∧ wn.frozen? ⟨b, o + x * 6 + 3, none⟩ = false ∧ wn.frozen? ⟨b, o + x * 6 + 4, none⟩ = false ∧ wn.frozen? ⟨b, o + x * 6 + 5, none⟩ = false) := ⟨(t1 0 (by decide)).2, (t1 1 (by decide)).2, (t1 2 (by decide)).2, (t1 3 (by decide)).2, (t1 4 (by decide)).2, (t1 5 (by decide)).2⟩
            obtain ⟨g0, g1, g2, g3, g4, g5⟩ : (wn.frozen? ⟨b, o + y * 6, none⟩ = false ∧ wn.frozen? ⟨b, o + y * 6 + 1, none⟩ = false ∧ wn.frozen? ⟨b, o + y * 6 + 2, none⟩ = false ∧ wn.frozen? ⟨b, o + y * 6 + 3, none⟩ = false ∧ wn.frozen? ⟨b, o + y * 6 + 4, none⟩ = false ∧ wn.frozen? ⟨b, o + y * 6 + 5, none⟩ = false) := ⟨(t2 0 (by decide)).2, (t2 1 (by decide)).2, (t2 2 (by decide)).2, (t2 3 (by decide)).2, (t2 4 (by decide)).2, (t2 5 (by decide)).2⟩
            have HZ := Lib.hid (HWn.out.swap hy hx ⟨pi, po, pp, pa, ppl, pb⟩ ⟨qi, qo, qp, qa, qpl, qb⟩)
            rw [HG.out.2.2.1] at HZ
            clear t1 t2 HWn hVp hUp
            go_upto_region 6 with (fail)
            go_region
            go_wp2
            go_roundg (U'.length + 1)
            case measure => exact HM2.out
            case rel => exact ⟨U', ⟨pi, po, pp, pa, ppl, pb⟩ :: V, x, rfl, by first | rfl | go_num, Lib.hid hxe.out.symm, hV, Lib.hid (HZ.out.below (Below.refl _ _).drew)⟩
          · have hfp : fst sd ⟨qi, qo, qp, qa, qpl, qb⟩ ⟨pi, po, pp, pa, ppl, pb⟩ = false := by
              cases hq : fst sd ⟨qi, qo, qp, qa, qpl, qb⟩ ⟨pi, po, pp, pa, ppl, pb⟩ with
              | false => rfl
              | true => exact absurd (hAc.out.2 hq) hneg
            have HF := Lib.hid (hUp.out hfp)
            clear hfp
            have HWf : Hid (Sw w0 wn (some ⟨b, o, none⟩) m c (P ++ (((U' ++ [(⟨pi, po, pp, pa, ppl, pb⟩ : Ord)]) ++ ⟨qi, qo, qp, qa, qpl, qb⟩ :: V) ++ (S.drop (t + 1) ++ R)))) := Lib.hid (by
              have := HWn.out
              rw [← hD.out] at this
              simpa using this)
            clear HWn hVp hUp
            go_wp2
            go_roundg (n + 2 - (t + 1))
            case measure => exact HM.out
            case rel => exact ⟨t + 1, i + 1, _, rfl, by omega, by omega, by first | rfl | go_num, Lib.hid (by have := hi.out; omega), HF, HWf⟩
    · have HF : Hid (Stab (fst sd) S S1) := Lib.hid (by
        have := HI.out
        rw [List.take_of_length_le (by rw [hn.out]; omega)] at this
        exact this)
      have HWf : Hid (Sw w0 wr A m c (P ++ (S1 ++ R))) := Lib.hid (by
        have := HW.out
        rw [List.drop_of_length_le (by rw [hn.out]; omega), List.nil_append] at this
        exact this)
      have hieI : ¬ (i : Int) < (e : Int) := by omega
      clear HI HW hie
      go_wp2
      go_end0
      exact ⟨rfl, S1, HF.out, HWf.out⟩
end Go.Proofs.Ytilbhnloelgpdaa
namespace Go.Proofs.Ytilbhnloelgpdaa
open Go.RowKit
set_option linter.unusedVariables false
set_option linter.unusedSimpArgs false
theorem w_add {a b c : Nat} (h : a + b = c) (hc : c ≤ 100000) : IntKind.i64.wrap ((a : Int) + (b : Int)) = (c : Int) := by rw [IntKind.wrap_i64]; omega
theorem w_sub {a b c : Nat} (h : b + c = a) (hc : a ≤ 100000) : IntKind.i64.wrap ((a : Int) - (b : Int)) = (c : Int) := by rw [IntKind.wrap_i64]; omega
theorem w_one {a c : Nat} (h : a + 1 = c) (hc : c ≤ 100000) : IntKind.i64.wrap ((a : Int) + 1) = (c : Int) := by rw [IntKind.wrap_i64]; omega
theorem w_less {a c : Nat} (h : c + 1 = a) (hc : a ≤ 100000) : IntKind.i64.wrap ((a : Int) - 1) = (c : Int) := by rw [IntKind.wrap_i64]; omega
theorem w_mid {i j x : Nat} (h : (i + j) / 2 = x) (hc : i + j ≤ 100000) : IntKind.i64.wrap ((i : Int) + (j : Int)) = (i : Int) + (j : Int) ∧ IntKind.u64.wrap ((i : Int) + (j : Int)) = (i : Int) + (j : Int) ∧ wrap64 (((i : Int) + (j : Int)) / 2) = (x : Int) :=
  ⟨by rw [IntKind.wrap_i64]; omega, by rw [IntKind.wrap_u64]; omega, by unfold wrap64; omega⟩
section
variable {sd : Bool}
theorem getD_mem {M : List Ord} {i : Nat} (h : i < M.length) : M.getD i ord0 ∈ M := by
  rw [List.getD_eq_getElem?_getD, List.getElem?_eq_getElem h]; exact List.getElem_mem h
theorem sortd_at {M : List Ord} (h : Sortd (fst sd) M) {i j : Nat} (hij : i ≤ j) (hj : j < M.length) : fst sd (M.getD j ord0) (M.getD i ord0) = false := by
  rcases Nat.lt_or_eq_of_le hij with hij | rfl
  · have := List.pairwise_iff_getElem.1 h i j (by omega) hj hij
    rw [List.getD_eq_getElem?_getD, List.getD_eq_getElem?_getD, List.getElem?_eq_getElem hj, List.getElem?_eq_getElem (by omega)]
    exact this
  · exact (fst_swo sd).irr _
theorem mem_take_at {M : List Ord} {s : Nat} {x : Ord} (h : x ∈ M.take s) : ∃ i, i < s ∧ i < M.length ∧ x = M.getD i ord0 := by
  obtain ⟨i, hi, e⟩ := List.getElem_of_mem h
  rw [List.length_take] at hi
  refine ⟨i, by omega, by omega, ?_⟩
  rw [← e, List.getElem_take, List.getD_eq_getElem?_getD, List.getElem?_eq_getElem (by omega)]; rfl
theorem mem_drop_at {M : List Ord} {s : Nat} {x : Ord} (h : x ∈ M.drop s) : ∃ i, s ≤ i ∧ i < M.length ∧ x = M.getD i ord0 := by
  obtain ⟨i, hi, e⟩ := List.getElem_of_mem h
  rw [List.length_drop] at hi
  refine ⟨s + i, by omega, by omega, ?_⟩
  rw [← e, List.getElem_drop, List.getD_eq_getElem?_getD, List.getElem?_eq_getElem (by omega)]; rfl
/-- u goes into V behind what is below it. -/
theorem mrg_one {V : List Ord} {u : Ord} {s : Nat} (hv : Sortd (fst sd) V) (hs : s ≤ V.length) (h1 : s = 0 ∨ fst sd (V.getD (s - 1) ord0) u = true) (h2 : s = V.length ∨ fst sd (V.getD s ord0) u = false) : Stab (fst sd) (u :: V) (V.take s ++ u :: V.drop s) := by
  have hw := fst_swo sd
  have := stab_insert2 hw (S1 := V.take s) (S2 := V.drop s) (o := u) (by rw [List.take_append_drop]; exact hv) (fun x hx => ?_) (fun x hx => ?_)
  · rwa [List.take_append_drop] at this
  · obtain ⟨i, h3, h4, rfl⟩ := mem_take_at hx
    rcases h1 with h1 | h1
    · omega
    · exact hw.le_lt (sortd_at hv (i := i) (j := s - 1) (by omega) (by omega)) h1
  · obtain ⟨i, h3, h4, rfl⟩ := mem_drop_at hx
    rcases h2 with h2 | h2
    · omega
    · exact hw.le_trans h2 (sortd_at hv (i := s) (j := i) (by omega) (by omega))
/-- v goes into U behind what is not above it. -/
theorem mrg_last {U : List Ord} {v : Ord} {s : Nat} (hu : Sortd (fst sd) U) (hs : s ≤ U.length) (h1 : s = 0 ∨ fst sd v (U.getD (s - 1) ord0) = false) (h2 : s = U.length ∨ fst sd v (U.getD s ord0) = true) : Stab (fst sd) (U ++ [v]) (U.take s ++ v :: U.drop s) := by
  have hw := fst_swo sd
  have := stab_insert hw (S1 := U.take s) (S2 := U.drop s) (o := v) (by rw [List.take_append_drop]; exact hu) (fun x hx => ?_) (fun x hx => ?_)
  · rwa [List.take_append_drop] at this
  · obtain ⟨i, h3, h4, rfl⟩ := mem_take_at hx
    rcases h1 with h1 | h1
    · omega
    · exact hw.le_trans (sortd_at hu (i := i) (j := s - 1) (by omega) (by omega)) h1
  · obtain ⟨i, h3, h4, rfl⟩ := mem_drop_at hx
    rcases h2 with h2 | h2
    · omega
    · exact hw.lt_le h2 (sortd_at hu (i := s) (j := i) (by omega) (by omega))
/-- Where two sorted lists are cut so that the middle parts may change places. -/
theorem mrg_cut {U V L R : List Ord} (hu : Sortd (fst sd) U) (hv : Sortd (fst sd) V) {s t : Nat} (hs : s ≤ U.length) (ht : t ≤ V.length)
    (h1 : s = U.length ∨ t = 0 ∨ fst sd (V.getD (t - 1) ord0) (U.getD s ord0) = true) (h2 : s = 0 ∨ t = V.length ∨ fst sd (V.getD t ord0) (U.getD (s - 1) ord0) = false)
    (hL : Stab (fst sd) (U.take s ++ V.take t) L) (hR : Stab (fst sd) (U.drop s ++ V.drop t) R) : Stab (fst sd) (U ++ V) (L ++ R) := by
  have hw := fst_swo sd
  have := stab_merge hw (U1 := U.take s) (U2 := U.drop s) (V1 := V.take t) (V2 := V.drop t) (by rw [List.take_append_drop]; exact hu) (by rw [List.take_append_drop]; exact hv) (fun x hx y hy => ?_) (fun x hx y hy => ?_) hL hR
  · rwa [List.take_append_drop, List.take_append_drop] at this
  · obtain ⟨i, h3, h4, rfl⟩ := mem_drop_at hx
    obtain ⟨j, h5, h6, rfl⟩ := mem_take_at hy
    rcases h1 with h1 | h1 | h1
    · omega
    · omega
    · exact hw.lt_le (hw.le_lt (sortd_at hv (i := j) (j := t - 1) (by omega) (by omega)) h1) (sortd_at hu (i := s) (j := i) (by omega) (by omega))
  · obtain ⟨i, h3, h4, rfl⟩ := mem_take_at hx
    obtain ⟨j, h5, h6, rfl⟩ := mem_drop_at hy
    rcases h2 with h2 | h2 | h2
    · omega
    · omega
    · exact hw.le_trans (sortd_at hu (i := i) (j := s - 1) (by omega) (by omega)) (hw.le_trans h2 (sortd_at hv (i := t) (j := j) (by omega) (by omega)))
theorem sortd_take {M : List Ord} (h : Sortd (fst sd) M) (s : Nat) : Sortd (fst sd) (M.take s) := by
  have : Sortd (fst sd) (M.take s ++ M.drop s) := by rw [List.take_append_drop]; exact h
  exact (sortd_append.1 this).1
theorem sortd_drop {M : List Ord} (h : Sortd (fst sd) M) (s : Nat) : Sortd (fst sd) (M.drop s) := by
  have : Sortd (fst sd) (M.take s ++ M.drop s) := by rw [List.take_append_drop]; exact h
  exact (sortd_append.1 this).2.1
/-- One list of the two is empty. -/
theorem mrg_none {U V : List Ord} (hu : Sortd (fst sd) U) (hv : Sortd (fst sd) V) (h : U = [] ∨ V = []) : Stab (fst sd) (U ++ V) (U ++ V) := by
  refine Stab.refl ?_
  rcases h with rfl | rfl
  · exact hv
  · rw [List.append_nil]; exact hu
/-- What is to be merged. -/
structure SymPre (sd : Bool) (U V : List Ord) : Prop where
  bu : ∀ o ∈ U ++ V, o.buys = sd
  su : Sortd (fst sd) U
  sv : Sortd (fst sd) V
  u0 : 0 < U.length
  v0 : 0 < V.length
end
end Go.Proofs.Ytilbhnloelgpdaa
