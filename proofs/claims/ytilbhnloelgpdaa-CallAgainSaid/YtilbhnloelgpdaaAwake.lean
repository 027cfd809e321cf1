/- awake: chapter 8's example. -/
import Derived.Test.YtilbhnloelgpdaaBw
namespace Go.Proofs.Ytilbhnloelgpdaa
open Go.RowKit
set_option linter.unusedVariables false
set_option linter.unusedSimpArgs false
theorem eq_fill (w : World) (a b c : Int) : (Op.equalIn 10000 44 (.agg #[.int .i64 a, .int .i64 b, .int .i64 c]) (.agg #[.int .i64 a, .int .i64 b, .int .i64 c])).run Try.prog w = .ok true w := by
  simp [Op.eqFields, part, go_sem, Try.underlying44, Try.isAgg3]
def ab1 : Bk := ⟨[⟨1, 0, 10, 5, 1, true⟩], 2⟩
def ab2 : Bk := ⟨[⟨1, 0, 10, 5, 1, true⟩, ⟨2, 1, 8, 3, 2, false⟩], 3⟩
def ab3 : Bk := ⟨[⟨1, 0, 10, 2, 1, true⟩], 3⟩
theorem ab_one : Bk.fresh.put ⟨1, 0, 10, 5, 0, true⟩ = (ab1, 0) := by rfl
theorem ab_two : ab1.put ⟨2, 1, 8, 3, 0, false⟩ = (ab2, 0) := by rfl
theorem ab_three : ab2.put ⟨2, 0, 1, 1, 0, false⟩ = (ab2, 63) := by rfl
theorem ab_clear : ab2.clear = (ab3, (8, 3), [⟨1, 0, 3⟩, ⟨2, 1, 3⟩]) := by rfl
theorem ab_get : ab3.get 1 = (⟨1, 0, 10, 2, 1, true⟩, true) := by rfl
set_option maxHeartbeats 8000000 in
set_option maxRecDepth 100000 in
theorem awake_calls (w : World) : Calls Try.prog 20 #[] w (Told w (.bool true)) := by
  have K0 := Lib.hid (Bw.new w)
  have K1 : Hid (∀ wx g, Bw w wx g Bk.fresh → Calls Try.prog 32 #[.pointer (some ⟨g, 0, none⟩), .agg #[.int .i64 1, .int .i64 0, .int .i64 10, .int .i64 5, .int .i64 0, .bool true]] wx fun e w' => e = .returned (.int .i64 0) ∧ Bw w w' g ab1) := Lib.hid fun wx g h => by
    have := h.put ⟨1, 0, 10, 5, 0, true⟩
    rwa [ab_one] at this
  have K2 : Hid (∀ wx g, Bw w wx g ab1 → Calls Try.prog 32 #[.pointer (some ⟨g, 0, none⟩), .agg #[.int .i64 2, .int .i64 1, .int .i64 8, .int .i64 3, .int .i64 0, .bool false]] wx fun e w' => e = .returned (.int .i64 0) ∧ Bw w w' g ab2) := Lib.hid fun wx g h => by
    have := h.put ⟨2, 1, 8, 3, 0, false⟩
    rwa [ab_two] at this
  have K3 : Hid (∀ wx g, Bw w wx g ab2 → Calls Try.prog 32 #[.pointer (some ⟨g, 0, none⟩), .agg #[.int .i64 2, .int .i64 0, .int .i64 1, .int .i64 1, .int .i64 0, .bool false]] wx fun e w' => e = .returned (.int .i64 63) ∧ Bw w w' g ab2) := Lib.hid fun wx g h => by
    have := h.put ⟨2, 0, 1, 1, 0, false⟩
    rwa [ab_three] at this
  have K4 : Hid (∀ wx g, Bw w wx g ab2 → Calls Try.prog 24 #[.pointer (some ⟨g, 0, none⟩)] wx fun e w' => ∃ A c, e = .returned (.tuple #[.int .i64 8, .int .i64 3, .slice A 2 c]) ∧ Mine wx w' 3 (.slice A 2 c) 2 (fcells [⟨1, 0, 3⟩, ⟨2, 1, 3⟩]) ∧ Bw w w' g ab3) := Lib.hid fun wx g h => by
    have := h.clear
    rwa [ab_clear] at this
  have K5 : Hid (∀ wx g, Bw w wx g ab3 → Calls Try.prog 26 #[.pointer (some ⟨g, 0, none⟩), .int .i64 1] wx fun e w' => e = .returned (.tuple #[.agg #[.int .i64 1, .int .i64 0, .int .i64 10, .int .i64 2, .int .i64 1, .bool true], .bool true]) ∧ Below wx.heap.size wx w') := Lib.hid fun wx g h => by
    have := h.get 1
    rwa [ab_get] at this
  have K6 : Hid (∀ wx g, Bw w wx g ab3 → Calls Try.prog 23 #[.pointer (some ⟨g, 0, none⟩)] wx fun e w' => ∃ A c, e = .returned (.slice A 1 c) ∧ Below wx.heap.size wx w') := Lib.hid fun wx g h => (h.orders).mono fun _ _ ⟨A, c, h1, h2, h3⟩ => ⟨A, c, h1, h3⟩
  go_enter Try.func20, Try.ntmps20
  go_upto_region 4 with (first
    | (go_at_call 28; (with_reducible refine K0.out.mono ?_); rintro e w1 ⟨g, rfl, hh⟩; have H0 := Lib.hid hh; clear hh)
    | (go_at_call 32; first
      | ((with_reducible refine (K3.out _ _ H2.out).mono ?_); rintro e w4 ⟨rfl, hh⟩; have H3 := Lib.hid hh; clear hh)
      | ((with_reducible refine (K2.out _ _ H1.out).mono ?_); rintro e w3 ⟨rfl, hh⟩; have H2 := Lib.hid hh; clear hh)
      | ((with_reducible refine (K1.out _ _ H0.out).mono ?_); rintro e w2 ⟨rfl, hh⟩; have H1 := Lib.hid hh; clear hh)))
  go_upto_region 5 with (go_at_call 24; (with_reducible refine (K4.out _ _ H3.out).mono ?_); rintro e w5 ⟨A5, c5, rfl, hm, hh⟩; have H5 := Lib.hid hh; have HM5 := Lib.hid hm; clear hh hm)
  go_upto_region 6 with (go_at_call 26; (with_reducible refine (K5.out _ _ H5.out).mono ?_); rintro e w6 ⟨rfl, hh⟩; have hb6 := Lib.hid hh; clear hh)
  have HX : Hid (Below w.heap.size w (w6.alloc (.cells #[.int .i64 1, .int .i64 0, .int .i64 10, .int .i64 2, .int .i64 1, .bool true] 33)) ∧ Below w5.heap.size w5 (w6.alloc (.cells #[.int .i64 1, .int .i64 0, .int .i64 10, .int .i64 2, .int .i64 1, .bool true] 33)) ∧ Bw w (w6.alloc (.cells #[.int .i64 1, .int .i64 0, .int .i64 10, .int .i64 2, .int .i64 1, .bool true] 33)) g ab3) := Lib.hid (by
    have h5 := hb6.out.alloc hb6.out.size (.cells #[.int .i64 1, .int .i64 0, .int .i64 10, .int .i64 2, .int .i64 1, .bool true] 33)
    exact ⟨below_next H5.out.all h5, h5, H5.out.below h5⟩)
  have BX := Lib.hid (Blk.new w6 33 #[.int .i64 1, .int .i64 0, .int .i64 10, .int .i64 2, .int .i64 1, .bool true])
  obtain ⟨kk, hkk⟩ : ∃ kk, Hid (w6.heap.size = kk) := ⟨_, Lib.hid rfl⟩
  rw [hkk.out] at BX ⊢
  generalize World.alloc w6 _ = w7 at HX BX ⊢
  obtain ⟨fb, fo, rfl⟩ : ∃ b o, A5 = some ⟨b, o, none⟩ := by
    obtain ⟨b, o, e, _⟩ := (HM5.out.frow rfl).2.cells (i := 0) (by decide)
    exact ⟨b, o, e⟩
  obtain ⟨c0, c1, c2⟩ : w7.cell? ⟨fb, fo, none⟩ = some (.int .i64 1) ∧ w7.cell? ⟨fb, fo + 1, none⟩ = some (.int .i64 0) ∧ w7.cell? ⟨fb, fo + 2, none⟩ = some (.int .i64 3) := by
    have := FRow.three (HM5.out.frow rfl).2 (i := 0) (by decide) HX.out.2.1
    simpa [fil0] using this
  have c3 : w7.cell? ⟨kk, 3, none⟩ = some (.int .i64 2) := BX.out.cell 3
  have hq : ∀ wx, (binOp .eql 44 (.agg #[.int .i64 1, .int .i64 0, .int .i64 3]) (.agg #[.int .i64 1, .int .i64 0, .int .i64 3])).run Try.prog wx = .ok (.bool true) wx := fun wx => by
    simp [binOp, Op.equal, Op.maxDepth, go_sem, eq_fill]
  have K6x := Lib.hid (K6.out _ _ HX.out.2.2)
  go_wp2_with (go_at_call 23; (with_reducible refine K6x.out.mono ?_); rintro e w8 ⟨A8, c8, rfl, hh⟩; have hb8 := Lib.hid hh; clear hh)
  refine bodyPost_ret (by simp [results, Try.results20, asAddr, go_sem]; rfl) rfl ?_
  exact ⟨rfl, below_next HX.out.1 hb8.out⟩
end Go.Proofs.Ytilbhnloelgpdaa
