/- The contract of awake: the chapter's example is played through. -/
import Derived.Test.YtccmafmeblojpaaAw
namespace Go.Proofs.Ytccmafmeblojpaa
open Go.RowKit
def e0 : Auc := ⟨5, 10, 2, 1, 0, [(0, 0), (0, 0)]⟩
def e1 : Auc := ⟨5, 10, 2, 1, 0, [(0, 4), (0, 0)]⟩
def e2 : Auc := ⟨5, 10, 2, 1, 0, [(0, 4), (0, 3)]⟩
def e3 : Auc := ⟨5, 10, 2, 2, 0, [(4, 4), (3, 3)]⟩
def e4 : Auc := ⟨5, 10, 2, 2, 0, [(4, 1), (3, 3)]⟩
def e5 : Auc := ⟨5, 10, 2, 2, 1, [(4, 1), (3, 3)]⟩
section
variable {w0 w : World} {g gl : Nat}
theorem ex_new (w : World) : Calls Try.prog 18 #[.int .i64 5, .int .i64 10, .int .i64 2, .int .i64 2] w fun e w' => ∃ g gl, e = .returned (.tuple #[.pointer (some ⟨g, 0, none⟩), .int .i64 0]) ∧ Aw w w' g gl e0 :=
  Aw.new w 5 10 2 2 (by omega) (by omega) (by omega) (by omega)
theorem ex_bid0 (h : Aw w0 w g gl e0) : Calls Try.prog 19 #[.pointer (some ⟨g, 0, none⟩), .int .i64 0, .int .i64 4] w fun e w' => e = .returned (.int .i64 0) ∧ Aw w0 w' g gl e1 := h.bid 0 4
theorem ex_bid1 (h : Aw w0 w g gl e1) : Calls Try.prog 19 #[.pointer (some ⟨g, 0, none⟩), .int .i64 1, .int .i64 3] w fun e w' => e = .returned (.int .i64 0) ∧ Aw w0 w' g gl e2 := h.bid 1 3
theorem ex_next2 (h : Aw w0 w g gl e2) : Calls Try.prog 23 #[.pointer (some ⟨g, 0, none⟩)] w fun e w' => e = .returned (.tuple #[.bool false, .int .i64 0]) ∧ Aw w0 w' g gl e3 := h.next
theorem ex_price3 (h : Aw w0 w g gl e3) : Calls Try.prog 20 #[.pointer (some ⟨g, 0, none⟩)] w fun e w' => e = .returned (.int .i64 12) ∧ Aw w0 w' g gl e3 :=
  h.price.mono fun _ _ ⟨h1, d, h2⟩ => ⟨h1, by rw [h2]; exact h.drewN d⟩
theorem ex_bid3 (h : Aw w0 w g gl e3) : Calls Try.prog 19 #[.pointer (some ⟨g, 0, none⟩), .int .i64 0, .int .i64 5] w fun e w' => e = .returned (.int .i64 71) ∧ Aw w0 w' g gl e3 := h.bid 0 5
theorem ex_bid4 (h : Aw w0 w g gl e3) : Calls Try.prog 19 #[.pointer (some ⟨g, 0, none⟩), .int .i64 0, .int .i64 1] w fun e w' => e = .returned (.int .i64 0) ∧ Aw w0 w' g gl e4 := h.bid 0 1
theorem ex_next4 (h : Aw w0 w g gl e4) : Calls Try.prog 23 #[.pointer (some ⟨g, 0, none⟩)] w fun e w' => e = .returned (.tuple #[.bool true, .int .i64 0]) ∧ Aw w0 w' g gl e5 := h.next
theorem ex_sale5 (h : Aw w0 w g gl e5) : Calls Try.prog 27 #[.pointer (some ⟨g, 0, none⟩)] w fun e w' => ∃ gs, e = .returned (.tuple #[.int .i64 10, .slice (some ⟨gs, 0, none⟩) 2 2, .int .i64 0]) ∧ (w'.cell? ⟨gs, 0, none⟩ = some (.int .i64 2) ∧ w'.cell? ⟨gs, 1, none⟩ = some (.int .i64 3)) ∧ Aw w0 w' g gl e5 := by
  refine h.sale.mono fun e w' ⟨v, h1, h2, h3⟩ => ?_
  have es : e5.sale = (10, [2, 3], 0) := by decide
  rw [es] at h1 h2
  rcases h2 with ⟨h4, _⟩ | ⟨gs, rfl, _, hB⟩
  · cases h4
  · exact ⟨gs, h1, ⟨hB.cell 0, hB.cell 1⟩, h3⟩
end
set_option maxHeartbeats 1000000 in
theorem awake_calls (w : World) : Calls Try.prog 14 #[] w fun e w' => e = .returned (.bool true) ∧ Below w.heap.size w w' := by
  go_enter Try.func14, Try.ntmps14
  go_wp2_with (first
    | (go_at_call 18; (with_reducible refine (ex_new _).mono ?_); rintro e w1 ⟨g, gl, rfl, h⟩; have H0 := Lib.hid h; clear h)
    | (go_at_call 19; first
        | ((with_reducible refine (ex_bid0 H0.out).mono ?_); rintro e w2 ⟨rfl, h⟩; have H1 := Lib.hid h; clear h)
        | ((with_reducible refine (ex_bid1 H1.out).mono ?_); rintro e w3 ⟨rfl, h⟩; have H2 := Lib.hid h; clear h)
        | ((with_reducible refine (ex_bid3 H4.out).mono ?_); rintro e w6 ⟨rfl, h⟩; have H5 := Lib.hid h; clear h)
        | ((with_reducible refine (ex_bid4 H5.out).mono ?_); rintro e w7 ⟨rfl, h⟩; have H6 := Lib.hid h; clear h))
    | (go_at_call 23; first
        | ((with_reducible refine (ex_next4 H6.out).mono ?_); rintro e w8 ⟨rfl, h⟩; have H7 := Lib.hid h; clear h)
        | ((with_reducible refine (ex_next2 H2.out).mono ?_); rintro e w4 ⟨rfl, h⟩; have H3 := Lib.hid h; clear h))
    | (go_at_call 20; (with_reducible refine (ex_price3 H3.out).mono ?_); rintro e w5 ⟨rfl, h⟩; have H4 := Lib.hid h; clear h)
    | (go_at_call 27; (with_reducible refine (ex_sale5 H7.out).mono ?_); rintro e w9 ⟨gs, rfl, ⟨s0, s1⟩, h⟩; have H8 := Lib.hid h; clear h))
  go_ret
  exact ⟨rfl, H8.out.all⟩
end Go.Proofs.Ytccmafmeblojpaa
