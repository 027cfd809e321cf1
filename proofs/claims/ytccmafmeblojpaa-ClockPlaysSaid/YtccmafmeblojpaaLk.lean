/- like: the auction tells what the document's does. -/
import Derived.Test.YtccmafmeblojpaaRfY
import Derived.Test.YtccmafmeblojpaaRfW
import Derived.Test.YtccmafmeblojpaaBegun
namespace Go.Proofs.Ytccmafmeblojpaa
open Go.RowKit
set_option linter.unusedVariables false
set_option linter.unusedSimpArgs false
theorem supply_calls (w : World) (g gl : Nat) (a : Auc) (h : AtA w g gl a) :
    Calls Try.prog 33 #[.pointer (some ⟨g, 0, none⟩)] w fun e w' => e = .returned (.int .i64 a.supply) ∧ w' = w := by
  obtain ⟨c0, c1, c2, c3, c4, c5⟩ := h.cells
  clear h c1 c2 c3 c4 c5
  go_enter Try.func33, Try.ntmps33
  go_wp2
  go_ret
  exact ⟨rfl, rfl⟩
theorem last_calls (w : World) (g gl : Nat) (a : Auc) (h : AtA w g gl a) :
    Calls Try.prog 32 #[.pointer (some ⟨g, 0, none⟩)] w fun e w' => e = .returned (.int .i64 a.last) ∧ ∃ d, w' = w.drewN d := by
  obtain ⟨c0, c1, c2, c3, c4, c5⟩ := h.cells
  have E : Hid (a.last = if a.round < 2 then 0 else a.price - a.step) := Lib.hid rfl
  have hr := h.ok.round
  have h3 := h.ok.step
  have h4 := h.ok.price
  have h5 : 0 ≤ a.price := by
    have := h.ok.start.1
    have := h.ok.lap.1
    show 0 ≤ a.start + (a.round - 1) * a.step
    omega
  have q1 : IntKind.i64.wrap (a.price - a.step) = a.price - a.step := by rw [IntKind.wrap_i64]; omega
  have HP := Lib.hid (fun w1 (h : AtA w1 g gl a) => price_calls w1 g gl a h)
  have H := Lib.hid h
  by_cases h2 : a.round = 1
  · rw [h2] at c3
    have E2 : Hid (a.last = 0) := Lib.hid (by rw [E.out, if_pos (by omega)])
    clear h h3 h4 h5 hr c0 c1 c2 c4 c5 h2 E
    go_enter Try.func32, Try.ntmps32
    go_wp2
    go_ret
    exact ⟨ret_i E2.out.symm, 0, rfl⟩
  · have E2 : Hid (a.last = a.price - a.step) := Lib.hid (by rw [E.out, if_neg (by omega)])
    have hB : (a.round == 1) = false := by simpa using h2
    clear h h3 h4 h5 hr c0 c1 c4 c5 h2 E
    generalize a.price = pr at HP q1 E2
    go_enter Try.func32, Try.ntmps32
    go_upto_region 3 with (fail)
    go_quiet ((go_at_call 20; (first | (with_reducible refine (HP.out _ (H.out.drewN _)).mono ?_) | (with_reducible refine (HP.out _ H.out.drew).mono ?_) | (with_reducible refine (HP.out _ H.out).mono ?_)); rintro e w' ⟨rfl, ⟨nd, rfl⟩⟩; first | exact ⟨rfl, _, World.drewN_drewN _ _ _⟩ | exact ⟨rfl, _, rfl⟩))
    go_wp2
    go_ret
    exact ⟨ret_i E2.out.symm, _, rfl⟩
theorem wants_out (w : World) (g gl : Nat) (a : Auc) (h : AtA w g gl a) (who : Int) (hw : who < 0 ∨ who = (a.l.length : Int)) :
    Calls Try.prog 26 #[.pointer (some ⟨g, 0, none⟩), .int .i64 who] w fun e w' => e = .returned (.tuple #[.int .i64 0, .int .i64 0]) ∧ ∃ d, w' = w.drewN d := by
  obtain ⟨c0, c1, c2, c3, c4, c5⟩ := h.cells
  by_cases h1 : who < 0
  · clear h hw c0 c1 c2 c3 c4
    go_enter Try.func26, Try.ntmps26
    go_wp2
    go_ret2
    exact ⟨rfl, 0, rfl⟩
  · have h0 : 0 ≤ who := by omega
    have h2 : who = (a.l.length : Int) := by omega
    subst h2
    clear h hw c0 c1 c2 c3 c4 h1
    go_enter Try.func26, Try.ntmps26
    go_wp2
    go_ret2
    exact ⟨rfl, 0, rfl⟩
theorem Got.row {w w' : World} {v : Value} {L : List Int} (h : Got w w' v L) : ∃ A c, v = .slice A L.length c ∧ IRow w' A L := by
  rcases h with ⟨rfl, rfl⟩ | ⟨gs, rfl, _, hb⟩
  · exact ⟨none, 0, rfl, .inl rfl⟩
  · refine ⟨_, _, rfl, ?_⟩
    refine .inr ⟨gs, 0, rfl, hb.lt, fun j hj => ?_⟩
    rw [Nat.zero_add, hb.cell, List.getElem?_toArray, icells_get _ hj]
end Go.Proofs.Ytccmafmeblojpaa
