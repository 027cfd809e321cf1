/- Amend and Cancel of a book as the laws use it. -/
import Derived.Test.YtilbhnloelgpdaaBkA
namespace Go.Proofs.Ytilbhnloelgpdaa
open Go.RowKit
set_option linter.unusedVariables false
set_option linter.unusedSimpArgs false
section
variable {w0 w w' : World} {g : Nat} {b b' : Bk}
theorem Bw.amend (h : Bw w0 w g b) (id owner price amount : Int) : Calls Try.prog 27 #[.pointer (some ⟨g, 0, none⟩), .int .i64 id, .int .i64 owner, .int .i64 price, .int .i64 amount] w fun e w' => e = .returned (.int .i64 (b.amend id owner price amount).2) ∧ Bw w0 w' g (b.amend id owner price amount).1 := by
  obtain ⟨gl, h1, h2, h3, h4⟩ := h
  exact (amend_calls w g gl b h1 id owner price amount).mono fun _ _ ⟨e, ht⟩ => ⟨e, Bw.turn h1 h2 h3 h4 ht⟩
theorem Bw.cancel (h : Bw w0 w g b) (id owner : Int) : Calls Try.prog 33 #[.pointer (some ⟨g, 0, none⟩), .int .i64 id, .int .i64 owner] w fun e w' => e = .returned (.int .i64 (b.cancel id owner).2) ∧ Bw w0 w' g (b.cancel id owner).1 := by
  obtain ⟨gl, h1, h2, h3, h4⟩ := h
  exact (cancel_calls w g gl b h1 id owner).mono fun _ _ ⟨e, ht⟩ => ⟨e, Bw.turn h1 h2 h3 h4 ht⟩
end
def arnd (n : Int) (below : Nat) : Nat := (n.tmod below).natAbs
theorem arnd_lt (n : Int) {below : Nat} (h : 0 < below) : arnd n below < below := by
  unfold arnd
  have h1 := Int.lt_tmod_of_pos n (b := (below : Int)) (by omega)
  have h2 := Int.tmod_lt_of_pos n (b := (below : Int)) (by omega)
  omega
set_option maxHeartbeats 2000000 in
theorem around_calls (n : Int) (b : Nat) (hb : 0 < b) (hb2 : b ≤ 1000000) (w : World) :
    Calls Try.prog 41 #[.int .i64 n, .int .i64 (b : Int)] w fun e w' => e = .returned (.int .i64 (arnd n b : Int)) ∧ w = w' := by
  have h1 := Int.lt_tmod_of_pos n (b := (b : Int)) (by omega)
  have h2 := Int.tmod_lt_of_pos n (b := (b : Int)) (by omega)
  obtain ⟨q, hq⟩ : ∃ q, n.tmod (b : Int) = q := ⟨_, rfl⟩
  have E : Hid (((arnd n b : Nat) : Int) = if q < 0 then 0 - q else q) := Lib.hid (by unfold arnd; rw [hq]; split <;> omega)
  rw [hq] at h1 h2
  have hb3 : (0 : Int) < (b : Int) := by omega
  have hb4 : ¬ (b : Int) = 0 := by omega
  have hb5 : ¬ b = 0 := by omega
  by_cases h : q < 0
  · have e2 := E.out
    rw [if_pos h] at e2
    have E2 := Lib.hid e2
    have hw : IntKind.i64.wrap (0 - q) = 0 - q := by rw [IntKind.wrap_i64]; omega
    clear e2 E
    go_enter Try.func41, Try.ntmps41
    go_wp2
    refine bodyPost_ret (by simp [results, Try.results41, asAddr, go_sem]; rfl) rfl ?_
    exact ⟨by rw [E2.out]; simp, rfl⟩
  · have e2 := E.out
    rw [if_neg h] at e2
    have E2 := Lib.hid e2
    have h0 : 0 ≤ q := by omega
    clear e2 E
    go_enter Try.func41, Try.ntmps41
    go_wp2
    refine bodyPost_ret (by simp [results, Try.results41, asAddr, go_sem]; rfl) rfl ?_
    exact ⟨by (first | (rw [E2.out]; done) | (rw [E2.out]; rfl)), rfl⟩
theorem around5 (n : Int) (w : World) : Calls Try.prog 41 #[.int .i64 n, .int .i64 5] w fun e w' => e = .returned (.int .i64 (arnd n 5 : Int)) ∧ w = w' := around_calls n 5 (by omega) (by omega) w
end Go.Proofs.Ytilbhnloelgpdaa
