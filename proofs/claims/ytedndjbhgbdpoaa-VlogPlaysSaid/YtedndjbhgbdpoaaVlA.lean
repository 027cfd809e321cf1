/- The contracts of quorum, within, at. -/
import Derived.Test.YtedndjbhgbdpoaaVlM
namespace Go.Proofs.Ytedndjbhgbdpoaa
open Go.RowKit
section
variable {w : World} {g gm : Nat} {gv : Nat → Nat → Option Nat} {kv : Nat → Value} {l : Vl}
theorem quorum_calls (h : AtV w g gm gv kv l) :
    Calls Try.prog 42 #[.pointer (some ⟨g, 0, none⟩)] w fun e w' => e = .returned (.int .i64 l.quorum) ∧ ∃ d, w' = w.drewN d := by
  obtain ⟨c0, -, -, -⟩ := h.head
  have hn := h.ok.n
  have hq : Hid (l.quorum = l.n - (l.n - 1) / 3) := Lib.hid rfl
  rw [hq.out]
  clear hq h
  generalize l.n = n at c0 hn ⊢
  rcases hn with rfl | rfl | rfl | rfl <;>
  · go_enter Try.func42, Try.ntmps42
    go_wp2
    go_quiet (fail)
    go_wp2
    go_ret
    exact ⟨rfl, _, rfl⟩
theorem within_calls (h : AtV w g gm gv kv l) (seq : Int) :
    Calls Try.prog 34 #[.pointer (some ⟨g, 0, none⟩), .int .i64 seq] w fun e w' => e = .returned (.bool (decide (l.within seq))) ∧ w = w' := by
  obtain ⟨-, -, c2, -⟩ := h.head
  obtain ⟨h1, h2⟩ := h.ok.low
  have hq : Hid (l.within seq ↔ l.low < seq ∧ seq ≤ l.low + 8) := Lib.hid Iff.rfl
  clear h
  obtain ⟨x, hx⟩ : ∃ x, Hid (decide (l.within seq) = x) := ⟨_, Lib.hid rfl⟩
  rw [hx.out]
  generalize l.low = n at c2 h1 h2 hq
  by_cases a : n < seq
  · by_cases b : seq ≤ n + 8
    · have E : Hid (x = true) := Lib.hid (by rw [← hx.out]; exact decide_eq_true (hq.out.2 ⟨a, b⟩))
      go_enter Try.func34, Try.ntmps34
      go_wp2
      go_ret
      exact ⟨by rw [E.out]; rfl, rfl⟩
    · have E : Hid (x = false) := Lib.hid (by rw [← hx.out]; exact decide_eq_false fun hh => b (hq.out.1 hh).2)
      go_enter Try.func34, Try.ntmps34
      go_wp2
      go_ret
      exact ⟨by rw [E.out]; rfl, rfl⟩
  · have E : Hid (x = false) := Lib.hid (by rw [← hx.out]; exact decide_eq_false fun hh => a (hq.out.1 hh).1)
    go_enter Try.func34, Try.ntmps34
    go_wp2
    go_ret
    exact ⟨by rw [E.out]; rfl, rfl⟩
theorem at_calls (w : World) (g : Nat) (seq : Int) (h0 : 0 ≤ seq) :
    Calls Try.prog 35 #[.pointer (some ⟨g, 3, none⟩), .int .i64 seq] w fun e w' => e = .returned (.pointer (some ⟨g, 3 + ix seq * 13, none⟩)) ∧ w = w' := by
  have e1 : seq.tmod 8 = seq % 8 := Int.tmod_eq_emod_of_nonneg h0
  obtain ⟨k, hk⟩ : ∃ k, Hid (ix seq = k) := ⟨_, Lib.hid rfl⟩
  have e2 : Hid (seq % 8 = (k : Int)) := Lib.hid (by rw [← hk.out]; unfold ix; omega)
  have hk8 : k < 8 := by rw [← hk.out]; exact ix_lt seq
  rw [e2.out] at e1
  have k0 : (0 : Int) ≤ (k : Int) := by omega
  have k1 : (k : Int) < 8 := by omega
  rw [hk.out]
  go_enter Try.func35, Try.ntmps35
  go_wp2
  go_ret
  exact ⟨rfl, rfl⟩
end
end Go.Proofs.Ytedndjbhgbdpoaa
