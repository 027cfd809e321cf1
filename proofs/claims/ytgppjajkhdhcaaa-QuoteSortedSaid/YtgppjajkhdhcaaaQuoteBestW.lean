/- The walk of QuoteBest: the lowest and the highest of any floats are those of the ones that are numbers. -/
import Derived.Test.YtgppjajkhdhcaaaBest
namespace Go.Proofs.Ytgppjajkhdhcaaa
open Go.RowKit
/-- The first k of floats that came in. -/
def told (Z : Nat → Nat) (k : Nat) : List Nat := (List.range k).map Z
theorem told_length (Z : Nat → Nat) (k : Nat) : (told Z k).length = k := by simp [told]
theorem told_bound {Z : Nat → Nat} {n k : Nat} (h : ∀ j, j < n → Z j < 18446744073709551616) (hk : k ≤ n) : ∀ x ∈ told Z k, x < 18446744073709551616 := fun x hx => by
  obtain ⟨j, hj, rfl⟩ := List.mem_map.1 hx
  exact h j (by have := List.mem_range.1 hj; omega)
theorem told_row {w : World} {A : Option Addr} {n k : Nat} {Z : Nat → Nat} (h : Row w A n fun j => .float .f64 (Z j)) (hk : k ≤ n) : FRow w A (told Z k) := by
  unfold FRow
  rw [told_length]
  rcases h with h | ⟨b, o, h1, h2, h3⟩
  · exact .inl (by omega)
  · refine .inr ⟨b, o, h1, h2, fun j hj => ?_⟩
    rw [h3 j (by omega)]
    unfold told
    simp [List.getD_eq_getElem?_getD, hj]
set_option maxHeartbeats 4000000 in
theorem QuoteBest_walk (w : World) (A : Option Addr) (n c : Nat) (Z : Nat → Nat) (hZ : ∀ j, j < n → Z j < 18446744073709551616) (hnc : n ≤ c) (hcm : c ≤ maxLen) (hA : Row w A n fun j => .float .f64 (Z j)) :
    Calls Try.prog 4 #[.slice A n c] w fun e w' => e = .returned (.bool true) ∧ Below w.heap.size w w' := by
  obtain ⟨k, hk⟩ : ∃ k, (300 < n ∧ k = 300) ∨ (n ≤ 300 ∧ k = n) := by
    by_cases h : 300 < n
    · exact ⟨300, .inl ⟨h, rfl⟩⟩
    · exact ⟨n, .inr ⟨by omega, rfl⟩⟩
  have hkn : k ≤ n := by omega
  have hk300 : k ≤ 300 := by omega
  have hF := told_row hA hkn
  have hB := told_bound hZ hkn
  have hL := told_length Z k
  obtain ⟨L, hLe⟩ : ∃ L, told Z k = L := ⟨_, rfl⟩
  rw [hLe] at hF hB hL
  have hA0 : Hid (300 < n → ∃ b o, A = some ⟨b, o, none⟩) := Lib.hid fun h => by
    obtain ⟨b, o, e, _⟩ := Row.at_ hA (k := 0) (by omega)
    exact ⟨b, o, e⟩
  have HM := Lib.hid hcm
  have hpl : (Fl.srt (Fl.nums L)).length = (Fl.nums L).length := Fl.srt_length _
  have HAl := Lib.hid (fun (x : Nat) w => alike_calls x x w true (Lib.hid (by simp)))
  have hRN := Lib.hid (fun w1 (hb : Below w.heap.size w w1) => refnums_calls w1 A c k L hL hk300 hB (hF.below hb))
  have hml := Fl.nums_length L
  by_cases hm0 : (Fl.nums L).length = 0
  · have hBN := Lib.hid (fun w1 (hb : Below w.heap.size w w1) high => best_none w1 A c k L hL hk300 hB (hF.below hb) hm0 high)
    rw [hm0] at hRN
    have he : (FloatKind.f64.format.order 0 0 == some .eq) = true := by decide +kernel
    clear hA hZ hLe hB hF hpl hm0 hml hcm hkn hL
    rcases hk with ⟨h, rfl⟩ | ⟨h, rfl⟩
    · obtain ⟨b, o, rfl⟩ := hA0.out h
      have hI : (300 : Int) < (n : Int) := by omega
      have hI2 : (300 : Int) ≤ (c : Int) := by omega
      go_enter Try.func4, Try.ntmps4
      go_upto_region 4 with (first | (go_at_call 10; (with_reducible refine (hBN.out _ (Below.refl _ _) _).mono ?_); rintro e w1 ⟨rfl, hb1⟩))
      replace hb1 := Lib.hid hb1
      go_upto_region 5 with (first | (go_at_call 10; (with_reducible refine (hBN.out _ hb1.out _).mono ?_); rintro e w2 ⟨rfl, hb2⟩))
      replace hb2 : Hid (Below w.heap.size w w2) := Lib.hid (hb1.out.trans (hb2.mono hb1.out.size))
      go_upto_region 6 with (first | (go_at_call 11; (with_reducible refine (hRN.out _ hb2.out).mono ?_); rintro e w3 ⟨B, d, rfl, h3, hb3⟩))
      replace hb3 : Hid (Below w.heap.size w w3) := Lib.hid (hb2.out.trans (hb3.mono hb2.out.size))
      clear hb1 hb2 h3 hBN hRN HAl
      go_wp2_with (first | (go_at_call 9; (with_reducible refine (awake_calls _).mono ?_); rintro e w4 ⟨rfl, nd, rfl⟩))
      go_ret
      exact ⟨rfl, below_draw hb3.out _⟩
    · have hI : (k : Int) ≤ 300 := by omega
      go_enter Try.func4, Try.ntmps4
      go_upto_region 4 with (first | (go_at_call 10; (with_reducible refine (hBN.out _ (Below.refl _ _) _).mono ?_); rintro e w1 ⟨rfl, hb1⟩))
      replace hb1 := Lib.hid hb1
      go_upto_region 5 with (first | (go_at_call 10; (with_reducible refine (hBN.out _ hb1.out _).mono ?_); rintro e w2 ⟨rfl, hb2⟩))
      replace hb2 : Hid (Below w.heap.size w w2) := Lib.hid (hb1.out.trans (hb2.mono hb1.out.size))
      go_upto_region 6 with (first | (go_at_call 11; (with_reducible refine (hRN.out _ hb2.out).mono ?_); rintro e w3 ⟨B, d, rfl, h3, hb3⟩))
      replace hb3 : Hid (Below w.heap.size w w3) := Lib.hid (hb2.out.trans (hb3.mono hb2.out.size))
      clear hb1 hb2 h3 hBN hRN HAl
      go_wp2_with (first | (go_at_call 9; (with_reducible refine (awake_calls _).mono ?_); rintro e w4 ⟨rfl, nd, rfl⟩))
      go_ret
      exact ⟨rfl, below_draw hb3.out _⟩
  · have hBT := Lib.hid (fun w1 (hb : Below w.heap.size w w1) => best_some w1 A c k L hL hk300 hB (hF.below hb) hm0 true)
    have hBF := Lib.hid (fun w1 (hb : Below w.heap.size w w1) => best_some w1 A c k L hL hk300 hB (hF.below hb) hm0 false)
    simp only [if_true, Bool.false_eq_true, if_false] at hBT hBF
    obtain ⟨S, hS⟩ : ∃ S, Fl.srt (Fl.nums L) = S := ⟨_, rfl⟩
    obtain ⟨m, hmm⟩ : ∃ m, (Fl.nums L).length = m := ⟨_, rfl⟩
    rw [hS, hmm] at hRN hpl hBT
    rw [hS] at hBF
    rw [hmm] at hm0 hml
    have hcell : Hid (∀ w1 B, FRow w1 B S → ∃ b o, B = some ⟨b, o, none⟩ ∧ w1.cell? ⟨b, o, none⟩ = some (.float .f64 (S.getD 0 0)) ∧ w1.cell? ⟨b, o + (m - 1), none⟩ = some (.float .f64 (S.getD (m - 1) 0))) := Lib.hid fun w1 B h => by
      obtain ⟨b, o, rfl⟩ := h.some (i := 0) (by rw [hpl]; omega)
      exact ⟨b, o, rfl, h.cell (i := 0) (by rw [hpl]; omega), h.cell (by rw [hpl]; omega)⟩
    generalize S.getD 0 0 = lo at hcell hBF
    generalize S.getD (m - 1) 0 = hi at hcell hBT
    have hmI : ((m : Int) == 0) = false := by simpa using hm0
    have hm2 : ¬ ((m : Int) = 0) := by omega
    have hm3 : (0 : Int) < (m : Int) := by omega
    have hp : (0 : Int) ≤ (m : Int) - 1 := by omega
    have hp2 : (m : Int) - 1 < (m : Int) := by omega
    have hp3 : ((m : Int) - 1).toNat = m - 1 := by omega
    have hp4 : IntKind.i64.wrap ((m : Int) - 1) = (m : Int) - 1 := by rw [IntKind.wrap_i64]; omega
    have hp5 : (1 : Int) ≤ (m : Int) := by omega
    clear hA hZ hLe hB hF hpl hm0 hml hcm hkn hL hS hmm
    rcases hk with ⟨h, rfl⟩ | ⟨h, rfl⟩
    · obtain ⟨b, o, rfl⟩ := hA0.out h
      have hI : (300 : Int) < (n : Int) := by omega
      have hI2 : (300 : Int) ≤ (c : Int) := by omega
      go_enter Try.func4, Try.ntmps4
      go_upto_region 4 with (first | (go_at_call 10; (with_reducible refine (hBF.out _ (Below.refl _ _)).mono ?_); rintro e w1 ⟨rfl, hb1⟩))
      replace hb1 := Lib.hid hb1
      go_upto_region 5 with (first | (go_at_call 10; (with_reducible refine (hBT.out _ hb1.out).mono ?_); rintro e w2 ⟨rfl, hb2⟩))
      replace hb2 : Hid (Below w.heap.size w w2) := Lib.hid (hb1.out.trans (hb2.mono hb1.out.size))
      go_upto_region 6 with (first | (go_at_call 11; (with_reducible refine (hRN.out _ hb2.out).mono ?_); rintro e w3 ⟨B, d, rfl, h3, hb3⟩))
      replace hb3 : Hid (Below w.heap.size w w3) := Lib.hid (hb2.out.trans (hb3.mono hb2.out.size))
      obtain ⟨bb, oo, rfl, c1, c2⟩ := hcell.out _ _ h3.frow
      clear hb1 hb2 h3 hBF hBT hRN hcell
      go_wp2_with (first
        | (go_at_call 8; (with_reducible refine (HAl.out _ _).mono ?_); rintro e w4 ⟨rfl, rfl⟩)
        | (go_at_call 9; (with_reducible refine (awake_calls _).mono ?_); rintro e w4 ⟨rfl, nd, rfl⟩))
      go_ret
      exact ⟨rfl, below_draw hb3.out _⟩
    · have hI : (k : Int) ≤ 300 := by omega
      go_enter Try.func4, Try.ntmps4
      go_upto_region 4 with (first | (go_at_call 10; (with_reducible refine (hBF.out _ (Below.refl _ _)).mono ?_); rintro e w1 ⟨rfl, hb1⟩))
      replace hb1 := Lib.hid hb1
      go_upto_region 5 with (first | (go_at_call 10; (with_reducible refine (hBT.out _ hb1.out).mono ?_); rintro e w2 ⟨rfl, hb2⟩))
      replace hb2 : Hid (Below w.heap.size w w2) := Lib.hid (hb1.out.trans (hb2.mono hb1.out.size))
      go_upto_region 6 with (first | (go_at_call 11; (with_reducible refine (hRN.out _ hb2.out).mono ?_); rintro e w3 ⟨B, d, rfl, h3, hb3⟩))
      replace hb3 : Hid (Below w.heap.size w w3) := Lib.hid (hb2.out.trans (hb3.mono hb2.out.size))
      obtain ⟨bb, oo, rfl, c1, c2⟩ := hcell.out _ _ h3.frow
      clear hb1 hb2 h3 hBF hBT hRN hcell
      go_wp2_with (first
        | (go_at_call 8; (with_reducible refine (HAl.out _ _).mono ?_); rintro e w4 ⟨rfl, rfl⟩)
        | (go_at_call 9; (with_reducible refine (awake_calls _).mono ?_); rintro e w4 ⟨rfl, nd, rfl⟩))
      go_ret
      exact ⟨rfl, below_draw hb3.out _⟩
end Go.Proofs.Ytgppjajkhdhcaaa
