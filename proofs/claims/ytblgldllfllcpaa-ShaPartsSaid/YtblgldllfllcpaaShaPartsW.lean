/- The walk of ShaParts: however a text is cut, and whenever it is asked, the sum is that of all that was taken by then. -/
import Derived.Test.YtblgldllfllcpaaShaTwoW
namespace Go.Proofs.Ytblgldllfllcpaa
open Go.RowKit
set_option maxHeartbeats 4000000 in
theorem ShaParts_walk (w : World) (A : Option Addr) (n c : Nat) (ZA : Nat → ByteArray) (hZA : ∀ j, j < n → (ZA j).size ≤ 140737488351232) (_ : n ≤ c) (_ : c ≤ maxLen) (hRA : Row w A n (fun j => .string (ZA j))) :
    Calls Try.prog 4 #[.slice A n c] w fun e w' => e = .returned (.bool true) ∧ Below w.heap.size w w' := by
  have HRA := Lib.hid hRA
  replace hZA := Lib.hid hZA
  clear hRA
  have hd0 := dig_size ⟨#[]⟩
  obtain ⟨d0, hD0⟩ : ∃ d0, Hid (dig ⟨#[]⟩ = d0) := ⟨_, Lib.hid rfl⟩
  rw [hD0.out] at hd0
  go_enter Try.func4, Try.ntmps4
  go_wp2_with (first
    | (go_at_call 13; (with_reducible refine (One.new _).mono ?_); rintro e w1 ⟨g, rfl, h1⟩; have H1 := Lib.hid h1; clear h1)
    | (go_at_call 14; (with_reducible refine (H1.out.sum (by decide)).mono ?_); rintro e w1 ⟨rfl, h2⟩; rw [hD0.out]; have H2 := Lib.hid h2; clear h2))
  go_loopg [4, 5] 41 (fun gk s4 s5 wr => ∃ i s, gk = 41 - i ∧ i ≤ 40 ∧ s5 = .int .i64 (i : Int) ∧ s4 = .string s ∧ s.size ≤ 4096 ∧ Hid (One w wr g s))
  case atStart => exact ⟨0, _, rfl, by omega, rfl, rfl, by decide, H2⟩
  case round =>
    obtain ⟨i, s, rfl, hi, rfl, rfl, hs, HT⟩ := hrel
    have i0 : (0 : Int) ≤ (i : Int) := by omega
    by_cases hgo : i < n ∧ i < 40
    · obtain ⟨ha, hi40⟩ := hgo
      have i40 : (i : Int) < 40 := by omega
      obtain ⟨pa, oa, rfl, _⟩ := HRA.out.at_ ha
      have ca := row_cell HRA.out ha HT.out.all
      have xa := hZA.out i ha
      generalize ZA i = x at ca xa
      by_cases hbig : s.size + x.size ≤ 4096
      · have hb1 : ¬ (4096 : Int) < (s.size : Int) + (x.size : Int) := by omega
        obtain ⟨y, hy⟩ : ∃ y, Hid (s ++ x = y) := ⟨_, Lib.hid rfl⟩
        have hys : y.size ≤ 4096 := by rw [← hy.out, ByteArray.size_append]; exact hbig
        obtain ⟨d, hD⟩ : ∃ d, Hid (dig y = d) := ⟨_, Lib.hid rfl⟩
        go_wp2_with (first
          | (go_at_call 15; (with_reducible refine (HT.out.write x (by omega)).mono ?_); rintro e w1 ⟨rfl, ht⟩; rw [hy.out] at ht; have HT1 := Lib.hid ht; clear ht)
          | (go_at_call 14; (first | with_reducible refine (HT3.out.sum (by omega)).mono ?_ | with_reducible refine (HT1.out.sum (by omega)).mono ?_); rintro e w1 ⟨rfl, ht⟩; rw [hD.out]; (first | (have HT4 := Lib.hid ht; have _t := HT3) | have HT2 := Lib.hid ht); clear ht)
          | (go_at_call 11; rw [hy.out]; (with_reducible refine (HT2.out.rsum y (by omega)).mono ?_); rintro e w1 ⟨rfl, ht⟩; rw [hD.out]; have HT3 := Lib.hid ht; clear ht))
        all_goals
          go_roundg (41 - (i + 1))
          case measure => omega
          case rel => exact ⟨i + 1, y, rfl, by omega, by go_num, rfl, hys, HT4⟩
      · have hb1 : (4096 : Int) < (s.size : Int) + (x.size : Int) := by omega
        obtain ⟨k, hk⟩ : ∃ k : Nat, 4096 - (s.size : Int) = (k : Int) := ⟨4096 - s.size, by omega⟩
        have hk0 : (0 : Int) ≤ (k : Int) := by omega
        have hkx : (k : Int) ≤ (x.size : Int) := by omega
        have hkn : k ≤ x.size := by omega
        have hz : Hid ((x.extract 0 k).size = k) := Lib.hid (by rw [ByteArray.size_extract]; omega)
        obtain ⟨z, hzz⟩ : ∃ z, Hid (x.extract 0 k = z) := ⟨_, Lib.hid rfl⟩
        rw [hzz.out] at hz
        have hzs : z.size ≤ 4096 := by rw [hz.out]; omega
        obtain ⟨y, hy⟩ : ∃ y, Hid (s ++ z = y) := ⟨_, Lib.hid rfl⟩
        have hys : y.size ≤ 4096 := by rw [← hy.out, ByteArray.size_append, hz.out]; omega
        have hszz : s.size + z.size ≤ 4096 := by rw [hz.out]; omega
        obtain ⟨d, hD⟩ : ∃ d, Hid (dig y = d) := ⟨_, Lib.hid rfl⟩
        go_upto_region 11 with (fail)
        rw [hzz.out]
        clear hk
        go_wp2_with (first
          | (go_at_call 15; (with_reducible refine (HT.out.write z (by omega)).mono ?_); rintro e w1 ⟨rfl, ht⟩; rw [hy.out] at ht; have HT1 := Lib.hid ht; clear ht)
          | (go_at_call 14; (first | with_reducible refine (HT3.out.sum (by omega)).mono ?_ | with_reducible refine (HT1.out.sum (by omega)).mono ?_); rintro e w1 ⟨rfl, ht⟩; rw [hD.out]; (first | (have HT4 := Lib.hid ht; have _t := HT3) | have HT2 := Lib.hid ht); clear ht)
          | (go_at_call 11; rw [hy.out]; (with_reducible refine (HT2.out.rsum y (by omega)).mono ?_); rintro e w1 ⟨rfl, ht⟩; rw [hD.out]; have HT3 := Lib.hid ht; clear ht))
        all_goals
          go_roundg (41 - (i + 1))
          case measure => omega
          case rel => exact ⟨i + 1, y, rfl, by omega, by go_num, rfl, hys, HT4⟩
    · obtain ⟨d, hD⟩ : ∃ d, Hid (dig s = d) := ⟨_, Lib.hid rfl⟩
      by_cases ha : i < n
      · have hi40 : ¬ i < 40 := fun h => hgo ⟨ha, h⟩
        obtain rfl : i = 40 := by omega
        clear hgo
        go_wp2_with (first
          | (go_at_call 14; (with_reducible refine (HT.out.sum (by omega)).mono ?_); rintro e w1 ⟨rfl, ht⟩; rw [hD.out]; have HT1 := Lib.hid ht; clear ht)
          | (go_at_call 10; (with_reducible refine (HT1.out.ssum s (by omega)).mono ?_); rintro e w1 ⟨rfl, ht⟩; rw [hD.out]; have HT2 := Lib.hid ht; clear ht)
          | (go_at_call 12; (with_reducible refine (HT2.out.awake).mono ?_); rintro e w1 ⟨rfl, ht⟩; have HT3 := Lib.hid ht; clear ht))
        go_ret
        exact ⟨rfl, HT3.out.all⟩
      · clear hgo
        go_wp2_with (first
          | (go_at_call 14; (with_reducible refine (HT.out.sum (by omega)).mono ?_); rintro e w1 ⟨rfl, ht⟩; rw [hD.out]; have HT1 := Lib.hid ht; clear ht)
          | (go_at_call 10; (with_reducible refine (HT1.out.ssum s (by omega)).mono ?_); rintro e w1 ⟨rfl, ht⟩; rw [hD.out]; have HT2 := Lib.hid ht; clear ht)
          | (go_at_call 12; (with_reducible refine (HT2.out.awake).mono ?_); rintro e w1 ⟨rfl, ht⟩; have HT3 := Lib.hid ht; clear ht))
        go_ret
        exact ⟨rfl, HT3.out.all⟩
end Go.Proofs.Ytblgldllfllcpaa
