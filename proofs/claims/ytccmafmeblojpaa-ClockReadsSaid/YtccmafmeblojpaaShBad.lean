/- Shares refuses: a gap that may not be, too many gaps, or a number that may not be. -/
import Derived.Test.YtccmafmeblojpaaNums
namespace Go.Proofs.Ytccmafmeblojpaa
open Go.RowKit
set_option maxHeartbeats 1000000 in
/-- More gaps than may be: whatever they are. -/
theorem shares_many (w : World) (m : Int) (A : Option Addr) (c n : Nat) (L : List Int) (hn : L.length = n) (hm : 16 < n) (hmx : n ≤ 140737488351232) (hA : IRow w A L) :
    Calls Try.prog 12 #[.int .i64 m, .slice A n c] w fun e w' => e = .returned (.tuple #[.slice none 0 0, .int .i64 1]) ∧ w' = w := by
  have HA := Lib.hid hA
  have HN := Lib.hid hn
  clear hA hn
  have hmI : (16 : Int) < (n : Int) := by omega
  go_enter Try.func12, Try.ntmps12
  go_wp2
  go_loopg [6, 17] (n + 1) (fun gk s6 s17 wr => ∃ (i : Nat) (x : Int), gk = n + 1 - i ∧ i ≤ n ∧ s17 = .int .i64 (i : Int) ∧ s6 = .int .i64 x ∧ Hid (wr = w))
  case atStart => exact ⟨0, 0, rfl, Nat.zero_le _, rfl, rfl, Lib.hid rfl⟩
  case round =>
    obtain ⟨i, x, rfl, hi, rfl, rfl, hw⟩ := hrel
    have i0 : (0 : Int) ≤ (i : Int) := by omega
    by_cases hlt : i < n
    · have hltI : (i : Int) < (n : Int) := by omega
      have hl : i < L.length := by rw [HN.out]; exact hlt
      obtain ⟨ba, oa, rfl⟩ := HA.out.some hl
      have c1 : wr.cell? ⟨ba, oa + i, none⟩ = some (.int .i64 (L.getD i 0)) := by
        rw [hw.out]
        exact HA.out.cell hl
      generalize L.getD i 0 = y at c1
      clear hl
      by_cases hb0 : y < 0
      · go_wp2
        go_ret2
        exact ⟨rfl, hw.out⟩
      · have hb1 : 0 ≤ y := by omega
        by_cases hb2 : 1048576 < y
        · go_wp2
          go_ret2
          exact ⟨rfl, hw.out⟩
        · have hb3 : y ≤ 1048576 := by omega
          go_wp2
          go_roundg (n + 1 - (i + 1))
          case measure => omega
          case rel => exact ⟨i + 1, _, rfl, by omega, by go_num, rfl, hw⟩
    · obtain rfl : i = n := by omega
      go_wp2
      go_ret2
      exact ⟨rfl, hw.out⟩
set_option maxHeartbeats 1000000 in
/-- No more gaps than may be. -/
theorem shares_few (w : World) (m : Int) (A : Option Addr) (c n : Nat) (L : List Int) (hn : L.length = n) (hm : n ≤ 16) (hA : IRow w A L) (hbad : (∃ g ∈ L, g < 0 ∨ 1048576 < g) ∨ m < 0 ∨ 1048576 < m ∨ L.sum < m) :
    Calls Try.prog 12 #[.int .i64 m, .slice A n c] w fun e w' => e = .returned (.tuple #[.slice none 0 0, .int .i64 1]) ∧ w' = w := by
  have HA := Lib.hid hA
  have HN := Lib.hid hn
  have HBad := Lib.hid hbad
  clear hA hn hbad
  have hmI : ¬ (16 : Int) < (n : Int) := by omega
  go_enter Try.func12, Try.ntmps12
  go_wp2
  go_loopg [6, 17] (n + 1) (fun gk s6 s17 wr => ∃ i : Nat, gk = n + 1 - i ∧ i ≤ n ∧ s17 = .int .i64 (i : Int) ∧ s6 = .int .i64 ((L.take i).sum) ∧ Hid (wr = w) ∧ Hid (∀ g ∈ L.take i, 0 ≤ g ∧ g ≤ 1048576))
  case atStart => exact ⟨0, rfl, Nat.zero_le _, rfl, rfl, Lib.hid rfl, Lib.hid (by simp)⟩
  case round =>
    obtain ⟨i, rfl, hi, rfl, rfl, hw, hok⟩ := hrel
    have i0 : (0 : Int) ≤ (i : Int) := by omega
    obtain ⟨b0, b1⟩ := Sh.sum_bound hok.out
    have hbl : (L.take i).length ≤ 16 := by rw [List.length_take]; omega
    have b2 : (L.take i).sum ≤ 16777216 := by omega
    clear b1 hbl
    by_cases hlt : i < n
    · have hltI : (i : Int) < (n : Int) := by omega
      have hl : i < L.length := by rw [HN.out]; exact hlt
      obtain ⟨ba, oa, rfl⟩ := HA.out.some hl
      have c1 : wr.cell? ⟨ba, oa + i, none⟩ = some (.int .i64 (L.getD i 0)) := by
        rw [hw.out]
        exact HA.out.cell hl
      have hsn : Hid ((L.take (i + 1)).sum = (L.take i).sum + L.getD i 0) := Lib.hid (Sh.sum_take L hl)
      have htk : Hid (L.take (i + 1) = L.take i ++ [L.getD i 0]) := Lib.hid (by
        rw [List.take_add_one, List.getD_eq_getElem?_getD, List.getElem?_eq_getElem hl]; rfl)
      generalize L.getD i 0 = y at c1 hsn htk
      clear hl
      by_cases hb0 : y < 0
      · go_wp2
        go_ret2
        exact ⟨rfl, hw.out⟩
      · have hb1 : 0 ≤ y := by omega
        by_cases hb2 : 1048576 < y
        · go_wp2
          go_ret2
          exact ⟨rfl, hw.out⟩
        · have hb3 : y ≤ 1048576 := by omega
          go_wp2
          go_roundg (n + 1 - (i + 1))
          case measure => omega
          case rel =>
            refine ⟨i + 1, rfl, by omega, by go_num, by rw [hsn.out], hw, Lib.hid fun g hg => ?_⟩
            rw [htk.out, List.mem_append, List.mem_singleton] at hg
            rcases hg with hg | rfl
            · exact hok.out g hg
            · exact ⟨hb1, hb3⟩
    · obtain rfl : i = n := by omega
      have htl : Hid (L.take i = L) := Lib.hid (List.take_of_length_le (by rw [HN.out]; exact Nat.le_refl _))
      have hrest : m < 0 ∨ ¬ m < 0 ∧ 1048576 < m ∨ ¬ m < 0 ∧ m ≤ 1048576 ∧ (L.take i).sum < m := by
        rcases HBad.out with ⟨g, hg, hb⟩ | h
        · have := hok.out g (by rw [htl.out]; exact hg)
          omega
        · rw [htl.out]; omega
      rcases hrest with h1 | ⟨h1, h2⟩ | ⟨h1, h2, h3⟩
      · go_wp2
        go_ret2
        exact ⟨rfl, hw.out⟩
      · have h1' : 0 ≤ m := by omega
        go_wp2
        go_ret2
        exact ⟨rfl, hw.out⟩
      · have h1' : 0 ≤ m := by omega
        go_wp2
        go_ret2
        exact ⟨rfl, hw.out⟩
end Go.Proofs.Ytccmafmeblojpaa
