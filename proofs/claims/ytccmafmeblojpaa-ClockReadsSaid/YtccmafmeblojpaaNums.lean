/- The contracts of numbers (two rows alike) and of the reference's Sum. -/
import Derived.Test.YtccmafmeblojpaaSale
namespace Go.Proofs.Ytccmafmeblojpaa
open Go.RowKit
def IRow (w : World) (A : Option Addr) (L : List Int) : Prop := Row w A L.length fun j => .int .i64 (L.getD j 0)
theorem IRow.cell {w : World} {b o : Nat} {L : List Int} (h : IRow w (some ⟨b, o, none⟩) L) {i : Nat} (hi : i < L.length) : w.cell? ⟨b, o + i, none⟩ = some (.int .i64 (L.getD i 0)) := by
  obtain ⟨b', o', e, h1, h2⟩ := Row.at_ h hi
  cases e; exact h2
theorem IRow.some {w : World} {A : Option Addr} {L : List Int} (h : IRow w A L) {i : Nat} (hi : i < L.length) : ∃ b o, A = some ⟨b, o, none⟩ := by
  obtain ⟨b, o, e, _⟩ := Row.at_ h hi
  exact ⟨b, o, e⟩
set_option maxHeartbeats 1000000 in
theorem numbers_same (w : World) (A B : Option Addr) (c d n : Nat) (L : List Int) (hn : L.length = n) (hm : n ≤ 1000000) (hA : IRow w A L) (hB : IRow w B L) :
    Calls Try.prog 15 #[.slice A n c, .slice B n d] w fun e w' => e = .returned (.bool true) ∧ ∃ k, w' = w.drewN k := by
  have HA := Lib.hid hA
  have HB := Lib.hid hB
  have HN := Lib.hid hn
  clear hA hB hn
  go_enter Try.func15, Try.ntmps15
  go_wp2
  go_loopg [5] (n + 1) (fun gk s5 wr => ∃ i, gk = n + 1 - i ∧ i ≤ n ∧ s5 = .int .i64 (i : Int) ∧ Hid (∃ k, wr = w.drewN k))
  case atStart => exact ⟨0, rfl, Nat.zero_le _, rfl, Lib.hid ⟨0, rfl⟩⟩
  case round =>
    obtain ⟨i, rfl, hi, rfl, hw⟩ := hrel
    have i0 : (0 : Int) ≤ (i : Int) := by omega
    by_cases hlt : i < n
    · have hltI : (i : Int) < (n : Int) := by omega
      obtain ⟨ba, oa, rfl⟩ := HA.out.some (i := i) (by rw [HN.out]; exact hlt)
      obtain ⟨bb, ob, rfl⟩ := HB.out.some (i := i) (by rw [HN.out]; exact hlt)
      have c1 : wr.cell? ⟨ba, oa + i, none⟩ = some (.int .i64 (L.getD i 0)) := by
        obtain ⟨k, rfl⟩ := hw.out
        exact HA.out.cell (by rw [HN.out]; exact hlt)
      have c2 : wr.cell? ⟨bb, ob + i, none⟩ = some (.int .i64 (L.getD i 0)) := by
        obtain ⟨k, rfl⟩ := hw.out
        exact HB.out.cell (by rw [HN.out]; exact hlt)
      generalize L.getD i 0 = y at c1 c2
      go_wp2
      go_quiet (fail)
      go_wp2
      go_roundg (n + 1 - (i + 1))
      case measure => omega
      case rel => exact ⟨i + 1, rfl, by omega, by go_num, Lib.hid (by obtain ⟨k, rfl⟩ := hw.out; exact ⟨_, World.drewN_drewN _ _ _⟩)⟩
    · obtain rfl : i = n := by omega
      go_wp2
      go_ret
      exact ⟨rfl, hw.out⟩
set_option maxHeartbeats 1000000 in
theorem refsum_calls (w : World) (A : Option Addr) (c n : Nat) (L : List Int) (hn : L.length = n) (hm : n ≤ 64) (hb : ∀ g ∈ L, 0 ≤ g ∧ g ≤ 1048576) (hA : IRow w A L) :
    Calls Try.prog 16 #[.slice A n c] w fun e w' => e = .returned (.int .i64 L.sum) ∧ ∃ k, w' = w.drewN k := by
  have HA := Lib.hid hA
  have HN := Lib.hid hn
  have HBd := Lib.hid hb
  clear hA hn hb
  go_enter Try.func16, Try.ntmps16
  go_wp2
  go_loopg [3, 4] (n + 1) (fun gk s3 s4 wr => ∃ i, gk = n + 1 - i ∧ i ≤ n ∧ s4 = .int .i64 (i : Int) ∧ s3 = .int .i64 ((L.take i).sum) ∧ Hid (∃ k, wr = w.drewN k))
  case atStart => exact ⟨0, rfl, Nat.zero_le _, rfl, rfl, Lib.hid ⟨0, rfl⟩⟩
  case round =>
    obtain ⟨i, rfl, hi, rfl, rfl, hw⟩ := hrel
    have i0 : (0 : Int) ≤ (i : Int) := by omega
    by_cases hlt : i < n
    · have hltI : (i : Int) < (n : Int) := by omega
      have hl : i < L.length := by rw [HN.out]; exact hlt
      obtain ⟨ba, oa, rfl⟩ := HA.out.some hl
      have c1 : wr.cell? ⟨ba, oa + i, none⟩ = some (.int .i64 (L.getD i 0)) := by
        obtain ⟨k, rfl⟩ := hw.out
        exact HA.out.cell hl
      have hsn : Hid ((L.take (i + 1)).sum = (L.take i).sum + L.getD i 0) := Lib.hid (Sh.sum_take L hl)
      obtain ⟨b0, b1⟩ := Sh.sum_bound (l := L.take i) fun g hg => HBd.out g (List.mem_of_mem_take hg)
      have hbl : (L.take i).length ≤ 64 := by rw [List.length_take]; omega
      have hy := HBd.out (L.getD i 0) (by rw [List.getD_eq_getElem?_getD, List.getElem?_eq_getElem hl]; exact List.getElem_mem hl)
      obtain ⟨y0, y1⟩ := hy
      have b2 : (L.take i).sum ≤ 67108864 := by omega
      generalize L.getD i 0 = y at c1 hsn y0 y1
      clear b1 hbl hl
      go_wp2
      go_roundg (n + 1 - (i + 1))
      case measure => omega
      case rel => exact ⟨i + 1, rfl, by omega, by go_num, by rw [hsn.out], hw⟩
    · obtain rfl : i = n := by omega
      go_wp2
      go_ret
      exact ⟨ret_i (by rw [List.take_of_length_le (by rw [HN.out]; exact Nat.le_refl _)]), hw.out⟩
end Go.Proofs.Ytccmafmeblojpaa
