/- The walk of ShaTwo: two hashes that take their bytes in turn know nothing of each other. -/
import Derived.Test.YtblgldllfllcpaaTwo
import Derived.Test.YtblgldllfllcpaaTexts
namespace Go.Proofs.Ytblgldllfllcpaa
open Go.RowKit
theorem row_cell {w w' : World} {A : Option Addr} {n i b o : Nat} {f : Nat → Value} (h : Row w A n f) (hi : i < n) (hb : Below w.heap.size w w') (hA : A = some ⟨b, o, none⟩ := by rfl) : w'.cell? ⟨b, o + i, none⟩ = some (f i) := by
  obtain ⟨b', o', e, h1, h2⟩ := h.at_ hi
  rw [hA] at e
  cases e
  exact (below_cell hb h1).trans h2
set_option maxHeartbeats 4000000 in
theorem ShaTwo_walk (w : World) (A : Option Addr) (n c : Nat) (ZA : Nat → ByteArray) (hZA : ∀ j, j < n → (ZA j).size ≤ 140737488351232) (_ : n ≤ c) (_ : c ≤ maxLen) (hRA : Row w A n (fun j => .string (ZA j)))
    (B : Option Addr) (m d : Nat) (ZB : Nat → ByteArray) (hZB : ∀ j, j < m → (ZB j).size ≤ 140737488351232) (_ : m ≤ d) (_ : d ≤ maxLen) (hRB : Row w B m (fun j => .string (ZB j))) :
    Calls Try.prog 5 #[.slice A n c, .slice B m d] w fun e w' => e = .returned (.bool true) ∧ Below w.heap.size w w' := by
  have HRA := Lib.hid hRA
  have HRB := Lib.hid hRB
  replace hZA := Lib.hid hZA
  replace hZB := Lib.hid hZB
  clear hRA hRB
  go_enter Try.func5, Try.ntmps5
  go_wp2_with (first
    | (go_at_call 13; (first | with_reducible refine (Two.second H1.out).mono ?_ | with_reducible refine (One.new _).mono ?_); (first | (rintro e w2 ⟨k, rfl, h2⟩; have H2 := Lib.hid h2; clear h2; have _tok : Hid (Two _ _ _ _ _ _) := H2) | (rintro e w1 ⟨g, rfl, h1⟩; have H1 := Lib.hid h1; clear h1; have _tok : Hid (One _ _ _ _) := H1))))
  go_loopg [7, 8, 9] 31 (fun gk s7 s8 s9 wr => ∃ i s t, gk = 31 - i ∧ i ≤ 30 ∧ s9 = .int .i64 (i : Int) ∧ s7 = .string s ∧ s8 = .string t ∧ s.size ≤ 2048 ∧ t.size ≤ 2048 ∧ Hid (Two w wr g k s t))
  case atStart => exact ⟨0, _, _, rfl, by omega, rfl, rfl, rfl, by decide, by decide, H2⟩
  case round =>
    obtain ⟨i, s, t, rfl, hi, rfl, rfl, rfl, hs, ht, HT⟩ := hrel
    by_cases hi30 : i < 30
    · have i30 : (i : Int) < 30 := by omega
      have i0 : (0 : Int) ≤ (i : Int) := by omega
      by_cases ha : i < n
      · by_cases hb : i < m
        · obtain ⟨pa, oa, rfl, _⟩ := HRA.out.at_ ha
          have HA := Lib.hid (fun w' (hb' : Below w.heap.size w w') => row_cell HRA.out ha hb')
          have xa := hZA.out i ha
          have ca := HA.out wr HT.out.all
          generalize ZA i = x at HA xa ca
          obtain ⟨pb, ob, rfl, _⟩ := HRB.out.at_ hb
          have HB := Lib.hid (fun w' (hb' : Below w.heap.size w w') => row_cell HRB.out hb hb')
          have xb := hZB.out i hb
          have cb := HB.out wr HT.out.all
          generalize ZB i = y at HB xb cb
          go_wp2_with (first | (go_at_call 15; (first | with_reducible refine (HT1.out.write2 _ (by omega)).mono ?_ | with_reducible refine (HT.out.write _ (by omega)).mono ?_ | with_reducible refine (HT.out.write2 _ (by omega)).mono ?_); rintro e w1 ⟨rfl, ht⟩; have ca1 := HA.out _ ht.all; have cb1 := HB.out _ ht.all; have HT1 := Lib.hid ht; clear ht))
          all_goals
            go_roundg (31 - (i + 1))
            case measure => omega
            case rel => exact ⟨i + 1, _, _, rfl, by omega, by go_num, rfl, rfl, by first | exact hs | (rw [ByteArray.size_append]; omega), by first | exact ht | (rw [ByteArray.size_append]; omega), by first | exact HT2 | exact HT1 | exact HT⟩
        · obtain ⟨pa, oa, rfl, _⟩ := HRA.out.at_ ha
          have HA := Lib.hid (fun w' (hb' : Below w.heap.size w w') => row_cell HRA.out ha hb')
          have xa := hZA.out i ha
          have ca := HA.out wr HT.out.all
          generalize ZA i = x at HA xa ca
          go_wp2_with (first | (go_at_call 15; (first | with_reducible refine (HT1.out.write2 _ (by omega)).mono ?_ | with_reducible refine (HT.out.write _ (by omega)).mono ?_ | with_reducible refine (HT.out.write2 _ (by omega)).mono ?_); rintro e w1 ⟨rfl, ht⟩; have ca1 := HA.out _ ht.all; have HT1 := Lib.hid ht; clear ht))
          all_goals
            go_roundg (31 - (i + 1))
            case measure => omega
            case rel => exact ⟨i + 1, _, _, rfl, by omega, by go_num, rfl, rfl, by first | exact hs | (rw [ByteArray.size_append]; omega), by first | exact ht | (rw [ByteArray.size_append]; omega), by first | exact HT2 | exact HT1 | exact HT⟩
      · by_cases hb : i < m
        · obtain ⟨pb, ob, rfl, _⟩ := HRB.out.at_ hb
          have HB := Lib.hid (fun w' (hb' : Below w.heap.size w w') => row_cell HRB.out hb hb')
          have xb := hZB.out i hb
          have cb := HB.out wr HT.out.all
          generalize ZB i = y at HB xb cb
          go_wp2_with (first | (go_at_call 15; (first | with_reducible refine (HT1.out.write2 _ (by omega)).mono ?_ | with_reducible refine (HT.out.write _ (by omega)).mono ?_ | with_reducible refine (HT.out.write2 _ (by omega)).mono ?_); rintro e w1 ⟨rfl, ht⟩; have cb1 := HB.out _ ht.all; have HT1 := Lib.hid ht; clear ht))
          all_goals
            go_roundg (31 - (i + 1))
            case measure => omega
            case rel => exact ⟨i + 1, _, _, rfl, by omega, by go_num, rfl, rfl, by first | exact hs | (rw [ByteArray.size_append]; omega), by first | exact ht | (rw [ByteArray.size_append]; omega), by first | exact HT2 | exact HT1 | exact HT⟩
        · go_wp2_with (first | (go_at_call 15; (first | with_reducible refine (HT1.out.write2 _ (by omega)).mono ?_ | with_reducible refine (HT.out.write _ (by omega)).mono ?_ | with_reducible refine (HT.out.write2 _ (by omega)).mono ?_); rintro e w1 ⟨rfl, ht⟩; have HT1 := Lib.hid ht; clear ht))
          all_goals
            go_roundg (31 - (i + 1))
            case measure => omega
            case rel => exact ⟨i + 1, _, _, rfl, by omega, by go_num, rfl, rfl, by first | exact hs | (rw [ByteArray.size_append]; omega), by first | exact ht | (rw [ByteArray.size_append]; omega), by first | exact HT2 | exact HT1 | exact HT⟩
    · obtain rfl : i = 30 := by omega
      go_wp2_with (first
        | (go_at_call 14; (first | with_reducible refine (HQ2.out.sum2 (by omega)).mono ?_ | with_reducible refine (HT.out.sum (by omega)).mono ?_); rintro e w1 ⟨rfl, hq⟩; first | (have HQ3 := Lib.hid hq; have _t := HQ2) | have HQ1 := Lib.hid hq)
        | (go_at_call 11; (first | with_reducible refine (HQ3.out.rsum _ (by omega)).mono ?_ | with_reducible refine (HQ1.out.rsum _ (by omega)).mono ?_); rintro e w1 ⟨rfl, hq⟩; first | (have HQ4 := Lib.hid hq; have _t := HQ3) | have HQ2 := Lib.hid hq)
        | (go_at_call 12; (with_reducible refine (HQ4.out.awake).mono ?_); rintro e w1 ⟨rfl, hq⟩; have HQ5 := Lib.hid hq))
      go_ret
      exact ⟨rfl, HQ5.out.all⟩
end Go.Proofs.Ytblgldllfllcpaa
