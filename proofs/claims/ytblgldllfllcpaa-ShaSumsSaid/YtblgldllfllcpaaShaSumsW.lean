/- The walk of ShaSums: the sum of any text is the document's. -/
import Derived.Test.YtblgldllfllcpaaRSum
import Derived.Test.YtblgldllfllcpaaAwake
namespace Go.Proofs.Ytblgldllfllcpaa
open Go.RowKit
theorem three_below {w w1 w2 w3 : World} (h1 : Below w.heap.size w w1) (h2 : Below w1.heap.size w1 w2) (h3 : Below w2.heap.size w2 w3) : Below w.heap.size w w3 := below_next (below_next h1 h2) h3
theorem ShaSums_walk (s : ByteArray) (_hs : s.size ≤ 140737488351232) (w : World) :
    Calls Try.prog 3 #[.string s] w fun e w' => e = .returned (.bool true) ∧ Below w.heap.size w w' := by
  clear _hs
  by_cases h : 65536 < s.size
  · have hi : (65536 : Int) < (s.size : Int) := by omega
    have HE : Hid ((s.extract 0 65536).size ≤ 1099511627776) := Lib.hid (by rw [ByteArray.size_extract]; omega)
    have H1 := Lib.hid (fun w => ssum_calls (s.extract 0 65536) w HE.out)
    have H2 := Lib.hid (fun w => rsum_calls (s.extract 0 65536) w HE.out)
    generalize dig (s.extract 0 65536) = d at H1 H2
    clear HE
    go_enter Try.func3, Try.ntmps3
    go_wp2_with (first
      | (go_at_call 10; (with_reducible refine (H1.out _).mono ?_); rintro e w1 ⟨rfl, hb1⟩)
      | (go_at_call 11; (with_reducible refine (H2.out _).mono ?_); rintro e w2 ⟨rfl, hb2⟩)
      | (go_at_call 12; (with_reducible refine (awake_calls _).mono ?_); rintro e w3 ⟨rfl, hb3⟩))
    go_ret
    exact ⟨rfl, three_below hb1 hb2 hb3⟩
  · have hi : ¬ (65536 : Int) < (s.size : Int) := by omega
    have HE : Hid (s.size ≤ 1099511627776) := Lib.hid (by omega)
    have H1 := Lib.hid (fun w => ssum_calls s w HE.out)
    have H2 := Lib.hid (fun w => rsum_calls s w HE.out)
    generalize dig s = d at H1 H2
    clear HE
    go_enter Try.func3, Try.ntmps3
    go_wp2_with (first
      | (go_at_call 10; (with_reducible refine (H1.out _).mono ?_); rintro e w1 ⟨rfl, hb1⟩)
      | (go_at_call 11; (with_reducible refine (H2.out _).mono ?_); rintro e w2 ⟨rfl, hb2⟩)
      | (go_at_call 12; (with_reducible refine (awake_calls _).mono ?_); rintro e w3 ⟨rfl, hb3⟩))
    go_ret
    exact ⟨rfl, three_below hb1 hb2 hb3⟩
end Go.Proofs.Ytblgldllfllcpaa
