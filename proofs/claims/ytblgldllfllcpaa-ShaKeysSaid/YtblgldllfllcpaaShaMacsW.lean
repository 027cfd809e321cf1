/- The walk of ShaMacs: the HMAC of any text by any key is the document's. -/
import Derived.Test.YtblgldllfllcpaaRMac
namespace Go.Proofs.Ytblgldllfllcpaa
open Go.RowKit
def cutTo (s : ByteArray) (n : Nat) : ByteArray := if n < s.size then s.extract 0 n else s
theorem cutTo_size (s : ByteArray) (n : Nat) : (cutTo s n).size ≤ n := by
  unfold cutTo
  split
  · rw [ByteArray.size_extract]; omega
  · omega
set_option maxHeartbeats 1000000 in
theorem ShaMacs_walk (key : ByteArray) (_hk : key.size ≤ 140737488351232) (s : ByteArray) (_hs : s.size ≤ 140737488351232) (w : World) :
    Calls Try.prog 8 #[.string key, .string s] w fun e w' => e = .returned (.bool true) ∧ Below w.heap.size w w' := by
  clear _hk _hs
  obtain ⟨k, hk⟩ : ∃ k, Hid (cutTo key 16384 = k) := ⟨_, Lib.hid rfl⟩
  obtain ⟨t, ht⟩ : ∃ t, Hid (cutTo s 16384 = t) := ⟨_, Lib.hid rfl⟩
  have H1 := Lib.hid (fun w => smac_calls k t w (by have := cutTo_size key 16384; rw [hk.out] at this; omega) (by have := cutTo_size s 16384; rw [ht.out] at this; omega))
  have H2 := Lib.hid (fun w => rmac_calls k t w (by have := cutTo_size key 16384; rw [hk.out] at this; omega) (by have := cutTo_size s 16384; rw [ht.out] at this; omega))
  generalize mac k t = d at H1 H2
  by_cases h1 : 16384 < key.size
  all_goals by_cases h2 : 16384 < s.size
  all_goals
    have ek : Hid (cutTo key 16384 = k) := hk
    have et : Hid (cutTo s 16384 = t) := ht
    unfold cutTo at ek et
  · replace ek := ek.out
    replace et := et.out
    rw [if_pos h1] at ek
    rw [if_pos h2] at et
    have i1 : (16384 : Int) < (key.size : Int) := by omega
    have i2 : (16384 : Int) < (s.size : Int) := by omega
    replace ek := Lib.hid ek
    replace et := Lib.hid et
    clear hk ht
    go_enter Try.func8, Try.ntmps8
    go_upto_region 5 with (fail)
    rw [ek.out, et.out]
    go_wp2_with (first
      | (go_at_call 16; (with_reducible refine (H1.out _).mono ?_); rintro e w1 ⟨rfl, hb1⟩)
      | (go_at_call 17; (with_reducible refine (H2.out _).mono ?_); rintro e w2 ⟨rfl, hb2⟩)
      | (go_at_call 12; (with_reducible refine (awake_calls _).mono ?_); rintro e w3 ⟨rfl, hb3⟩))
    go_ret
    exact ⟨rfl, below_next (below_next hb1 hb2) hb3⟩
  · replace ek := ek.out
    replace et := et.out
    rw [if_pos h1] at ek
    rw [if_neg h2] at et
    have i1 : (16384 : Int) < (key.size : Int) := by omega
    have i2 : ¬ (16384 : Int) < (s.size : Int) := by omega
    replace ek := Lib.hid ek
    replace et := Lib.hid et
    clear hk ht
    go_enter Try.func8, Try.ntmps8
    go_upto_region 5 with (fail)
    rw [ek.out, et.out]
    go_wp2_with (first
      | (go_at_call 16; (with_reducible refine (H1.out _).mono ?_); rintro e w1 ⟨rfl, hb1⟩)
      | (go_at_call 17; (with_reducible refine (H2.out _).mono ?_); rintro e w2 ⟨rfl, hb2⟩)
      | (go_at_call 12; (with_reducible refine (awake_calls _).mono ?_); rintro e w3 ⟨rfl, hb3⟩))
    go_ret
    exact ⟨rfl, below_next (below_next hb1 hb2) hb3⟩
  · replace ek := ek.out
    replace et := et.out
    rw [if_neg h1] at ek
    rw [if_pos h2] at et
    have i1 : ¬ (16384 : Int) < (key.size : Int) := by omega
    have i2 : (16384 : Int) < (s.size : Int) := by omega
    replace ek := Lib.hid ek
    replace et := Lib.hid et
    clear hk ht
    go_enter Try.func8, Try.ntmps8
    go_upto_region 5 with (fail)
    rw [ek.out, et.out]
    go_wp2_with (first
      | (go_at_call 16; (with_reducible refine (H1.out _).mono ?_); rintro e w1 ⟨rfl, hb1⟩)
      | (go_at_call 17; (with_reducible refine (H2.out _).mono ?_); rintro e w2 ⟨rfl, hb2⟩)
      | (go_at_call 12; (with_reducible refine (awake_calls _).mono ?_); rintro e w3 ⟨rfl, hb3⟩))
    go_ret
    exact ⟨rfl, below_next (below_next hb1 hb2) hb3⟩
  · replace ek := ek.out
    replace et := et.out
    rw [if_neg h1] at ek
    rw [if_neg h2] at et
    have i1 : ¬ (16384 : Int) < (key.size : Int) := by omega
    have i2 : ¬ (16384 : Int) < (s.size : Int) := by omega
    replace ek := Lib.hid ek
    replace et := Lib.hid et
    clear hk ht
    go_enter Try.func8, Try.ntmps8
    go_upto_region 5 with (fail)
    rw [ek.out, et.out]
    go_wp2_with (first
      | (go_at_call 16; (with_reducible refine (H1.out _).mono ?_); rintro e w1 ⟨rfl, hb1⟩)
      | (go_at_call 17; (with_reducible refine (H2.out _).mono ?_); rintro e w2 ⟨rfl, hb2⟩)
      | (go_at_call 12; (with_reducible refine (awake_calls _).mono ?_); rintro e w3 ⟨rfl, hb3⟩))
    go_ret
    exact ⟨rfl, below_next (below_next hb1 hb2) hb3⟩
end Go.Proofs.Ytblgldllfllcpaa
