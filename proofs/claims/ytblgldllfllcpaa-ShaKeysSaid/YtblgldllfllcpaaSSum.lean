/- The contract of Sum of a text: New, Write, Sum. -/
import Derived.Test.YtblgldllfllcpaaHSum
namespace Go.Proofs.Ytblgldllfllcpaa
open Go.RowKit
theorem bts_inj {a b : ByteArray} (h : bts a = bts b) : a = b := by
  obtain ⟨⟨la⟩⟩ := a
  obtain ⟨⟨lb⟩⟩ := b
  have h' : la.map (·.toNat) = lb.map (·.toNat) := h
  have : la = lb := (List.map_inj_right fun x y e => UInt8.toNat_inj.1 e).1 h'
  rw [this]
/-- The sum as a text. -/
def dig (s : ByteArray) : ByteArray := strOfNums ((Sp.sum (bts s)).map fun (n : Nat) => (n : Int))
theorem sum_ok (t : List Nat) : (Sp.blocks Sp.H0 (Sp.pad t) ((Sp.pad t).length / 64)).ok := Sp.blocks_ok Sp.H0_ok _ _
theorem bts_dig (s : ByteArray) : bts (dig s) = Sp.sum (bts s) := Sp.bts_out (sum_ok _)
theorem dig_size (s : ByteArray) : (dig s).size = 32 := by
  rw [← bts_length, bts_dig]; rfl
theorem ssum_calls (s : ByteArray) (w : World) (hsz : s.size ≤ 1099511627776) : Calls Try.prog 10 #[.string s] w fun e w' => e = .returned (.string (dig s)) ∧ Below w.heap.size w w' := by
  have hl : ([] : List Nat).length + s.size ≤ 1099511627776 := by simpa using hsz
  have hl2 : ([] ++ bts s).length ≤ 1099511627776 := by rw [List.nil_append, bts_length]; exact hsz
  have HL := Lib.hid hl
  have HL2 := Lib.hid hl2
  clear hl hl2 hsz
  go_enter Try.func10, Try.ntmps10
  go_wp2_with (first
    | (go_at_call 13; (with_reducible refine (new_calls _).mono ?_); rintro e w1 ⟨g, rfl, hg, hH, hb⟩)
    | (go_at_call 15; (with_reducible refine (write_calls _ _ _ _ _ hH HL.out).mono ?_); rintro e w2 ⟨rfl, b2, hH2, hb2, hO2⟩)
    | (go_at_call 14; (with_reducible refine (hsum_calls _ _ _ _ hH2 HL2.out).mono ?_); rintro e w3 ⟨str, rfl, hstr, hb3⟩))
  go_ret
  refine ⟨?_, ?_⟩
  · rw [List.nil_append] at hstr
    rw [bts_inj (hstr.trans (bts_dig s).symm)]; rfl
  · have h2 : Below w.heap.size w1 w2 := hO2.below hb.size fun k hk => by
      rcases hk with rfl | hk
      · exact hg
      · cases hk
    exact (hb.trans h2).trans (hb3.mono (Nat.le_trans hb.size h2.size))
end Go.Proofs.Ytblgldllfllcpaa
