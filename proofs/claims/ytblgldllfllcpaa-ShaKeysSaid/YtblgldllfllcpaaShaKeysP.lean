/- Plain facts of ShaKeys: a key of more than 64 bytes stands for its sum, and noughts behind a shorter one change nothing. -/
import Derived.Test.YtblgldllfllcpaaShaMacsW
import Derived.Test.YtblgldllfllcpaaShaRepeatsW
namespace Go.Proofs.Ytblgldllfllcpaa
open Go.RowKit
theorem mac_dig (key s : ByteArray) (h : 64 < key.size) : mac (dig key) s = mac key s := by
  unfold mac eff
  rw [if_pos h, if_neg (by rw [dig_size]; omega)]
/-- n noughts. -/
def nought (n : Nat) : ByteArray := strOfNums (List.replicate n 0)
theorem nought_size (n : Nat) : (nought n).size = n := by
  have := congrArg List.length (strOfNums_data (List.replicate n 0))
  simpa [nought] using this
theorem bts_nought (n : Nat) : bts (nought n) = List.replicate n 0 := by
  unfold bts nought
  rw [strOfNums_data]
  simp
theorem kb_nought (k : ByteArray) (n j : Nat) : kb (k ++ nought n) j = kb k j := by
  unfold kb
  rw [bts_append, bts_nought, List.getD_eq_getElem?_getD, List.getD_eq_getElem?_getD]
  by_cases h : j < (bts k).length
  · rw [List.getElem?_append_left h]
  · rw [List.getElem?_append_right (by omega), List.getElem?_eq_none (l := bts k) (by omega), List.getElem?_replicate]
    split <;> rfl
theorem mac_nought (k s : ByteArray) (n : Nat) (h : k.size + n ≤ 64) : mac (k ++ nought n) s = mac k s := by
  have hp : ∀ x, pads (k ++ nought n) x = pads k x := fun x => by
    unfold pads padl
    simp only [kb_nought]
  unfold mac eff
  rw [if_neg (by rw [ByteArray.size_append, nought_size]; omega), if_neg (by omega)]
  unfold macK
  rw [hp, hp]
theorem made_u8 (n : Nat) : (madeCells (Value.int .u8 0).cells (n * 1)).toList = List.replicate n (Value.int .u8 0) := by
  unfold madeCells
  simp [Value.cells]
  rw [List.eq_replicate_iff]
  refine ⟨by simp, fun b hb => ?_⟩
  obtain ⟨x, _, rfl⟩ := List.mem_map.1 hb
  rw [Nat.mod_one]
  rfl
end Go.Proofs.Ytblgldllfllcpaa
