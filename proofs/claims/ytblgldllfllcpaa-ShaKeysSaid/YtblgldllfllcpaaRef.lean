/- The contracts of the reference's word, turn and words, and bits of whole numbers of 64 bits. -/
import Derived.Test.YtblgldllfllcpaaHSum
import Derived.Outline
import Derived.Deep.QuietTactic
import Derived.BigQuiet
namespace Go.Proofs.Ytblgldllfllcpaa
open Go.RowKit
theorem ofInt_i64 (a : Nat) (ha : a < 9223372036854775808) : (BitVec.ofInt 64 (a : Int)).toNat = a := by
  rw [BitVec.ofInt_natCast, BitVec.toNat_ofNat]; exact Nat.mod_eq_of_lt (by omega)
theorem i64_and_nat (a b : Nat) (ha : a < 9223372036854775808) (hb : b < 9223372036854775808) : bits .and .i64 (a : Int) (b : Int) = ((a &&& b : Nat) : Int) := by
  have hx : a &&& b < 2 ^ 63 := Nat.and_lt_two_pow _ (by omega)
  show IntKind.i64.wrap ((BitVec.ofInt 64 (a : Int) &&& BitVec.ofInt 64 (b : Int)).toNat : Int) = _
  rw [BitVec.toNat_and, ofInt_i64 a ha, ofInt_i64 b hb, IntKind.wrap_i64]
  omega
theorem i64_or_nat (a b : Nat) (ha : a < 9223372036854775808) (hb : b < 9223372036854775808) : bits .or .i64 (a : Int) (b : Int) = ((a ||| b : Nat) : Int) := by
  have hx : a ||| b < 2 ^ 63 := Nat.or_lt_two_pow (by omega) (by omega)
  show IntKind.i64.wrap ((BitVec.ofInt 64 (a : Int) ||| BitVec.ofInt 64 (b : Int)).toNat : Int) = _
  rw [BitVec.toNat_or, ofInt_i64 a ha, ofInt_i64 b hb, IntKind.wrap_i64]
  omega
theorem i64_xor_nat (a b : Nat) (ha : a < 9223372036854775808) (hb : b < 9223372036854775808) : bits .xor .i64 (a : Int) (b : Int) = ((a ^^^ b : Nat) : Int) := by
  have hx : a ^^^ b < 2 ^ 63 := Nat.xor_lt_two_pow (by omega) (by omega)
  show IntKind.i64.wrap ((BitVec.ofInt 64 (a : Int) ^^^ BitVec.ofInt 64 (b : Int)).toNat : Int) = _
  rw [BitVec.toNat_xor, ofInt_i64 a ha, ofInt_i64 b hb, IntKind.wrap_i64]
  omega
theorem mask32 (n : Nat) (hn : n < 9223372036854775808) : bits .and .i64 (n : Int) 4294967295 = ((n % 4294967296 : Nat) : Int) := by
  rw [show (4294967295 : Int) = ((4294967295 : Nat) : Int) from rfl, i64_and_nat _ _ hn (by decide)]
  have := Nat.and_two_pow_sub_one_eq_mod n 32
  rw [show 2 ^ 32 - 1 = 4294967295 from rfl] at this
  rw [this]
theorem word_calls (n : Nat) (w : World) (hn : n < 9223372036854775808) :
    Calls Try.prog 21 #[.int .i64 n] w fun e w' => e = .returned (.int .i64 ((n % 4294967296 : Nat) : Int)) ∧ w' = w := by
  have h := Lib.hid (mask32 n hn)
  clear hn
  go_enter Try.func21, Try.ntmps21
  go_wp2
  go_ret
  exact ⟨by rw [← h.out]; rfl, rfl⟩
theorem turn_nat (x k : Nat) (hx : x < 4294967296) (h2 : 2 ≤ k) (_h : k ≤ 32) : ((x / 2 ^ k) ||| (x * 2 ^ (32 - k))) < 9223372036854775808 ∧ x * 2 ^ (32 - k) < 9223372036854775808 := by
  have h1 : x / 2 ^ k < 4294967296 := Nat.lt_of_le_of_lt (Nat.div_le_self _ _) hx
  have h3 : (2 : Nat) ^ (32 - k) ≤ 2 ^ 30 := Nat.pow_le_pow_right (by omega) (by omega)
  have h4 : x * 2 ^ (32 - k) < 2 ^ 32 * 2 ^ 30 := Nat.lt_of_le_of_lt (Nat.mul_le_mul_left x h3) (Nat.mul_lt_mul_of_pos_right hx (by decide))
  exact ⟨Nat.or_lt_two_pow (n := 63) (by omega) (by omega), by omega⟩
theorem turn_calls (x k : Nat) (w : World) (hx : x < 4294967296) (h2 : 2 ≤ k) (hk : k ≤ 32) :
    Calls Try.prog 20 #[.int .i64 x, .int .i64 k] w fun e w' => e = .returned (.int .i64 (Sp.rotr x k)) ∧ ∃ d, w' = w.drewN d := by
  obtain ⟨ha, hb⟩ := turn_nat x k hx h2 hk
  have hs : ((32 : Int) - (k : Int)).toNat = 32 - k := by omega
  have hk0 : (0 : Int) ≤ (k : Int) := by omega
  have hk1 : (0 : Int) ≤ 32 - (k : Int) := by omega
  have hw : IntKind.i64.wrap (32 - (k : Int)) = 32 - (k : Int) := by rw [IntKind.wrap_i64]; omega
  have hm : min k 64 = k := by omega
  have hm2 : min (32 - k) 64 = 32 - k := by omega
  have E : Hid (bits .or .i64 ((x : Int) / 2 ^ k) (IntKind.i64.wrap ((x : Int) * 2 ^ (32 - k))) = (((x / 2 ^ k) ||| (x * 2 ^ (32 - k)) : Nat) : Int)) := Lib.hid (by
    have e1 : (x : Int) / 2 ^ k = ((x / 2 ^ k : Nat) : Int) := by push_cast; rfl
    have e2 : IntKind.i64.wrap ((x : Int) * 2 ^ (32 - k)) = ((x * 2 ^ (32 - k) : Nat) : Int) := by
      rw [show (x : Int) * 2 ^ (32 - k) = ((x * 2 ^ (32 - k) : Nat) : Int) from by push_cast; rfl, IntKind.wrap_i64]
      omega
    rw [e1, e2]
    exact i64_or_nat _ _ (Nat.lt_of_le_of_lt (Nat.div_le_self _ _) (by omega)) hb)
  have W := Lib.hid (fun w => word_calls ((x / 2 ^ k) ||| (x * 2 ^ (32 - k))) w ha)
  have R : Hid (((x / 2 ^ k) ||| (x * 2 ^ (32 - k))) % 4294967296 = Sp.rotr x k) := Lib.hid rfl
  generalize hY : ((x / 2 ^ k) ||| (x * 2 ^ (32 - k))) = Y at W E R
  clear hY ha hb
  go_enter Try.func20, Try.ntmps20
  go_wp2
  go_quiet ((go_at_call 21; rw [E.out]; (with_reducible refine (W.out _).mono ?_); exact fun _ _ h => ⟨h.1, _, h.2⟩))
  go_wp2
  go_ret
  exact ⟨by rw [← R.out]; rfl, _, rfl⟩
theorem turn7_calls (x : Nat) (w : World) (hx : x < 4294967296) :
    Calls Try.prog 20 #[.int .i64 x, .int .i64 7] w fun e w' => e = .returned (.int .i64 (Sp.rotr x 7)) ∧ ∃ d, w' = w.drewN d := turn_calls x 7 w hx (by omega) (by omega)
theorem turn18_calls (x : Nat) (w : World) (hx : x < 4294967296) :
    Calls Try.prog 20 #[.int .i64 x, .int .i64 18] w fun e w' => e = .returned (.int .i64 (Sp.rotr x 18)) ∧ ∃ d, w' = w.drewN d := turn_calls x 18 w hx (by omega) (by omega)
theorem turn17_calls (x : Nat) (w : World) (hx : x < 4294967296) :
    Calls Try.prog 20 #[.int .i64 x, .int .i64 17] w fun e w' => e = .returned (.int .i64 (Sp.rotr x 17)) ∧ ∃ d, w' = w.drewN d := turn_calls x 17 w hx (by omega) (by omega)
theorem turn19_calls (x : Nat) (w : World) (hx : x < 4294967296) :
    Calls Try.prog 20 #[.int .i64 x, .int .i64 19] w fun e w' => e = .returned (.int .i64 (Sp.rotr x 19)) ∧ ∃ d, w' = w.drewN d := turn_calls x 19 w hx (by omega) (by omega)
theorem turn6_calls (x : Nat) (w : World) (hx : x < 4294967296) :
    Calls Try.prog 20 #[.int .i64 x, .int .i64 6] w fun e w' => e = .returned (.int .i64 (Sp.rotr x 6)) ∧ ∃ d, w' = w.drewN d := turn_calls x 6 w hx (by omega) (by omega)
theorem turn11_calls (x : Nat) (w : World) (hx : x < 4294967296) :
    Calls Try.prog 20 #[.int .i64 x, .int .i64 11] w fun e w' => e = .returned (.int .i64 (Sp.rotr x 11)) ∧ ∃ d, w' = w.drewN d := turn_calls x 11 w hx (by omega) (by omega)
theorem turn25_calls (x : Nat) (w : World) (hx : x < 4294967296) :
    Calls Try.prog 20 #[.int .i64 x, .int .i64 25] w fun e w' => e = .returned (.int .i64 (Sp.rotr x 25)) ∧ ∃ d, w' = w.drewN d := turn_calls x 25 w hx (by omega) (by omega)
theorem turn2_calls (x : Nat) (w : World) (hx : x < 4294967296) :
    Calls Try.prog 20 #[.int .i64 x, .int .i64 2] w fun e w' => e = .returned (.int .i64 (Sp.rotr x 2)) ∧ ∃ d, w' = w.drewN d := turn_calls x 2 w hx (by omega) (by omega)
theorem turn13_calls (x : Nat) (w : World) (hx : x < 4294967296) :
    Calls Try.prog 20 #[.int .i64 x, .int .i64 13] w fun e w' => e = .returned (.int .i64 (Sp.rotr x 13)) ∧ ∃ d, w' = w.drewN d := turn_calls x 13 w hx (by omega) (by omega)
theorem turn22_calls (x : Nat) (w : World) (hx : x < 4294967296) :
    Calls Try.prog 20 #[.int .i64 x, .int .i64 22] w fun e w' => e = .returned (.int .i64 (Sp.rotr x 22)) ∧ ∃ d, w' = w.drewN d := turn_calls x 22 w hx (by omega) (by omega)
theorem word_any (n : Int) (w : World) (h0 : 0 ≤ n) (hn : n < 9223372036854775808) :
    Calls Try.prog 21 #[.int .i64 n] w fun e w' => e = .returned (.int .i64 (n % 4294967296)) ∧ w' = w := by
  obtain ⟨m, rfl⟩ := Int.eq_ofNat_of_zero_le h0
  refine (word_calls m w (by omega)).mono fun e w' h => ⟨h.1.trans ?_, h.2⟩
  rw [show ((m % 4294967296 : Nat) : Int) = (m : Int) % 4294967296 from by omega]
/-- Numbers as cells. -/
def i64c (l : List Nat) : List Value := l.map fun (n : Nat) => Value.int .i64 (n : Int)
theorem i64c_length (l : List Nat) : (i64c l).length = l.length := by simp [i64c]
theorem i64c_append (l m : List Nat) : i64c (l ++ m) = i64c l ++ i64c m := by simp [i64c]
theorem i64c_at (l : List Nat) {j : Nat} (h : j < l.length) : (i64c l).getD j (.bool false) = .int .i64 ((l.getD j 0 : Nat) : Int) := by
  simp [i64c, List.getD_eq_getElem?_getD, List.getElem?_eq_getElem h]
theorem i64c_get (l : List Nat) {j : Nat} (h : j < l.length) : (i64c l)[j]? = some (.int .i64 ((l.getD j 0 : Nat) : Int)) := by
  simp [i64c, List.getD_eq_getElem?_getD, List.getElem?_eq_getElem h]
theorem i64c_set (l : List Nat) (j v : Nat) : (i64c l).set j (.int .i64 (v : Int)) = i64c (l.set j v) := by
  simp [i64c, List.map_set]
set_option maxRecDepth 100000 in
theorem words_calls (w : World) : Calls Try.prog 18 #[] w fun e w' => e = .returned (.slice (some ⟨w.heap.size, 0, none⟩) 64 64) ∧ w' = w.alloc (.cells (i64c Sp.K).toArray 3) := by
  go_enter Try.func18, Try.ntmps18
  go_wp2
  go_ret
  exact ⟨rfl, rfl⟩
end Go.Proofs.Ytblgldllfllcpaa
