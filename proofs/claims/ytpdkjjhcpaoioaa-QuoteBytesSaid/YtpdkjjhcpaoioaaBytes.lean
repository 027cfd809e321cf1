/- The contracts of Bytes and Of: a float's eight bytes, and the float of eight bytes. -/
import Derived.Test.YtpdkjjhcpaoioaaMid
import Derived.Laws.BytesArg
namespace Go.Proofs.Ytpdkjjhcpaoioaa
open Go.RowKit
namespace Fl
/-- A word's bytes, the lowest first. -/
def b8 (v : Nat) : List Int := (List.range 8).map fun j => ((v / 2 ^ (8 * j) % 256 : Nat) : Int)
def brow (v k : Nat) : Array Value := ((List.range 8).map fun j => Value.int .u8 (if j < k then ((v / 2 ^ (8 * j) % 256 : Nat) : Int) else 0)).toArray
theorem brow_zero (v : Nat) : brow v 0 = #[.int .u8 0, .int .u8 0, .int .u8 0, .int .u8 0, .int .u8 0, .int .u8 0, .int .u8 0, .int .u8 0] := by
  unfold brow
  have : (fun j => Value.int .u8 (if j < 0 then ((v / 2 ^ (8 * j) % 256 : Nat) : Int) else 0)) = fun _ => Value.int .u8 0 := by
    funext j; rw [if_neg (by omega)]
  rw [this]; rfl
theorem brow_get (v k j : Nat) (h : j < 8) : (brow v k)[j]? = some (.int .u8 (if j < k then ((v / 2 ^ (8 * j) % 256 : Nat) : Int) else 0)) := by
  unfold brow
  rw [List.getElem?_toArray, List.getElem?_map, List.getElem?_range h]; rfl
theorem brow_size (v k : Nat) : (brow v k).size = 8 := by unfold brow; simp
theorem brow_set (v k : Nat) (_h : k < 8) : (brow v k).setIfInBounds k (.int .u8 ((v : Int) / 2 ^ (8 * k) % 256)) = brow v (k + 1) := by
  apply Array.ext_getElem?
  intro j
  by_cases hj : j < 8
  · rw [brow_get v (k + 1) j hj, Array.getElem?_setIfInBounds]
    by_cases e : k = j
    · subst e
      rw [if_pos rfl, if_pos (by rw [brow_size]; exact hj), if_pos (by omega)]
      simp
    · rw [if_neg e, brow_get v k j hj]
      by_cases g : j < k
      · rw [if_pos g, if_pos (by omega)]
      · rw [if_neg g, if_neg (by omega)]
  · rw [Array.getElem?_eq_none (by rw [Array.size_setIfInBounds, brow_size]; omega), Array.getElem?_eq_none (by rw [brow_size]; omega)]
theorem b8_get (v j : Nat) (h : j < 8) : (b8 v).getD j 0 = ((v / 2 ^ (8 * j) % 256 : Nat) : Int) := by
  unfold b8; rw [List.getD_eq_getElem?_getD, List.getElem?_map, List.getElem?_range h]; rfl
theorem b8_length (v : Nat) : (b8 v).length = 8 := by unfold b8; simp
end Fl

set_option maxHeartbeats 1000000 in
theorem bytes_calls (x : Nat) (w : World) (v : Nat) (hv : Hid (Fl.on x = v)) :
    Calls Try.prog 31 #[.float .f64 x] w fun e w' => e = .returned (.string (strOfNums (Fl.b8 v))) ∧ Below w.heap.size w w' := by
  have hr := fun (b : Nat) (w : World) => bits_run b w
  have hz := Lib.hid (Fl.brow_zero v)
  have hset := fun (k : Nat) (h : k < 8) => Lib.hid (Fl.brow_set v k h)
  have hget := fun (k : Nat) (h : k < 8) => Lib.hid (Fl.brow_get v k k h)
  have hcv := run_convert_bytes_arg (P := Try.prog) (w.alloc (.cells (Fl.brow v 8) 48)) 49 5 (by kernel_rfl) (by kernel_rfl) w.heap.size 0 8 8 (Fl.b8 v) (Fl.b8_length v)
    (fun i hi => by
      rw [Nat.zero_add, cell_of_row _ _ _ _ _ _ (heap_alloc_new w _), Fl.brow_get v 8 i hi, if_pos hi, Fl.b8_get v i hi]) 9 (by kernel_rfl)
  go_enter Try.func31, Try.ntmps31
  go_wp2_with (go_at_call 41; (with_reducible refine (one_calls _ _ _ hv).mono ?_); rintro e w' ⟨rfl, rfl⟩)
  go_loopw [9] (fun i wr => ∃ k : Nat, k ≤ 8 ∧ i = .int .i64 k ∧ wr = w.alloc (.cells (Fl.brow v k) 48)) (fun i _ => 8 - (intOf i).toNat)
  case atStart => exact ⟨0, by omega, rfl, by rw [hz.out]⟩
  case round =>
    obtain ⟨k, hk, rfl, rfl⟩ := hrel
    by_cases hlt : k < 8
    · have hck := (hget k hlt).out
      have HS := hset k hlt
      clear hset hget hz hcv hv
      generalize Fl.brow v k = cs at *
      go_wp2
      go_roundw
      case rel => exact ⟨k + 1, by omega, by go_num, by rw [← HS.out]⟩
      case measure => simp [intOf]; omega
    · obtain rfl : k = 8 := by omega
      clear hset hget hz hv
      generalize Fl.brow v 8 = cs at *
      go_wp2
      go_ret
      exact ⟨rfl, (Below.refl _ _).alloc (Nat.le_refl _) _⟩

namespace Fl
def by_ (s : ByteArray) (j : Nat) : Nat := (s.data.toList.getD j 0).toNat
/-- The number of the first bytes, the lowest first. -/
def dk (s : ByteArray) : Nat → Nat
  | 0 => 0
  | k + 1 => dk s k + by_ s k * 2 ^ (8 * k)
theorem by_lt (s : ByteArray) (j : Nat) : by_ s j < 256 := UInt8.toNat_lt _
theorem pow8 (k : Nat) : 2 ^ (8 * (k + 1)) = 2 ^ (8 * k) * 256 := by rw [show 8 * (k + 1) = 8 * k + 8 from by omega, Nat.pow_add]
theorem dk_lt (s : ByteArray) (k : Nat) : dk s k < 2 ^ (8 * k) := by
  induction k with
  | zero => exact Nat.one_pos
  | succ k ih =>
    have hb := by_lt s k
    rw [dk, pow8]
    have : by_ s k * 2 ^ (8 * k) ≤ 255 * 2 ^ (8 * k) := Nat.mul_le_mul_right _ (by omega)
    generalize 2 ^ (8 * k) = P at *
    omega
theorem dk_digit (s : ByteArray) (n j : Nat) (h : j < n) : dk s n / 2 ^ (8 * j) % 256 = by_ s j := by
  induction n with
  | zero => omega
  | succ n ih =>
    rw [dk]
    by_cases e : j = n
    · subst e
      rw [Nat.add_mul_div_right _ _ (Nat.two_pow_pos _), Nat.div_eq_of_lt (dk_lt s j), Nat.zero_add, Nat.mod_eq_of_lt (by_lt s j)]
    · have e2 : by_ s n * 2 ^ (8 * n) = by_ s n * 2 ^ (8 * (n - j - 1)) * 256 * 2 ^ (8 * j) := by
        rw [Nat.mul_assoc, Nat.mul_assoc, Nat.mul_comm 256, ← Nat.mul_assoc (2 ^ _), ← Nat.pow_add, show (256 : Nat) = 2 ^ 8 from rfl, ← Nat.pow_add]
        congr 2; omega
      rw [e2, Nat.add_mul_div_right _ _ (Nat.two_pow_pos _), Nat.add_mul_mod_self_right]
      exact ih (by omega)
theorem dk_of (s : ByteArray) (v n : Nat) (h : ∀ j, j < n → by_ s j = v / 2 ^ (8 * j) % 256) : dk s n = v % 2 ^ (8 * n) := by
  induction n with
  | zero => rw [Nat.mul_zero, Nat.pow_zero, Nat.mod_one]; rfl
  | succ n ih =>
    rw [dk, ih (fun j hj => h j (by omega)), h n (by omega), pow8, Nat.mod_mul, Nat.mul_comm (2 ^ _)]
theorem by_str (xs : List Int) (j : Nat) (h : j < xs.length) : by_ (strOfNums xs) j = (xs.getD j 0).toNat % 256 := by
  unfold by_
  rw [strOfNums_data, List.getD_eq_getElem?_getD, List.getElem?_map, List.getD_eq_getElem?_getD, List.getElem?_eq_getElem h]
  simp
theorem by_b8 (v j : Nat) (h : j < 8) : by_ (strOfNums (b8 v)) j = v / 2 ^ (8 * j) % 256 := by
  rw [by_str _ _ (by rw [b8_length]; exact h), b8_get v j h, Int.toNat_natCast, Nat.mod_mod]
theorem dk_b8 {v : Nat} (h : v < 18446744073709551616) : dk (strOfNums (b8 v)) 8 = v := by
  rw [dk_of _ v 8 (fun j hj => by_b8 v j hj)]
  exact Nat.mod_eq_of_lt h
theorem str_ext {s t : ByteArray} (h1 : s.size = t.size) (h2 : ∀ j, j < s.size → by_ s j = by_ t j) : s = t := by
  have e : s.data.toList = t.data.toList := by
    apply List.ext_getElem
    · exact h1
    · intro j hj1 hj2
      have h := h2 j hj1
      unfold by_ at h
      rw [List.getD_eq_getElem?_getD, List.getD_eq_getElem?_getD, List.getElem?_eq_getElem hj1, List.getElem?_eq_getElem hj2] at h
      exact UInt8.toNat_inj.1 h
  cases s; cases t
  simp only [ByteArray.mk.injEq]
  exact Array.toList_inj.1 e
theorem b8_dk {s : ByteArray} (h : s.size = 8) : strOfNums (b8 (dk s 8)) = s := by
  apply str_ext
  · rw [strOfNums_size, b8_length, h]
  · intro j hj
    rw [strOfNums_size, b8_length] at hj
    rw [by_b8 _ _ hj, dk_digit s 8 j hj]
theorem dk_step (s : ByteArray) (k : Nat) (h8 : k < 8) (h : k < s.size) :
    bits .or .u64 (dk s k : Int) (IntKind.u64.wrap (IntKind.u64.wrap ((s[k].toNat : Nat) : Int) * 2 ^ (8 * k))) = ((dk s (k + 1) : Nat) : Int) := by
  have hb : by_ s k = s[k].toNat := by
    unfold by_
    rw [List.getD_eq_getElem?_getD, List.getElem?_eq_getElem (show k < s.data.toList.length from h)]; rfl
  have hlt := by_lt s k
  rw [← hb]
  have hp : 2 ^ (8 * k) ≤ 2 ^ 56 := Nat.pow_le_pow_right (by omega) (by omega)
  have hm : by_ s k * 2 ^ (8 * k) ≤ 255 * 2 ^ 56 := Nat.mul_le_mul (by omega) hp
  have hd := dk_lt s k
  have e1 : IntKind.u64.wrap ((by_ s k : Nat) : Int) = ((by_ s k : Nat) : Int) := by rw [IntKind.wrap_u64]; omega
  have e2 : IntKind.u64.wrap (((by_ s k : Nat) : Int) * 2 ^ (8 * k)) = ((by_ s k * 2 ^ (8 * k) : Nat) : Int) := by
    rw [show ((by_ s k : Nat) : Int) * 2 ^ (8 * k) = ((by_ s k * 2 ^ (8 * k) : Nat) : Int) from by simp]
    generalize by_ s k * 2 ^ (8 * k) = q at *
    rw [IntKind.wrap_u64]; omega
  rw [e1, e2, u64_or_nat _ _ (by generalize 2 ^ (8 * k) = q at *; omega) (by omega), Nat.or_comm, nat_join (8 * k) _ _ (Nat.mul_mod_left _ _) hd, dk, Nat.add_comm]
/-- The float of bytes, or why it is none. -/
def of_ (s : ByteArray) : Nat × Int :=
  if s.size < 8 then (0, 10) else if 8 < s.size then (0, 12)
  else if Nan (dk s 8) ∧ dk s 8 ≠ 9221120237041090561 then (0, 11) else (dk s 8, 0)
end Fl

set_option maxHeartbeats 1000000 in
theorem of_calls (s : ByteArray) (w : World) (v : Nat) (f : Int) (hv : Hid (Fl.of_ s = (v, f))) :
    Calls Try.prog 32 #[.string s] w fun e w' => e = .returned (.tuple #[.float .f64 v, .int .i64 f]) ∧ w = w' := by
  have hf := fun (n : Int) (w : World) => from_run n w
  have e := hv.out
  unfold Fl.of_ at e
  clear hv
  split at e
  · rename_i h1
    injection e with e1 e2
    subst e1; subst e2
    go_enter Try.func32, Try.ntmps32
    go_wp2
    go_ret2
    exact ⟨rfl, rfl⟩
  rename_i h1
  split at e
  · rename_i h2
    injection e with e1 e2
    subst e1; subst e2
    go_enter Try.func32, Try.ntmps32
    go_wp2
    go_ret2
    exact ⟨rfl, rfl⟩
  rename_i h2
  have h3 : 8 ≤ s.size := by omega
  have h4 : s.size ≤ 8 := by omega
  clear h1 h2
  have HS := fun (k : Nat) (h8 : k < 8) (h : k < s.size) => Lib.hid (Fl.dk_step s k h8 h)
  have E := Lib.hid e
  clear e
  go_enter Try.func32, Try.ntmps32
  go_wp2
  go_loop [4, 13] (fun b i => ∃ k : Nat, k ≤ 8 ∧ i = .int .i64 k ∧ b = .int .u64 (Fl.dk s k)) (fun _ i => 8 - (intOf i).toNat)
  case atStart => exact ⟨0, by omega, rfl, rfl⟩
  case round =>
    obtain ⟨k, hk, rfl, rfl⟩ := hrel
    by_cases hlt : k < 8
    · have HK := HS k hlt (by omega)
      go_wp2
      go_round
      case rel => exact ⟨k + 1, by omega, by go_num, by rw [HK.out]⟩
      case measure => simp [intOf]; omega
    · obtain rfl : k = 8 := by omega
      clear HS
      have e := E.out
      clear E
      generalize Fl.dk s 8 = d at *
      have hn := Fl.neq_self d
      by_cases h5 : Fl.Nan d
      · rw [decide_eq_true h5] at hn
        by_cases h6 : d = 9221120237041090561
        · rw [if_neg (fun h => h.2 h6)] at e
          injection e with e1 e2
          subst e1; subst e2
          have hne : ((d : Int) != 9221120237041090561) = false := by rw [bne_eq_false_iff_eq]; omega
          clear h5 h6
          go_wp2
          go_ret2
          exact ⟨rfl, rfl⟩
        · rw [if_pos ⟨h5, h6⟩] at e
          injection e with e1 e2
          subst e1; subst e2
          have hne : ((d : Int) != 9221120237041090561) = true := by rw [bne_iff_ne]; omega
          clear h5 h6
          go_wp2
          go_ret2
          exact ⟨rfl, rfl⟩
      · rw [decide_eq_false h5] at hn
        rw [if_neg (fun h => h5 h.1)] at e
        injection e with e1 e2
        subst e1; subst e2
        clear h5
        go_wp2
        go_ret2
        exact ⟨rfl, rfl⟩
end Go.Proofs.Ytpdkjjhcpaoioaa
