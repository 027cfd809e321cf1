/- Reading a number back, in plain: seven bits a byte, the least ones first. -/
import Derived.Test.YtccmafmeblojpaaPut
namespace Go.Proofs.Ytccmafmeblojpaa
/-- What reading gives: a number and how many bytes it took, or the error. -/
inductive Rd where
  | ok (n used : Nat)
  | err (e : Nat)
def rdGo : List Nat → Nat → Nat → Rd
  | [], _, _ => .err 10
  | c :: bs, i, n =>
    if 128 ≤ c then (if i = 7 then .err 11 else rdGo bs (i + 1) (n + c % 128 * 128 ^ i))
    else if c = 0 ∧ 0 < i ∨ 9007199254740992 < n + c * 128 ^ i then .err 11 else .ok (n + c * 128 ^ i) (i + 1)
def byt (s : ByteArray) : List Nat := s.data.toList.map UInt8.toNat
theorem byt_length (s : ByteArray) : (byt s).length = s.size := by unfold byt; rw [List.length_map, Array.length_toList]; rfl
theorem byt_get (s : ByteArray) {i : Nat} (h : i < s.size) : (byt s)[i]? = some s[i].toNat := by
  unfold byt
  rw [List.getElem?_map, List.getElem?_eq_getElem (by rw [Array.length_toList]; exact h)]
  rfl
theorem byt_lt (s : ByteArray) : ∀ c ∈ byt s, c < 256 := fun c hc => by
  obtain ⟨b, _, rfl⟩ := List.mem_map.1 hc
  exact b.toNat_lt
theorem byt_drop (s : ByteArray) {i : Nat} (h : i < s.size) : (byt s).drop i = s[i].toNat :: (byt s).drop (i + 1) := by
  have hl : i < (byt s).length := by rw [byt_length]; exact h
  rw [List.drop_eq_getElem_cons hl]
  congr 1
  have := byt_get s h
  rw [List.getElem?_eq_getElem hl] at this
  exact Option.some.inj this
theorem byt_drop_end (s : ByteArray) {i : Nat} (h : s.size ≤ i) : (byt s).drop i = [] := List.drop_eq_nil_of_le (by rw [byt_length]; exact h)
/-- What was read came to no more than its bytes. -/
theorem rdGo_used : ∀ (bs : List Nat) (i n m u : Nat), rdGo bs i n = .ok m u → i < u ∧ u ≤ i + bs.length ∧ m ≤ 9007199254740992
  | [], i, n, m, u, h => by simp [rdGo] at h
  | c :: bs, i, n, m, u, h => by
    rw [rdGo] at h
    split at h
    · split at h
      · simp at h
      · have := rdGo_used bs _ _ _ _ h
        rw [List.length_cons]; omega
    · split at h
      · simp at h
      · rename_i h1 h2
        injection h with e1 e2
        rw [List.length_cons]
        omega
theorem and127 (c : Nat) (h : c < 256) : bits .and .i64 (c : Int) 127 = ((c % 128 : Nat) : Int) := low7 c (by omega)
theorem or_add (n x k : Nat) (h : n < 2 ^ k) : n ||| (x * 2 ^ k) = n + x * 2 ^ k := by
  have := Nat.two_pow_add_eq_or_of_lt (i := k) (b := n) h x
  rw [Nat.mul_comm x, Nat.or_comm, ← this, Nat.add_comm]
theorem bits_or_nat (a b : Nat) (ha : a < 9223372036854775808) (hb : b < 9223372036854775808) : bits .or .i64 (a : Int) (b : Int) = ((a ||| b : Nat) : Int) := by
  show IntKind.i64.wrap ((BitVec.ofInt 64 (a : Int) ||| BitVec.ofInt 64 (b : Int)).toNat : Int) = _
  have h3 : a ||| b < 2 ^ 63 := Nat.or_lt_two_pow ha hb
  rw [BitVec.toNat_or, ofInt64 a ha, ofInt64 b hb, IntKind.wrap_i64]
  omega
theorem pow128 (i : Nat) : 128 ^ i = 2 ^ (7 * i) := by rw [show (128 : Nat) = 2 ^ 7 from rfl, ← Nat.pow_mul]
/-- The bytes that a number is laid in are read as it. -/
theorem rdGo_num : ∀ (N : Nat) (i n : Nat) (rest : List Nat), n + N * 128 ^ i ≤ 9007199254740992 → (0 < N ∨ i = 0) → i ≤ 7 → rdGo (num N ++ rest) i n = .ok (n + N * 128 ^ i) (i + (num N).length) := by
  intro N
  induction N using Nat.strongRecOn with
  | _ N ih =>
    intro i n rest hle h0 hi
    by_cases hN : N < 128
    · rw [num_small hN]
      show rdGo (N :: rest) i n = _
      rw [rdGo, if_neg (by omega), if_neg (by omega)]; rfl
    · rw [num_big hN]
      show rdGo ((N % 128 + 128) :: (num (N / 128) ++ rest)) i n = _
      have hp : 0 < 128 ^ i := Nat.pow_pos (by omega)
      have hNs : N * 128 ^ i = N % 128 * 128 ^ i + N / 128 * 128 ^ (i + 1) := by
        rw [Nat.pow_succ, Nat.mul_comm (128 ^ i) 128, ← Nat.mul_assoc, ← Nat.add_mul]
        congr 1
        omega
      have h7 : ¬ i = 7 := by
        rintro rfl
        have h1 : 128 * 128 ^ 7 ≤ N * 128 ^ 7 := Nat.mul_le_mul_right _ (by omega)
        have h2 : (128 : Nat) * 128 ^ 7 = 72057594037927936 := by decide
        omega
      have hd : (N % 128 + 128) % 128 = N % 128 := by omega
      rw [rdGo, if_pos (by omega), if_neg h7, hd, ih (N / 128) (by omega) (i + 1) _ rest (by omega) (.inl (by omega)) (by omega)]
      rw [List.length_cons]
      congr 1
      · omega
      · omega
end Go.Proofs.Ytccmafmeblojpaa
