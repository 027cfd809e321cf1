/- SHA-256 in plain whole numbers: what the program and the reference both come to. -/
namespace Go.Proofs.Ytblgldllfllcpaa
namespace Sp

def rotr (x k : Nat) : Nat := (x / 2 ^ k ||| x * 2 ^ (32 - k)) % 4294967296
def s0 (x : Nat) : Nat := rotr x 7 ^^^ rotr x 18 ^^^ x / 8
def s1 (x : Nat) : Nat := rotr x 17 ^^^ rotr x 19 ^^^ x / 1024
def S1 (e : Nat) : Nat := rotr e 6 ^^^ rotr e 11 ^^^ rotr e 25
def S0 (a : Nat) : Nat := rotr a 2 ^^^ rotr a 13 ^^^ rotr a 22
def ch (e f g : Nat) : Nat := (e &&& f) ^^^ ((4294967295 - e) &&& g)
def maj (a b c : Nat) : Nat := (a &&& b) ^^^ (a &&& c) ^^^ (b &&& c)

theorem rotr_lt (x k : Nat) : rotr x k < 4294967296 := Nat.mod_lt _ (by omega)
theorem xor_lt {a b : Nat} (h1 : a < 4294967296) (h2 : b < 4294967296) : a ^^^ b < 4294967296 := Nat.xor_lt_two_pow (n := 32) h1 h2
theorem and_lt {a b : Nat} (h2 : b < 4294967296) : a &&& b < 4294967296 := Nat.and_lt_two_pow (n := 32) a h2
theorem or_lt {a b : Nat} (h1 : a < 4294967296) (h2 : b < 4294967296) : a ||| b < 4294967296 := Nat.or_lt_two_pow (n := 32) h1 h2
theorem s0_lt {x : Nat} (h : x < 4294967296) : s0 x < 4294967296 := xor_lt (xor_lt (rotr_lt _ _) (rotr_lt _ _)) (by omega)
theorem s1_lt {x : Nat} (h : x < 4294967296) : s1 x < 4294967296 := xor_lt (xor_lt (rotr_lt _ _) (rotr_lt _ _)) (by omega)
theorem S1_lt (x : Nat) : S1 x < 4294967296 := xor_lt (xor_lt (rotr_lt _ _) (rotr_lt _ _)) (rotr_lt _ _)
theorem S0_lt (x : Nat) : S0 x < 4294967296 := xor_lt (xor_lt (rotr_lt _ _) (rotr_lt _ _)) (rotr_lt _ _)
theorem ch_lt {e f g : Nat} (hf : f < 4294967296) (hg : g < 4294967296) : ch e f g < 4294967296 := xor_lt (and_lt hf) (and_lt hg)
theorem maj_lt {a b c : Nat} (hb : b < 4294967296) (hc : c < 4294967296) : maj a b c < 4294967296 := xor_lt (xor_lt (and_lt hb) (and_lt hc)) (and_lt hc)

theorem ch_or {e f g : Nat} (he : e < 4294967296) : (e &&& f) ||| ((4294967295 - e) &&& g) = ch e f g := by
  unfold ch
  apply Nat.eq_of_testBit_eq
  intro i
  have h := Nat.testBit_two_pow_sub_succ (n := 32) he i
  rw [show 2 ^ 32 - (e + 1) = 4294967295 - e from by omega] at h
  simp only [Nat.testBit_or, Nat.testBit_xor, Nat.testBit_and, h]
  cases e.testBit i <;> cases f.testBit i <;> cases g.testBit i <;> simp
theorem maj_or {a b c : Nat} : (a &&& b) ||| (a &&& c) ||| (b &&& c) = maj a b c := by
  unfold maj
  apply Nat.eq_of_testBit_eq
  intro i
  simp only [Nat.testBit_or, Nat.testBit_xor, Nat.testBit_and]
  cases a.testBit i <;> cases b.testBit i <;> cases c.testBit i <;> rfl

def K : List Nat := [
  1116352408, 1899447441, 3049323471, 3921009573, 961987163, 1508970993, 2453635748, 2870763221,
  3624381080, 310598401, 607225278, 1426881987, 1925078388, 2162078206, 2614888103, 3248222580,
  3835390401, 4022224774, 264347078, 604807628, 770255983, 1249150122, 1555081692, 1996064986,
  2554220882, 2821834349, 2952996808, 3210313671, 3336571891, 3584528711, 113926993, 338241895,
  666307205, 773529912, 1294757372, 1396182291, 1695183700, 1986661051, 2177026350, 2456956037,
  2730485921, 2820302411, 3259730800, 3345764771, 3516065817, 3600352804, 4094571909, 275423344,
  430227734, 506948616, 659060556, 883997877, 958139571, 1322822218, 1537002063, 1747873779,
  1955562222, 2024104815, 2227730452, 2361852424, 2428436474, 2756734187, 3204031479, 3329325298]

/-- The eight words of a state. -/
structure St where
  (a b c d e f g h : Nat)

def St.ok (s : St) : Prop := s.a < 4294967296 ∧ s.b < 4294967296 ∧ s.c < 4294967296 ∧ s.d < 4294967296 ∧ s.e < 4294967296 ∧ s.f < 4294967296 ∧ s.g < 4294967296 ∧ s.h < 4294967296
def St.list (s : St) : List Nat := [s.a, s.b, s.c, s.d, s.e, s.f, s.g, s.h]
def H0 : St := ⟨1779033703, 3144134277, 1013904242, 2773480762, 1359893119, 2600822924, 528734635, 1541459225⟩
theorem H0_ok : H0.ok := by unfold St.ok H0; decide

/-- One round, by a constant and a word. -/
def round (s : St) (k w : Nat) : St :=
  let t := (s.h + S1 s.e + ch s.e s.f s.g + k + w) % 4294967296
  let u := (S0 s.a + maj s.a s.b s.c) % 4294967296
  ⟨(t + u) % 4294967296, s.a, s.b, s.c, (s.d + t) % 4294967296, s.e, s.f, s.g⟩
theorem round_ok {s : St} (h : s.ok) (k w : Nat) : (round s k w).ok := by
  unfold St.ok at *; unfold round; simp only
  obtain ⟨h1, h2, h3, h4, h5, h6, h7, h8⟩ := h
  exact ⟨Nat.mod_lt _ (by omega), h1, h2, h3, Nat.mod_lt _ (by omega), h5, h6, h7⟩

/-- The next word of the schedule. -/
def next (w : List Nat) : Nat :=
  (w.getD (w.length - 16) 0 + s0 (w.getD (w.length - 15) 0) + w.getD (w.length - 7) 0 + s1 (w.getD (w.length - 2) 0)) % 4294967296
/-- The schedule, with n words more. -/
def ext : Nat → List Nat → List Nat
  | 0, w => w
  | n + 1, w => ext n w ++ [next (ext n w)]
theorem ext_length (n : Nat) (w : List Nat) : (ext n w).length = w.length + n := by
  induction n with
  | zero => rfl
  | succ n ih => rw [ext, List.length_append, ih]; rfl
def allLt (l : List Nat) : Prop := ∀ x ∈ l, x < 4294967296
theorem ext_lt (n : Nat) (w : List Nat) (h : allLt w) : allLt (ext n w) := by
  induction n with
  | zero => exact h
  | succ n ih =>
    intro x hx
    rw [ext, List.mem_append] at hx
    rcases hx with hx | hx
    · exact ih x hx
    · rw [List.mem_singleton.1 hx]; exact Nat.mod_lt _ (by omega)
/-- So many rounds. -/
def rounds (w : List Nat) (s : St) : Nat → St
  | 0 => s
  | n + 1 => round (rounds w s n) (K.getD n 0) (w.getD n 0)
theorem rounds_ok (w : List Nat) {s : St} (h : s.ok) (n : Nat) : (rounds w s n).ok := by
  induction n with
  | zero => exact h
  | succ n ih => exact round_ok ih _ _
def plus (s v : St) : St := ⟨(s.a + v.a) % 4294967296, (s.b + v.b) % 4294967296, (s.c + v.c) % 4294967296, (s.d + v.d) % 4294967296,
  (s.e + v.e) % 4294967296, (s.f + v.f) % 4294967296, (s.g + v.g) % 4294967296, (s.h + v.h) % 4294967296⟩
theorem plus_ok (s v : St) : (plus s v).ok := by
  unfold plus St.ok; simp only
  exact ⟨Nat.mod_lt _ (by omega), Nat.mod_lt _ (by omega), Nat.mod_lt _ (by omega), Nat.mod_lt _ (by omega), Nat.mod_lt _ (by omega), Nat.mod_lt _ (by omega), Nat.mod_lt _ (by omega), Nat.mod_lt _ (by omega)⟩
/-- A block's sixteen words into a state. -/
def mixW (s : St) (w : List Nat) : St := plus s (rounds (ext 48 w) s 64)

/-- Four bytes as a word. -/
def word4 (b : List Nat) (i : Nat) : Nat := b.getD (4 * i) 0 * 16777216 + b.getD (4 * i + 1) 0 * 65536 + b.getD (4 * i + 2) 0 * 256 + b.getD (4 * i + 3) 0
def words16 (b : List Nat) : List Nat := (List.range 16).map (word4 b)
/-- A block of 64 bytes into a state. -/
def mix (s : St) (b : List Nat) : St := mixW s (words16 b)
/-- All whole blocks of a text, from block i on, n of them. -/
def blocks (s : St) (b : List Nat) : Nat → St
  | 0 => s
  | n + 1 => mix (blocks s b n) ((b.drop (64 * n)).take 64)
theorem mix_ok (s : St) (b : List Nat) : (mix s b).ok := plus_ok _ _
theorem blocks_ok {s : St} (h : s.ok) (b : List Nat) (n : Nat) : (blocks s b n).ok := by
  cases n with
  | zero => exact h
  | succ n => exact mix_ok _ _

/-- How many noughts stand behind the 128. -/
def noughts (n : Nat) : Nat := (119 - n % 64) % 64
/-- The length in bits, as eight bytes. -/
def tail8 (n : Nat) : List Nat := (List.range 8).map fun i => n * 8 / 2 ^ (56 - 8 * i) % 256
def pad (b : List Nat) : List Nat := b ++ [128] ++ List.replicate (noughts b.length) 0 ++ tail8 b.length
def bytes4 (x : Nat) : List Nat := [x / 16777216, x / 65536 % 256, x / 256 % 256, x % 256]
def out (s : St) : List Nat := s.list.flatMap bytes4
/-- The sum of a text. -/
def sum (b : List Nat) : List Nat := out (blocks H0 (pad b) ((pad b).length / 64))

theorem pad_length (b : List Nat) : (pad b).length = b.length + 9 + noughts b.length := by
  unfold pad tail8; simp only [List.length_append, List.length_replicate, List.length_map, List.length_range, List.length_cons, List.length_nil]; omega
theorem pad_mod (b : List Nat) : (pad b).length % 64 = 0 := by
  rw [pad_length]; unfold noughts; omega
end Sp
end Go.Proofs.Ytblgldllfllcpaa
