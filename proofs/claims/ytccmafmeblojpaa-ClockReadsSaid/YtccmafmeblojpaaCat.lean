/- The bytes of laid numbers, one behind the other, are read back. -/
import Derived.Test.YtccmafmeblojpaaBytes
import Derived.Test.YtccmafmeblojpaaRd
namespace Go.Proofs.Ytccmafmeblojpaa
theorem byt_append (s t : ByteArray) : byt (s ++ t) = byt s ++ byt t := by
  unfold byt
  rw [ByteArray.data_append, Array.toList_append, List.map_append]
theorem num_lt : ∀ (n : Nat), ∀ c ∈ num n, c < 256 := by
  intro n
  induction n using Nat.strongRecOn with
  | _ n ih =>
    intro c hc
    by_cases h : n < 128
    · rw [num_small h, List.mem_singleton] at hc; omega
    · rw [num_big h, List.mem_cons] at hc
      rcases hc with rfl | hc
      · omega
      · exact ih (n / 128) (by omega) c hc
theorem byt_strOf {l : List Nat} (h : ∀ c ∈ l, c < 256) : byt (strOf l) = l := by
  unfold byt strOf
  rw [strOfNums_data, List.map_map, List.map_map]
  conv => rhs; rw [← List.map_id l]
  refine List.map_congr_left fun c hc => ?_
  have := h c hc
  show (UInt8.ofNat ((c : Int)).toNat).toNat = c
  rw [Int.toNat_natCast, UInt8.toNat_ofNat']
  omega
def bytN (L : List Int) : List Nat := L.flatMap fun n => num n.toNat
theorem byt_catN : ∀ L : List Int, byt (catN L) = bytN L := by
  intro L
  have key : ∀ (L : List Int) (s : ByteArray), byt (L.foldl (fun s n => s ++ strOf (num n.toNat)) s) = byt s ++ bytN L := by
    intro L
    induction L with
    | nil => intro s; simp [bytN]
    | cons n L ih =>
      intro s
      rw [List.foldl_cons, ih, byt_append, byt_strOf (num_lt _), List.append_assoc]; rfl
  have := key L ⟨#[]⟩
  simpa [catN, byt] using this
theorem bytN_append (L M : List Int) : bytN (L ++ M) = bytN L ++ bytN M := by unfold bytN; rw [List.flatMap_append]
/-- Read at the k-th number's place: it comes back, and the place behind it is the next one's. -/
theorem rd_laid {L : List Int} (h : ∀ n ∈ L, 0 ≤ n ∧ n ≤ 9007199254740992) {k : Nat} (hk : k < L.length) :
    rdGo ((byt (catN L)).drop (catN (L.take k)).size) 0 0 = .ok (L.getD k 0).toNat (num (L.getD k 0).toNat).length := by
  have hg : L.getD k 0 ∈ L := by rw [List.getD_eq_getElem?_getD, List.getElem?_eq_getElem hk]; exact List.getElem_mem hk
  have hL : L = L.take k ++ (L.getD k 0 :: L.drop (k + 1)) := by
    rw [List.getD_eq_getElem?_getD, List.getElem?_eq_getElem hk, Option.getD_some, ← List.drop_eq_getElem_cons hk, List.take_append_drop]
  have hs : (catN (L.take k)).size = (bytN (L.take k)).length := by rw [← byt_catN, byt_length]
  have e : byt (catN L) = bytN (L.take k) ++ (num (L.getD k 0).toNat ++ bytN (L.drop (k + 1))) := by
    rw [byt_catN]
    conv => lhs; rw [hL]
    rw [bytN_append]; rfl
  rw [e, hs, List.drop_left]
  have hb := h _ hg
  have := rdGo_num (L.getD k 0).toNat 0 0 (bytN (L.drop (k + 1))) (by omega) (.inr rfl) (by omega)
  rw [this]
  congr 1
  · omega
  · omega
theorem size_next {L : List Int} {k : Nat} (hk : k < L.length) : (catN (L.take k)).size + (num (L.getD k 0).toNat).length = (catN (L.take (k + 1))).size := by
  have e : L.take (k + 1) = L.take k ++ [L.getD k 0] := by
    rw [List.take_add_one, List.getD_eq_getElem?_getD, List.getElem?_eq_getElem hk]; rfl
  rw [e, catN_snoc, ByteArray.size_append, ← byt_length (strOf _), byt_strOf (num_lt _)]
theorem num_pos (n : Nat) : 0 < (num n).length := by
  by_cases h : n < 128
  · rw [num_small h]; simp
  · rw [num_big h]; simp
theorem size_lt {L : List Int} {k : Nat} (hk : k < L.length) : (catN (L.take k)).size < (catN L).size := by
  have h1 : (catN (L.take k)).size = (bytN (L.take k)).length := by rw [← byt_catN, byt_length]
  have h2 : (catN L).size = (bytN L).length := by rw [← byt_catN, byt_length]
  have hL : L = L.take k ++ (L.getD k 0 :: L.drop (k + 1)) := by
    rw [List.getD_eq_getElem?_getD, List.getElem?_eq_getElem hk, Option.getD_some, ← List.drop_eq_getElem_cons hk, List.take_append_drop]
  have h3 : bytN L = bytN (L.take k) ++ (num (L.getD k 0).toNat ++ bytN (L.drop (k + 1))) := by
    conv => lhs; rw [hL]
    rw [bytN_append]; rfl
  have h4 := num_pos (L.getD k 0).toNat
  rw [h1, h2, h3]
  simp only [List.length_append]
  omega
end Go.Proofs.Ytccmafmeblojpaa
