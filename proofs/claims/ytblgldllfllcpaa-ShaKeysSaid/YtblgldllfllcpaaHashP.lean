/- A hash in memory: what it holds, and the plain facts of its blocks. -/
import Derived.Test.YtblgldllfllcpaaMix
import Derived.Test.YtblgldllfllcpaaOwn
namespace Go.Proofs.Ytblgldllfllcpaa
open Go.RowKit
/-- Bytes as cells, and a text's bytes. -/
def u8c (l : List Nat) : List Value := l.map fun (n : Nat) => Value.int .u8 (n : Int)
def bts (s : ByteArray) : List Nat := s.data.toList.map (·.toNat)
theorem bts_length (s : ByteArray) : (bts s).length = s.size := by
  unfold bts; rw [List.length_map, Array.length_toList]; rfl
theorem bts_lt (s : ByteArray) : ∀ x ∈ bts s, x < 256 := by
  intro x hx
  obtain ⟨b, _, rfl⟩ := List.mem_map.1 hx
  exact b.toNat_lt
theorem byteCells_bts (s : ByteArray) : byteCells s = u8c (bts s) := by
  unfold byteCells u8c bts; rw [List.map_map]; rfl
theorem u8c_length (l : List Nat) : (u8c l).length = l.length := by simp [u8c]
theorem u8c_append (l m : List Nat) : u8c (l ++ m) = u8c l ++ u8c m := by simp [u8c]
theorem u8c_drop (l : List Nat) (k : Nat) : u8c (l.drop k) = (u8c l).drop k := by simp [u8c]
theorem u8c_take (l : List Nat) (k : Nat) : u8c (l.take k) = (u8c l).take k := by simp [u8c]
theorem u8c_at (l : List Nat) {j : Nat} (h : j < l.length) : (u8c l).getD j (.bool false) = .int .u8 ((l.getD j 0 : Nat) : Int) := by
  simp [u8c, List.getD_eq_getElem?_getD, List.getElem?_eq_getElem h]

namespace Sp
theorem blocks_prefix (s : St) (t u : List Nat) : ∀ n, 64 * n ≤ t.length → blocks s (t ++ u) n = blocks s t n
  | 0, _ => rfl
  | n + 1, h => by
    rw [blocks, blocks, blocks_prefix s t u n (by omega), List.drop_append_of_le_length (by omega), List.take_append_of_le_length (by rw [List.length_drop]; omega)]
theorem word4_eq (t : List Nat) (k : Nat) (i : Nat) (hi : i < 16) : wd (fun j => (t.drop k).getD j 0) i = word4 ((t.drop k).take 64) i := by
  unfold wd word4
  have e : ∀ j, j < 64 → ((t.drop k).take 64).getD j 0 = (t.drop k).getD j 0 := fun j hj => by
    rw [List.getD_eq_getElem?_getD, List.getD_eq_getElem?_getD, List.getElem?_take_of_lt hj]
  rw [e _ (by omega), e _ (by omega), e _ (by omega), e _ (by omega)]
theorem mix_step (s : St) (t : List Nat) (n : Nat) : mixW (blocks s t n) (w16 fun j => (t.drop (64 * n)).getD j 0) = blocks s t (n + 1) := by
  have e : w16 (fun j => (t.drop (64 * n)).getD j 0) = words16 ((t.drop (64 * n)).take 64) := by
    unfold w16 words16
    exact List.map_congr_left fun i hi => word4_eq t (64 * n) i (List.mem_range.1 hi)
  rw [blocks, mix, e]
end Sp

/-- A hash's cells. -/
def hcells (st : Sp.St) (v : Value) (n : Nat) : Array Value := #[.bool true, .int .u32 (st.a : Nat), .int .u32 (st.b : Nat), .int .u32 (st.c : Nat), .int .u32 (st.d : Nat), .int .u32 (st.e : Nat), .int .u32 (st.f : Nat), .int .u32 (st.g : Nat), .int .u32 (st.h : Nat), v, .int .u64 (n : Nat)]
/-- Block g is a hash behind k blocks of the text t; what stands behind them lies in block b. -/
def HashAt (w : World) (g : Nat) (b : Option Nat) (t : List Nat) (k size : Nat) : Prop :=
  ∃ A c, Blk w g 37 (hcells (Sp.blocks Sp.H0 t k) (.slice A (t.length - 64 * k) c) size) ∧ Own w 1 (.slice A (t.length - 64 * k) c) b (t.length - 64 * k) (u8c (t.drop (64 * k))) ∧ b ≠ some g ∧ 64 * k ≤ t.length ∧ ∀ x ∈ t, x < 256
def HashOf (w : World) (g : Nat) (b : Option Nat) (t : List Nat) : Prop := HashAt w g b t (t.length / 64) t.length
section
variable {w w' : World} {g : Nat} {b : Option Nat} {t : List Nat} {k size : Nat}
theorem HashAt.carry (h : HashAt w g b t k size) (hs : w.heap.size ≤ w'.heap.size) (hg : w'.heap[g]? = w.heap[g]?) (hb : ∀ i, b = some i → w'.heap[i]? = w.heap[i]?) : HashAt w' g b t k size := by
  obtain ⟨A, c, h1, h2, h3, h4, h5⟩ := h
  exact ⟨A, c, by unfold Blk at *; rw [hg]; exact h1, h2.carry hs hb, h3, h4, h5⟩
theorem HashAt.lt (h : HashAt w g b t k size) : g < w.heap.size := by
  obtain ⟨_, _, h1, _⟩ := h
  exact h1.lt
theorem HashAt.only (h : HashAt w g b t k size) {S : Nat → Prop} (ho : Only S w w') (hg : ¬ S g) (hb : ∀ i, b = some i → ¬ S i) : HashAt w' g b t k size := by
  obtain ⟨A, c, h1, h2, h3⟩ := id h
  exact h.carry ho.size (ho.block g h1.lt hg) fun i hi => ho.block i (h2.lt hi) (hb i hi)
theorem HashAt.below (h : HashAt w g b t k size) (hb : Below w.heap.size w w') : HashAt w' g b t k size := h.only (Only.of_below (S := fun _ => False) hb) (fun e => e) fun _ _ e => e
end
/-- The blocks of a hash. -/
def feet (g : Nat) (b : Option Nat) : Nat → Prop := fun k => k = g ∨ b = some k
theorem u32s_list (s : Sp.St) : u32s s.list = #[.int .u32 (s.a : Nat), .int .u32 (s.b : Nat), .int .u32 (s.c : Nat), .int .u32 (s.d : Nat), .int .u32 (s.e : Nat), .int .u32 (s.f : Nat), .int .u32 (s.g : Nat), .int .u32 (s.h : Nat)] := rfl
set_option maxRecDepth 100000 in
theorem new_calls (w : World) : Calls Try.prog 13 #[] w fun e w' => ∃ g, e = .returned (.pointer (some ⟨g, 0, none⟩)) ∧ w.heap.size ≤ g ∧ HashOf w' g none [] ∧ Below w.heap.size w w' := by
  go_enter Try.func13, Try.ntmps13
  go_wp2_with (first | (go_at_call 22; refine (begin_calls _).mono ?_; rintro e w1 ⟨rfl, hb⟩; rw [u32s_list]))
  go_ret
  refine ⟨_, rfl, hb.size, ⟨none, 0, Blk.new _ _ _, Own.none_ _ _, nofun, Nat.le_refl _, nofun⟩, hb.alloc hb.size _⟩
end Go.Proofs.Ytblgldllfllcpaa
