/- The plain facts behind the walk of mix: rows of words, and what of the world the walk keeps. -/
import Derived.Test.YtblgldllfllcpaaRot
import Derived.Test.YtblgldllfllcpaaBlk
namespace Go.Proofs.Ytblgldllfllcpaa
open Go.RowKit
namespace Sp
/-- Word k of sixteen, out of bytes. -/
def wd (b : Nat → Nat) (k : Nat) : Nat := b (4*k) * 16777216 + b (4*k+1) * 65536 + b (4*k+2) * 256 + b (4*k+3)
theorem wd_lt {b : Nat → Nat} (h : ∀ j, b j < 256) (k : Nat) : wd b k < 4294967296 := by
  unfold wd; have := h (4*k); have := h (4*k+1); have := h (4*k+2); have := h (4*k+3); omega
def w16 (b : Nat → Nat) : List Nat := (List.range 16).map (wd b)
theorem w16_length (b : Nat → Nat) : (w16 b).length = 16 := by unfold w16; simp
theorem w16_lt {b : Nat → Nat} (h : ∀ j, b j < 256) : allLt (w16 b) := by
  intro x hx
  obtain ⟨j, _, rfl⟩ := List.mem_map.1 hx
  exact wd_lt h j
end Sp
theorem or4 (p q r s : Nat) (hp : p < 256) (hq : q < 256) (hr : r < 256) (hs : s < 256) :
    bits .or .u32 (bits .or .u32 (bits .or .u32 ((p : Int) % 4294967296 * 16777216 % 4294967296) ((q : Int) % 4294967296 * 65536 % 4294967296)) ((r : Int) % 4294967296 * 256 % 4294967296)) ((s : Int) % 4294967296) =
      ((p * 16777216 + q * 65536 + r * 256 + s : Nat) : Int) := by
  rw [show (p : Int) % 4294967296 * 16777216 % 4294967296 = ((p * 16777216 : Nat) : Int) from by omega,
    show (q : Int) % 4294967296 * 65536 % 4294967296 = ((q * 65536 : Nat) : Int) from by omega,
    show (r : Int) % 4294967296 * 256 % 4294967296 = ((r * 256 : Nat) : Int) from by omega,
    show (s : Int) % 4294967296 = ((s : Nat) : Int) from by omega]
  rw [u32_or_nat _ _ (by omega) (by omega), nat_join 24 _ _ (by omega) (by omega), u32_or_nat _ _ (by omega) (by omega), nat_join 16 _ _ (by omega) (by omega), u32_or_nat _ _ (by omega) (by omega), nat_join 8 _ _ (by omega) (by omega)]

/-- Words as far as they are laid, noughts behind them. -/
def wrow (l : List Nat) : Array Value := (l.map (fun (n : Nat) => Value.int .u32 (n : Int)) ++ List.replicate (64 - l.length) (Value.int .u32 0)).toArray
theorem wrow_get {l : List Nat} {j : Nat} (h : j < l.length) : (wrow l)[j]? = some (.int .u32 ((l.getD j 0 : Nat) : Int)) := by
  unfold wrow
  rw [List.getElem?_toArray, List.getElem?_append_left (by simpa using h), List.getElem?_map, List.getD_eq_getElem?_getD, List.getElem?_eq_getElem h]; rfl
theorem wrow_zero {l : List Nat} (h : l.length < 64) : (wrow l)[l.length]? = some (.int .u32 0) := by
  unfold wrow
  rw [List.getElem?_toArray, List.getElem?_append_right (by simp), List.length_map, Nat.sub_self, List.getElem?_replicate, if_pos (by omega)]
theorem wrow_set {l : List Nat} (h : l.length < 64) (x : Nat) : (wrow l).setIfInBounds l.length (.int .u32 (x : Int)) = wrow (l ++ [x]) := by
  unfold wrow
  rw [List.setIfInBounds_toArray]
  congr 1
  rw [List.set_append_right _ _ (by simp), List.length_map, Nat.sub_self]
  obtain ⟨m, hm⟩ : ∃ m, 64 - l.length = m + 1 := ⟨63 - l.length, by omega⟩
  rw [hm, List.replicate_succ, List.set_cons_zero, List.map_append, List.append_assoc, List.length_append]
  have : 64 - (l.length + [x].length) = m := by simp; omega
  rw [this]; rfl
theorem wrow_full {l : List Nat} (h : l.length = 64) : wrow l = u32s l := by
  unfold wrow u32s; rw [h]; simp
theorem u32s_get {l : List Nat} {j : Nat} (h : j < l.length) : (u32s l)[j]? = some (.int .u32 ((l.getD j 0 : Nat) : Int)) := by
  unfold u32s
  rw [List.getElem?_toArray, List.getElem?_map, List.getD_eq_getElem?_getD, List.getElem?_eq_getElem h]; rfl
theorem u32s_set {l : List Nat} (j x : Nat) : (u32s l).setIfInBounds j (.int .u32 (x : Int)) = u32s (l.set j x) := by
  unfold u32s
  rw [List.setIfInBounds_toArray, List.map_set]

/-- What the walk of mix keeps: nothing below has turned; the three blocks. -/
def MixIn (w wr : World) (cs ws : Array Value) : Prop :=
  Below w.heap.size w wr ∧ Blk wr w.heap.size 33 cs ∧ (∃ z : Array Value, Hid (z.size = 8) ∧ Blk wr (w.heap.size + 1) 33 z) ∧ Blk wr (w.heap.size + 1 + 1) 51 ws
theorem mixIn_start (w : World) (cs z8 ws : Array Value) (h : z8.size = 8) : MixIn w (((w.alloc (.cells cs 33)).alloc (.cells z8 33)).alloc (.cells ws 51)) cs ws := by
  have hb : Below w.heap.size w (((w.alloc (.cells cs 33)).alloc (.cells z8 33)).alloc (.cells ws 51)) :=
    (((Below.refl _ _).alloc (Nat.le_refl _) _).alloc (by simp) _).alloc (by simp; omega) _
  refine ⟨hb, ((Blk.new _ _ _).alloc _).alloc _, ⟨z8, h, ?_⟩, ?_⟩
  · have := (Blk.new (w.alloc (.cells cs 33)) 33 z8).alloc (.cells ws 51)
    simpa using this
  · have := Blk.new ((w.alloc (.cells cs 33)).alloc (.cells z8 33)) 51 ws
    simpa using this
theorem below_setCell_drew {B : Nat} {w wr : World} (h : Below B w wr) {b j : Nat} (hb : B ≤ b) (v : Value) : Below B w (wr.setCell ⟨b, j, none⟩ v).drew :=
  (h.setCell (p := ⟨b, j, none⟩) hb v).drew
theorem MixIn.set_ {w wr : World} {cs ws : Array Value} (h : MixIn w wr cs ws) (k : Nat) (v : Value) : MixIn w ((wr.setCell ⟨w.heap.size + 1 + 1, k, none⟩ v).drew) cs (ws.setIfInBounds k v) := by
  obtain ⟨h1, h2, ⟨z, hz, h3⟩, h4⟩ := h
  refine ⟨below_setCell_drew h1 (by omega) v, (h2.far (by omega) v).drew, ⟨z, hz, (h3.far (by omega) v).drew⟩, (h4.set_ k v).drew⟩
theorem MixIn.drewN {w wr : World} {cs ws : Array Value} (h : MixIn w wr cs ws) (n : Nat) : MixIn w (wr.drewN n) cs ws := by
  obtain ⟨h1, h2, ⟨z, hz, h3⟩, h4⟩ := h
  exact ⟨⟨h1.os, h1.tape, h1.output, h1.size, h1.block⟩, h2, ⟨z, hz, h3⟩, h4⟩
theorem MixIn.drew {w wr : World} {cs ws : Array Value} (h : MixIn w wr cs ws) : MixIn w wr.drew cs ws := h.drewN 1
end Go.Proofs.Ytblgldllfllcpaa
