/- Cut and Enter write the log's own block alone; rows of Bools; what is told, read again. -/
import Derived.Test.YtedndjbhgbdpoaaVk
import Derived.Test.YtedndjbhgbdpoaaVlC
namespace Go.Proofs.Ytedndjbhgbdpoaa
open Go.RowKit
section
variable {w0 w w' : World} {g : Nat} {l : Vl}
def TurnedG (w0 w : World) (g : Nat) (r : Vl × Int) (e : Ending) (w' : World) : Prop := e = .returned (.int .i64 r.2) ∧ Vw w0 w' g r.1 ∧ Only (fun x => x = g) w w'
theorem Vw.cut_ (h : Vw w0 w g l) (seq : Int) : Calls Try.prog 27 #[.pointer (some ⟨g, 0, none⟩), .int .i64 seq] w (TurnedG w0 w g (l.cut seq)) := by
  obtain ⟨gm, gv, kv, h1, h2, h3, h4, h5⟩ := h
  refine (cut_calls h1 seq).mono fun e w' ⟨a, b, c⟩ => ⟨a, ?_, c⟩
  obtain ⟨gv', kv', b1, b2⟩ := b
  refine ⟨gm, gv', kv', b1, h2, h3, fun k j x hk hj hx => ?_, h5.trans (c.below h5.size fun x hx => hx ▸ h2)⟩
  exact (b2 k j x hk hj hx).elim (fun h => h4 k j x hk hj h) fun h => Nat.le_trans h5.size h
theorem Vw.enter_ (h : Vw w0 w g l) (view : Int) : Calls Try.prog 29 #[.pointer (some ⟨g, 0, none⟩), .int .i64 view] w (TurnedG w0 w g (l.enter view)) := by
  obtain ⟨gm, gv, kv, h1, h2, h3, h4, h5⟩ := h
  refine (enter_calls h1 view).mono fun e w' ⟨a, b, c⟩ => ⟨a, ?_, c⟩
  obtain ⟨gv', kv', b1, b2⟩ := b
  refine ⟨gm, gv', kv', b1, h2, h3, fun k j x hk hj hx => ?_, h5.trans (c.below h5.size fun x hx => hx ▸ h2)⟩
  exact (b2 k j x hk hj hx).elim (fun h => h4 k j x hk hj h) fun h => Nat.le_trans h5.size h
theorem Vw.lt (h : Vw w0 w g l) : g < w.heap.size := by
  obtain ⟨gm, gv, kv, h1, _⟩ := h
  exact h1.blk.lt
theorem Blk.only {gb : Nat} {t : TypeId} {cs : Array Value} (h : Blk w gb t cs) {S : Nat → Prop} (ho : Only S w w') (hS : ¬ S gb) : Blk w' gb t cs := (ho.block gb h.lt hS).trans h
end
/-- A row of Bools, filled up to the k-th. -/
def bools (f : Nat → Bool) (n k : Nat) : List Value := (List.range n).map fun j => .bool (if j < k then f j else false)
theorem bools_at (f : Nat → Bool) (n k : Nat) {j : Nat} (hj : j < n) : (bools f n k)[j]? = some (.bool (if j < k then f j else false)) := by
  unfold bools
  rw [List.getElem?_map, List.getElem?_range hj]; rfl
theorem bools_put (f : Nat → Bool) (n k : Nat) (hk : k < n) : (bools f n k).toArray.setIfInBounds k (.bool (f k)) = (bools f n (k + 1)).toArray := by
  have hlen : ∀ k, (bools f n k).length = n := fun k => by unfold bools; simp
  rw [List.setIfInBounds_toArray]
  congr 1
  apply List.ext_getElem?
  intro i
  rw [List.getElem?_set]
  by_cases hi : i < n
  · rw [bools_at f n (k + 1) hi]
    by_cases e : k = i
    · subst e
      rw [if_pos rfl, if_pos (by rw [hlen]; exact hk), if_pos (by omega)]
    · rw [if_neg e, bools_at f n k hi]
      by_cases h2 : i < k
      · rw [if_pos h2, if_pos (by omega)]
      · rw [if_neg h2, if_neg (by omega)]
  · rw [if_neg (by omega), List.getElem?_eq_none (by rw [hlen]; omega), List.getElem?_eq_none (by rw [hlen]; omega)]
theorem bools_none (f : Nat → Bool) : (bools f 9 0).toArray = #[.bool false, .bool false, .bool false, .bool false, .bool false, .bool false, .bool false, .bool false, .bool false] := by rfl
theorem count_snoc {α : Type} (L : List α) (p : α → Bool) {i : Nat} (hi : i < L.length) (z : α) : (L.take (i + 1)).countP p = (L.take i).countP p + (if p (L.getD i z) = true then 1 else 0) := by
  rw [List.take_succ_eq_append_getElem hi, List.countP_append, List.getD_eq_getElem?_getD, List.getElem?_eq_getElem hi]
  simp [List.countP_cons]
end Go.Proofs.Ytedndjbhgbdpoaa
