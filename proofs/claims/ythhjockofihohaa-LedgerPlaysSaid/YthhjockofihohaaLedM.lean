/- A ledger in memory; the contracts of find, amount and part. -/
import Derived.Test.YthhjockofihohaaLed
import Derived.Test.YthhjockofihohaaBlk
import Derived.Test.YthhjockofihohaaOwn
import Derived.WalkKit
import Derived.WalkLawsBesides
import Derived.Lib.Hide
import Derived.Outline
import Derived.Deep.QuietTactic
import Derived.BigQuiet
import Derived.StillTailTactics
import Derived.Deep.Cut
import Derived.Deep.LoopGhost
import Derived.Deep.RegionHeld3
namespace Go.Proofs.Ythhjockofihohaa
open Go.RowKit
/-- All accounts as cells. -/
def lcells (x : Led) : List Value := (List.range (x.n * 12)).map fun j => if j % 12 = 11 then .string (x.r (j / 12)) else .int .i64 (x.z (j / 12) (j % 12))
theorem lcells_length (x : Led) : (lcells x).length = x.n * 12 := by simp [lcells]
theorem lcells_num (x : Led) {i k : Nat} (hi : i < x.n) (hk : k < 11) : (lcells x)[i * 12 + k]? = some (.int .i64 (x.z i k)) := by
  unfold lcells
  rw [List.getElem?_map, List.getElem?_range (by omega), Option.map_some, if_neg (by omega), show (i * 12 + k) / 12 = i from by omega, show (i * 12 + k) % 12 = k from by omega]
theorem lcells_text (x : Led) {i : Nat} (hi : i < x.n) : (lcells x)[i * 12 + 11]? = some (.string (x.r i)) := by
  unfold lcells
  rw [List.getElem?_map, List.getElem?_range (by omega), Option.map_some, if_pos (by omega), show (i * 12 + 11) / 12 = i from by omega]
theorem lcells_set (x : Led) {i k : Nat} (hk : k < 11) (v : Int) : (lcells x).set (i * 12 + k) (.int .i64 v) = lcells (x.upd i k v) := by
  apply List.ext_getElem?
  intro j
  rw [List.getElem?_set]
  by_cases e : i * 12 + k = j
  · subst e
    rw [if_pos rfl, lcells_length]
    by_cases hl : i * 12 + k < x.n * 12
    · rw [if_pos hl, lcells_num (x.upd i k v) (show i < (x.upd i k v).n by show i < x.n; omega) hk, Led.upd_at, if_pos ⟨rfl, rfl⟩]
    · rw [if_neg hl, List.getElem?_eq_none]
      rw [lcells_length]; show x.n * 12 ≤ _; omega
  · rw [if_neg e]
    unfold lcells
    show _ = ((List.range (x.n * 12)).map _)[j]?
    rw [List.getElem?_map, List.getElem?_map]
    by_cases hj : j < x.n * 12
    · rw [List.getElem?_range hj, Option.map_some, Option.map_some]
      by_cases h11 : j % 12 = 11
      · rw [if_pos h11, if_pos h11]; rfl
      · rw [if_neg h11, if_neg h11, Led.upd_at, if_neg (by omega)]
    · rw [List.getElem?_eq_none (by simp; omega)]; rfl
/-- A ledger in memory. -/
structure AtL (w : World) (g gl : Nat) (x : Led) : Prop where
  head : Blk w g 58 #[.int .i64 x.goods, .slice (some ⟨gl, 0, none⟩) x.n x.n]
  list : Blk w gl 60 (lcells x).toArray
  ne : g ≠ gl
  ok : x.Ok
section
variable {w w' : World} {g gl : Nat} {x : Led}
theorem AtL.below (h : AtL w g gl x) {B : Nat} (hb : Below B w w') (hg : g < B) (hl : gl < B) : AtL w' g gl x := ⟨h.head.below hb hg, h.list.below hb hl, h.ne, h.ok⟩
theorem AtL.next (h : AtL w g gl x) (hb : Below w.heap.size w w') : AtL w' g gl x := h.below hb h.head.lt h.list.lt
theorem AtL.drewN (h : AtL w g gl x) (k : Nat) : AtL (w.drewN k) g gl x := ⟨h.head, h.list, h.ne, h.ok⟩
theorem AtL.cells (h : AtL w g gl x) : w.cell? ⟨g, 0, none⟩ = some (.int .i64 x.goods) ∧ w.cell? ⟨g, 1, none⟩ = some (.slice (some ⟨gl, 0, none⟩) x.n x.n) := ⟨h.head.cell 0, h.head.cell 1⟩
theorem AtL.num (h : AtL w g gl x) {i k : Nat} (hi : i < x.n) (hk : k < 11) : w.cell? ⟨gl, i * 12 + k, none⟩ = some (.int .i64 (x.z i k)) := by
  rw [h.list.cell, List.getElem?_toArray, lcells_num x hi hk]
theorem AtL.text (h : AtL w g gl x) {i : Nat} (hi : i < x.n) : w.cell? ⟨gl, i * 12 + 11, none⟩ = some (.string (x.r i)) := by
  rw [h.list.cell, List.getElem?_toArray, lcells_text x hi]
theorem AtL.put (h : AtL w g gl x) {i k : Nat} (hk : k < 11) (v : Int) (hok : (x.upd i k v).Ok) : AtL (w.setCell ⟨gl, i * 12 + k, none⟩ (.int .i64 v)) g gl (x.upd i k v) := by
  refine ⟨h.head.far h.ne _, ?_, h.ne, hok⟩
  have := h.list.set_ (i * 12 + k) (.int .i64 v)
  rw [List.setIfInBounds_toArray, lcells_set x hk] at this
  exact this
end
theorem find_bad (w : World) (g gl : Nat) (x : Led) (h : AtL w g gl x) (who : Int) (hw : who < 0 ∨ x.n ≤ who) :
    Calls Try.prog 29 #[.pointer (some ⟨g, 0, none⟩), .int .i64 who] w fun e w' => e = .returned (.tuple #[.pointer none, .int .i64 60]) ∧ w = w' := by
  obtain ⟨c0, c1⟩ := h.cells
  clear h
  by_cases h0 : who < 0
  · clear hw
    go_enter Try.func29, Try.ntmps29
    go_wp2
    go_ret2
    exact ⟨rfl, rfl⟩
  · have h1 : 0 ≤ who := by omega
    have h2 : (x.n : Int) ≤ who := by omega
    clear hw h0
    go_enter Try.func29, Try.ntmps29
    go_wp2
    go_ret2
    exact ⟨rfl, rfl⟩
theorem find_ok (w : World) (g gl : Nat) (x : Led) (h : AtL w g gl x) (i : Nat) (hi : i < x.n) :
    Calls Try.prog 29 #[.pointer (some ⟨g, 0, none⟩), .int .i64 (i : Int)] w fun e w' => e = .returned (.tuple #[.pointer (some ⟨gl, i * 12, none⟩), .int .i64 0]) ∧ w = w' := by
  obtain ⟨c0, c1⟩ := h.cells
  have h1 : (0 : Int) ≤ (i : Int) := by omega
  have h2 : (i : Int) < (x.n : Int) := by omega
  clear h
  go_enter Try.func29, Try.ntmps29
  go_wp2
  go_ret2
  exact ⟨rfl, rfl⟩
theorem amount_calls (w : World) (n : Int) (v : Bool) (hv : Hid (decide (1 ≤ n ∧ n ≤ 1099511627776) = v)) :
    Calls Try.prog 42 #[.int .i64 n] w fun e w' => e = .returned (.bool v) ∧ w = w' := by
  by_cases h0 : 1 ≤ n
  · by_cases h1 : n ≤ 1099511627776
    · have e : v = true := by rw [← hv.out]; exact decide_eq_true ⟨h0, h1⟩
      subst e
      clear hv
      go_enter Try.func42, Try.ntmps42
      go_wp2
      go_ret
      exact ⟨rfl, rfl⟩
    · have e : v = false := by rw [← hv.out]; exact decide_eq_false fun h => h1 h.2
      have h2 : 1099511627776 < n := by omega
      subst e
      clear hv
      have H1 := Lib.hid (decide_eq_false h1)
      clear h1
      go_enter Try.func42, Try.ntmps42
      go_wp2
      go_ret
      exact ⟨by rw [← H1.out]; rfl, rfl⟩
  · have e : v = false := by rw [← hv.out]; exact decide_eq_false fun h => h0 h.1
    have h2 : n < 1 := by omega
    subst e
    clear hv h0
    go_enter Try.func42, Try.ntmps42
    go_wp2
    go_ret
    exact ⟨rfl, rfl⟩
theorem part_ok (w : World) (g gl : Nat) (x : Led) (h : AtL w g gl x) (i : Nat) (hi : i < x.n) (good n : Int) (h0 : 0 ≤ good) (h1 : good < x.goods) (h2 : 1 ≤ n) (h3 : n ≤ 1099511627776) :
    Calls Try.prog 39 #[.pointer (some ⟨g, 0, none⟩), .int .i64 (i : Int), .int .i64 good, .int .i64 n] w fun e w' => e = .returned (.tuple #[.pointer (some ⟨gl, i * 12, none⟩), .int .i64 0]) ∧ w = w' := by
  obtain ⟨c0, c1⟩ := h.cells
  have HF := Lib.hid (find_ok w g gl x h i hi)
  have HA := Lib.hid (amount_calls w n true (Lib.hid (decide_eq_true ⟨h2, h3⟩)))
  clear h
  go_enter Try.func39, Try.ntmps39
  go_wp2_with (first
    | (go_at_call 29; (with_reducible refine HF.out.mono ?_); rintro e w1 ⟨rfl, rfl⟩)
    | (go_at_call 42; (with_reducible refine HA.out.mono ?_); rintro e w1 ⟨rfl, rfl⟩))
  go_ret2
  exact ⟨rfl, rfl⟩
theorem part_bad (w : World) (g gl : Nat) (x : Led) (h : AtL w g gl x) (who good n : Int) (he : x.err who good n ≠ 0) :
    Calls Try.prog 39 #[.pointer (some ⟨g, 0, none⟩), .int .i64 who, .int .i64 good, .int .i64 n] w fun e w' => (∃ p, e = .returned (.tuple #[.pointer p, .int .i64 (x.err who good n)])) ∧ w = w' := by
  obtain ⟨c0, c1⟩ := h.cells
  by_cases hw : who < 0 ∨ x.n ≤ who
  · have e : x.err who good n = 60 := by unfold Led.err; rw [if_pos hw]
    rw [e]
    have HF := Lib.hid (find_bad w g gl x h who hw)
    clear h hw he e
    go_enter Try.func39, Try.ntmps39
    go_wp2_with (first
      | (go_at_call 29; (with_reducible refine HF.out.mono ?_); rintro e w1 ⟨rfl, rfl⟩))
    go_ret2
    exact ⟨⟨_, rfl⟩, rfl⟩
  · obtain ⟨i, rfl⟩ : ∃ i : Nat, who = (i : Int) := ⟨who.toNat, by omega⟩
    have hi : i < x.n := by omega
    have hb : good < 0 ∨ x.goods ≤ good ∨ n < 1 ∨ 1099511627776 < n := by
      by_cases hb : good < 0 ∨ x.goods ≤ good ∨ n < 1 ∨ 1099511627776 < n
      · exact hb
      · exact absurd (by unfold Led.err; rw [if_neg hw, if_neg hb]) he
    have e : x.err i good n = 1 := by unfold Led.err; rw [if_neg hw, if_pos hb]
    rw [e]
    have HF := Lib.hid (find_ok w g gl x h i hi)
    clear h hw he e hi
    by_cases h0 : good < 0
    · clear hb
      go_enter Try.func39, Try.ntmps39
      go_wp2_with (first
        | (go_at_call 29; (with_reducible refine HF.out.mono ?_); rintro e w1 ⟨rfl, rfl⟩))
      go_ret2
      exact ⟨⟨_, rfl⟩, rfl⟩
    · have h0' : 0 ≤ good := by omega
      by_cases h1 : x.goods ≤ good
      · clear hb h0
        go_enter Try.func39, Try.ntmps39
        go_wp2_with (first
          | (go_at_call 29; (with_reducible refine HF.out.mono ?_); rintro e w1 ⟨rfl, rfl⟩))
        go_ret2
        exact ⟨⟨_, rfl⟩, rfl⟩
      · have h1' : good < x.goods := by omega
        have HA := Lib.hid (amount_calls w n false (Lib.hid (decide_eq_false (by omega))))
        clear hb h0 h1
        go_enter Try.func39, Try.ntmps39
        go_wp2_with (first
          | (go_at_call 29; (with_reducible refine HF.out.mono ?_); rintro e w1 ⟨rfl, rfl⟩)
          | (go_at_call 42; (with_reducible refine HA.out.mono ?_); rintro e w1 ⟨rfl, rfl⟩))
        go_ret2
        exact ⟨⟨_, rfl⟩, rfl⟩
end Go.Proofs.Ythhjockofihohaa
