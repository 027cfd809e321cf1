/- A map whose keys are whole numbers, as a function; its look-ups and stores. -/
import Derived.Maps.OwnSet
import Derived.Maps.RangeWalk
import Derived.WalkArith
import Derived.Test.YtedndjbhgbdpoaaVl
namespace Go.Proofs.Ytedndjbhgbdpoaa
open Go.Maps Go.RowKit
open Go.ChangeMaps Go.MapKept Go.WideShapes
open Go.WideElems (Fit rd rg pl rd_key rd_val rg_of other_key)
abbrev heldAs : Value → Option (DataW Value × List MemPlace) := fun v => some (.held v, [])
/-- How many of the keys below 13 bear something. -/
def cnt (f : Int → Option Value) : Nat := (List.range 13).countP fun (i : Nat) => (f (i : Int)).isSome
theorem cnt_le (f : Int → Option Value) : cnt f ≤ 13 := by
  unfold cnt
  have := List.countP_le_length (p := fun i : Nat => (f (i : Int)).isSome) (l := List.range 13)
  rwa [List.length_range] at this
theorem countP_put (f : Int → Option Value) (v : Value) (i : Nat) : ∀ n, (List.range n).countP (fun (j : Nat) => ((putAt f i v) (j : Int)).isSome) = (List.range n).countP (fun (j : Nat) => (f (j : Int)).isSome) + (if i < n ∧ (f (i : Int)).isSome = false then 1 else 0)
  | 0 => by simp
  | n + 1 => by
    rw [List.range_succ, List.countP_append, List.countP_append, countP_put f v i n]
    simp only [List.countP_cons, List.countP_nil, Nat.zero_add]
    unfold putAt
    by_cases e : n = i
    · subst e
      simp only
      cases f (n : Int) <;> simp
    · have e2 : ¬ (n : Int) = (i : Int) := by omega
      rw [if_neg e2]
      by_cases h : i < n
      · have : i < n + 1 := by omega
        simp only [h, this, true_and]
        omega
      · have : ¬ i < n + 1 := by omega
        simp only [h, this, false_and]
        simp
theorem cnt_put (f : Int → Option Value) (v : Value) (i : Int) (h : 0 ≤ i ∧ i < 13) : cnt (putAt f i v) = cnt f + (if (f i).isSome then 0 else 1) := by
  obtain ⟨k, rfl⟩ : ∃ k : Nat, i = (k : Int) := ⟨i.toNat, by omega⟩
  have := countP_put f v k 13
  unfold cnt
  rw [this]
  have hk : k < 13 := by omega
  cases f (k : Int) <;> simp [hk]
/-- Block b is a map that bears just what f says. -/
def MapAt (P : Program) (k : TypeId) (w : World) (b : Nat) (f : Int → Option Value) : Prop :=
  ∃ D : DataW Value, w.ownsMap P k heldAs b 1000 D ∧ Maps.size D ≤ cnt f ∧ ∀ i, (Lit.int .i64 i).wf = true → ∀ zd, D.atKey (.int .i64 i) zd = match f i with | some v => .held v | none => zd
section
variable {P : Program} {k t e : TypeId} {w w' : World} {b : Nat} {f : Int → Option Value}
theorem MapAt.lt (h : MapAt P k w b f) : b < w.heap.size := by obtain ⟨D, h1, _⟩ := h; exact h1.lt
theorem MapAt.carry (h : MapAt P k w b f) (hb : w'.heap[b]? = w.heap[b]?) : MapAt P k w' b f := by
  obtain ⟨D, ⟨es, clock, h1, h2⟩, h3⟩ := h
  exact ⟨D, ⟨es, clock, hb.trans h1, h2⟩, h3⟩
theorem MapAt.cells (h : MapAt P k w b f) : ∃ es clock, w.heap[b]? = some (.map es clock) := by
  obtain ⟨D, ⟨es, clock, h1, _⟩, _⟩ := h
  exact ⟨es, clock, h1⟩
theorem MapAt.made (w : World) (P : Program) (k : TypeId) : MapAt P k (w.alloc (.map #[] 0)) w.heap.size fun _ => none :=
  ⟨.map [], (World.ownsMap_made w P k heldAs).mono (by omega), Nat.zero_le _, fun _ _ _ => rfl⟩
theorem wf64 {i : Int} (h : -9223372036854775808 ≤ i ∧ i ≤ 9223372036854775807) : (Lit.int .i64 i).wf = true := WalkArith.wf_i64 h
theorem lit_key (i : Int) : WideAt.IsKeyLit (Lit.int .i64 i) := trivial
variable (hk : P.underlying k = some (.int .i64)) (ht : P.underlying t = some (.map k e))
include hk ht
theorem MapAt.hit {v : Value} {i : Int} (c : Bool) (hz : ∃ z, (zeroValue e).run P w = .ok z w) (h : MapAt P k w b f) (hi : (Lit.int .i64 i).wf = true) (hf : f i = some v) :
    (Instr.lookup t (.map (some b)) (.int .i64 i) c).run P w = .ok (if c then .tuple #[v, .bool true] else v) w := by
  obtain ⟨D, ⟨es, clock, h1, F, h2, rfl⟩, h3, h4⟩ := h
  obtain ⟨z, hz⟩ := hz
  have h5 := h4 i hi
  rw [hf] at h5
  rcases fit_look c (int_keyed hk) ht hz h1 F (keyOf_int_mk hk hi) with ⟨_, _, hat⟩ | ⟨e0, y, _, _, hrun, hy, hat, _⟩
  · have := (hat .nil).symm.trans (h5 .nil)
    cases this
  · have := (hat .nil).symm.trans (h5 .nil)
    have hyv : heldAs e0.val = some y := hy
    simp only [heldAs, Option.some.injEq] at hyv
    rw [← hyv] at this
    cases this
    exact hrun
theorem MapAt.miss {z : Value} {i : Int} (c : Bool) (hz : (zeroValue e).run P w = .ok z w) (h : MapAt P k w b f) (hi : (Lit.int .i64 i).wf = true) (hf : f i = none) :
    (Instr.lookup t (.map (some b)) (.int .i64 i) c).run P w = .ok (if c then .tuple #[z, .bool false] else z) w := by
  obtain ⟨D, ⟨es, clock, h1, F, h2, rfl⟩, h3, h4⟩ := h
  have h5 := h4 i hi
  rw [hf] at h5
  rcases fit_look c (int_keyed hk) ht hz h1 F (keyOf_int_mk hk hi) with ⟨hrun, _, _⟩ | ⟨e0, y, _, _, _, _, hat, _⟩
  · exact hrun
  · have e1 := (hat .nil).symm.trans (h5 .nil)
    have e2 := (hat (.agg [])).symm.trans (h5 (.agg []))
    rw [e1] at e2
    cases e2
theorem nil_miss {z : Value} {i : Int} (c : Bool) (hz : (zeroValue e).run P w = .ok z w) (hi : (Lit.int .i64 i).wf = true) :
    (Instr.lookup t (.map none) (.int .i64 i) c).run P w = .ok (if c then .tuple #[z, .bool false] else z) w :=
  look_nil c (int_keyed hk) ht hz (keyOf_int_mk hk hi)
theorem MapAt.put (h : MapAt P k w b f) {i : Int} (hi : 0 ≤ i ∧ i < 13) (v : Value) :
    ∃ w', (Instr.mapUpdate t (.map (some b)) (.int .i64 i) v).run P w = .ok () w' ∧ MapAt P k w' b (putAt f i v) ∧ w.grownBy w' (some b) := by
  obtain ⟨D, h1, h2, h3⟩ := h
  have hwf : (Lit.int .i64 i).wf = true := wf64 (by omega)
  have htidy := h1.tidy (int_keyed hk)
  obtain ⟨w', hrun, h4, h5⟩ := h1.update (int_keyed hk) ht (by unfold maxLen; omega) (keyOf_int_mk hk hwf) (show heldAs v = some (.held v, []) from rfl)
  have hs := size_put (k := .int .i64 i) htidy (DataW.held v)
  have hc := cnt_put f v i hi
  have hh : (f i).isSome = has D (.int .i64 i) := by
    have := h3 i hwf
    cases hf : f i with
    | none =>
      rw [hf] at this
      rw [has_false_of_atKey this]; rfl
    | some x =>
      rw [hf] at this
      rw [has_true_of_atKey this]; rfl
  have hsz : Maps.size (D.put (.int .i64 i) (.held v)) ≤ cnt (putAt f i v) := by
    rw [hs, hc, hh]
    split <;> omega
  refine ⟨w', hrun, ⟨D.put (.int .i64 i) (.held v), ?_, hsz, fun j hj zd => ?_⟩, h5⟩
  · obtain ⟨es, clock, a1, a2, a3, a4⟩ := h4
    refine ⟨es, clock, a1, a2, ?_, a4⟩
    have := length_read (P := P) (k := k) (R0 := heldAs) es
    rw [a4] at hsz
    rw [size_eq, this] at hsz
    have := cnt_le (putAt f i v)
    omega
  · unfold putAt
    by_cases e : j = i
    · subst e
      rw [atKey_put_same htidy.isMap (lit_key j), if_pos rfl]
    · rw [atKey_put_other (by intro e2; cases e2; exact e rfl), if_neg e]
      exact h3 j hj zd
end
end Go.Proofs.Ytedndjbhgbdpoaa
