/- The contract of Kept: the proofs of what was prepared, each with a list of its own. -/
import Derived.Test.YtedndjbhgbdpoaaTell
namespace Go.Proofs.Ytedndjbhgbdpoaa
open Go.RowKit
def kcell (k : Kb) (u : Value) : List Value := [.int .i64 k.kind, .int .i64 k.view, .int .i64 k.seq, .int .i64 0, .int .i64 0, .string k.digest, .string k.text, u]
def kcells : List Kb → List Value → List Value
  | k :: L, u :: vs => kcell k u ++ kcells L vs
  | _, _ => []
theorem kcells_snoc : ∀ (L : List Kb) (vs : List Value) (k : Kb) (u : Value), vs.length = L.length → kcells (L ++ [k]) (vs ++ [u]) = kcells L vs ++ kcell k u
  | [], [], k, u, _ => by simp [kcells]
  | [], _ :: _, _, _, h => by simp at h
  | _ :: _, [], _, _, h => by simp at h
  | k' :: L, u' :: vs, k, u, h => by
    simp only [List.cons_append, kcells]
    rw [kcells_snoc L vs k u (by simpa using h), List.append_assoc]
theorem kcells_at : ∀ (L : List Kb) (vs : List Value) (i j : Nat) (k : Kb) (u : Value), L[i]? = some k → vs[i]? = some u → j < 8 → (kcells L vs)[i * 8 + j]? = (kcell k u)[j]?
  | [], _, _, _, _, _, h, _, _ => by simp at h
  | _ :: _, [], _, _, _, _, _, h, _ => by simp at h
  | k' :: L, u' :: vs, 0, j, k, u, h1, h2, hj => by
    simp only [List.getElem?_cons_zero, Option.some.injEq] at h1 h2
    subst h1 h2
    rw [kcells, Nat.zero_mul, Nat.zero_add, List.getElem?_append_left (by simp [kcell]; omega)]
  | k' :: L, u' :: vs, i + 1, j, k, u, h1, h2, hj => by
    simp only [List.getElem?_cons_succ] at h1 h2
    rw [kcells, List.getElem?_append_right (by simp [kcell]; omega), show (i + 1) * 8 + j - (kcell k' u').length = i * 8 + j from by simp [kcell]; omega]
    exact kcells_at L vs i j k u h1 h2 hj
/-- A list of its own, made behind w0, not in block bk. -/
def KL (w0 w : World) (bk : Option Nat) (u : Value) (M : List Sg) : Prop :=
  ∃ b o c, u = .slice (some ⟨b, o, none⟩) M.length c ∧ w0.heap.size ≤ b ∧ b < w.heap.size ∧ some b ≠ bk ∧ ∀ j, j < M.length * 3 → w.cell? ⟨b, o + j, none⟩ = some ((scells M).getD j (.bool false))
theorem KL.carry {w0 w w' : World} {bk bk' : Option Nat} {u : Value} {M : List Sg} (h : KL w0 w bk u M) (hs : w.heap.size ≤ w'.heap.size) (hb : ∀ b, b < w.heap.size → some b ≠ bk → w0.heap.size ≤ b → w'.heap[b]? = w.heap[b]?) (hk : bk' = bk ∨ bk' = some w.heap.size) : KL w0 w' bk' u M := by
  obtain ⟨b, o, c, h1, h2, h3, h4, h5⟩ := h
  refine ⟨b, o, c, h1, h2, by omega, fun e => ?_, fun j hj => ?_⟩
  · rcases hk with hk | hk
    · exact h4 (e.trans hk)
    · rw [hk] at e; cases e; omega
  · rw [← h5 j hj]; exact World.cell?_of_block (hb b h3 h4 h2)
/-- Proofs that are told: a row of them, made behind w0. -/
def KeptAt (w0 w : World) (v : Value) (L : List Kb) : Prop :=
  ∃ bk vs, vs.length = L.length ∧ Own w 8 v bk L.length (kcells L vs) ∧ (∀ g, bk = some g → w0.heap.size ≤ g) ∧ ∀ (i : Nat) (k : Kb) (u : Value), L[i]? = some k → vs[i]? = some u → KL w0 w bk u k.list
theorem KeptAt.below {w0 w w' : World} {v : Value} {L : List Kb} (h : KeptAt w0 w v L) (hb : Below w.heap.size w w') : KeptAt w0 w' v L := by
  obtain ⟨bk, vs, h1, h2, h3, h4⟩ := h
  exact ⟨bk, vs, h1, h2.below hb, h3, fun i k u hk hu => (h4 i k u hk hu).carry hb.size (fun b hlt _ _ => hb.block b hlt) (.inl rfl)⟩
/-- Blocks that were there ahead of it may turn. -/
theorem KeptAt.only {w0 w w' : World} {v : Value} {L : List Kb} (h : KeptAt w0 w v L) {S : Nat → Prop} (ho : Only S w w') (hS : ∀ b, S b → b < w0.heap.size) : KeptAt w0 w' v L := by
  obtain ⟨bk, vs, h1, h2, h3, h4⟩ := h
  exact ⟨bk, vs, h1, h2.carry ho.size fun g hg => ho.block g (h2.lt hg) fun hs => by have := hS g hs; have := h3 g hg; omega, h3, fun i k u hk hu => (h4 i k u hk hu).carry ho.size (fun b hlt _ h0 => ho.block b hlt fun hs => by have := hS b hs; omega) (.inl rfl)⟩
theorem KeptAt.empty (w0 w : World) (A : Option Addr) : KeptAt w0 w (.slice A 0 0) [] :=
  ⟨none, [], rfl, ⟨by simp [kcells], A, 0, rfl, Nat.le_refl _, Nat.zero_le _, .inl ⟨rfl, rfl⟩⟩, nofun, fun _ _ _ h => by simp at h⟩
theorem kept_step {w0 w w' : World} {v' : Value} {bk bk' : Option Nat} {L : List Kb} {vs : List Value} {k : Kb} {u : Value} {n : Nat} (hn : L.length = n) (h1 : vs.length = L.length) (h3 : ∀ g, bk = some g → w0.heap.size ≤ g) (h4 : ∀ (i : Nat) (k : Kb) (u : Value), L[i]? = some k → vs[i]? = some u → KL w0 w bk u k.list)
    (hu : KL w0 w bk u k.list) (hw : w0.heap.size ≤ w.heap.size) (hown : Own w' 8 v' bk' (n + 1) (kcells L vs ++ kcell k u)) (hg : w.grownBy w' bk) (hk : bk' = bk ∨ bk' = some w.heap.size) : KeptAt w0 w' v' (L ++ [k]) := by
  have hc : ∀ u M, KL w0 w bk u M → KL w0 w' bk' u M := fun u M h => h.carry hg.size (fun b hlt hne _ => hg.block b hlt hne) hk
  refine ⟨bk', vs ++ [u], by simp [h1], ?_, fun g hg' => ?_, fun i k' u' hk' hu' => ?_⟩
  · rw [kcells_snoc L vs k u h1, List.length_append, hn]; exact hown
  · rcases hk with e | e
    · exact h3 g (e ▸ hg')
    · rw [e] at hg'; cases hg'; exact hw
  · by_cases hi : i < L.length
    · rw [List.getElem?_append_left hi] at hk'
      rw [List.getElem?_append_left (by omega)] at hu'
      exact hc _ _ (h4 i k' u' hk' hu')
    · have hi2 : i < (L ++ [k]).length := (List.getElem?_eq_some_iff.1 hk').1
      rw [List.length_append, List.length_singleton] at hi2
      have hi3 : i = L.length := by omega
      rw [hi3, List.getElem?_append_right (Nat.le_refl _), Nat.sub_self] at hk'
      rw [hi3, List.getElem?_append_right (by omega), h1, Nat.sub_self] at hu'
      cases hk'
      cases hu'
      exact hc _ _ hu
namespace Vl
def keptN (l : Vl) (i : Nat) : List Kb := (List.range i).filterMap fun (i : Nat) =>
  let b := (l.slot (l.low + 1 + (i : Int))).kept
  if b.kind ≠ 0 then some b else Option.none
theorem keptN_snoc (l : Vl) (i : Nat) : l.keptN (i + 1) = l.keptN i ++ (if (l.slot (l.low + 1 + (i : Int))).kept.kind ≠ 0 then [(l.slot (l.low + 1 + (i : Int))).kept] else []) := by
  unfold keptN
  rw [List.range_succ, List.filterMap_append]
  by_cases h : (l.slot (l.low + 1 + (i : Int))).kept.kind ≠ 0 <;> simp [h]
theorem keptN_le (l : Vl) (i : Nat) : (l.keptN i).length ≤ i := by
  unfold keptN
  have := List.length_filterMap_le (fun (i : Nat) =>
    let b := (l.slot (l.low + 1 + (i : Int))).kept
    if b.kind ≠ 0 then some b else Option.none) (List.range i)
  rwa [List.length_range] at this
end Vl
theorem info_body : (Try.prog.info? 46).map (fun i => (i.zero, i.size, i.bytes)) = some (some (.agg #[.int .i64 0, .int .i64 0, .int .i64 0, .int .i64 0, .int .i64 0, .string noText, .string noText, .slice none 0 0]), 8, 96) := by kernel_rfl
end Go.Proofs.Ytedndjbhgbdpoaa
