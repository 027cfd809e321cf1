/- A list sorted block by block, in plain. -/
import Derived.Test.YtilbhnloelgpdaaSSym3
namespace Go.Proofs.Ytilbhnloelgpdaa
open Go.RowKit
set_option linter.unusedVariables false
set_option linter.unusedSimpArgs false
theorem sym_all (w0 : World) (A : Option Addr) (m c : Nat) (hm : m ≤ 64) (sd : Bool) : ∀ (N : Nat) (P U V R : List Ord), U.length + V.length ≤ N → SymPre sd U V → SymOk w0 A m c sd P U V R
  | 0, P, U, V, R, h, hp => by
    have := hp.u0
    omega
  | N + 1, P, U, V, R, h, hp => by
    have h1 := hp.u0
    have h2 := hp.v0
    by_cases hu : U.length = 1
    · obtain ⟨u, rfl⟩ := List.length_eq_one_iff.1 hu
      exact sym_one w0 A m c hm sd P V R u hp
    · by_cases hv : V.length = 1
      · obtain ⟨v, rfl⟩ := List.length_eq_one_iff.1 hv
        exact sym_last w0 A m c hm sd P U R v hp (by omega)
      · exact sym_many w0 A m c hm sd N (Lib.hid fun P U V R h hp => sym_all w0 A m c hm sd N P U V R h hp) P U V R hp h (by omega) (by omega)
def seg (F : List Ord) (p q : Nat) : List Ord := (F.take q).drop p
theorem seg_get (F : List Ord) (p q j : Nat) : (seg F p q)[j]? = if p + j < q then F[p + j]? else none := by
  unfold seg
  rw [List.getElem?_drop, List.getElem?_take]
theorem seg_length {F : List Ord} {p q : Nat} (hq : q ≤ F.length) : (seg F p q).length = q - p := by
  unfold seg
  rw [List.length_drop, List.length_take]; omega
theorem seg_split (F : List Ord) {p q r : Nat} (h1 : p ≤ q) (h2 : q ≤ r) : seg F p r = seg F p q ++ seg F q r := by
  apply List.ext_getElem?
  intro j
  rw [List.getElem?_append, seg_get, seg_get, seg_get]
  unfold seg
  rw [List.length_drop, List.length_take]
  grind
theorem seg_all (F : List Ord) {n : Nat} (h : F.length ≤ n) : seg F 0 n = F := by unfold seg; rw [List.take_of_length_le h, List.drop_zero]
theorem seg_far (F : List Ord) (p : Nat) {q : Nat} (h : F.length ≤ q) : seg F p q = F.drop p := by unfold seg; rw [List.take_of_length_le h]
theorem seg_none (F : List Ord) {p q : Nat} (h : F.length ≤ p) : seg F p q = [] := by
  unfold seg
  rw [List.drop_of_length_le]
  rw [List.length_take]; omega
theorem seg_whole (F : List Ord) {p q : Nat} (h : p ≤ q) : F.take p ++ (seg F p q ++ F.drop q) = F := by
  have e1 : F.take p = seg F 0 p := by unfold seg; rw [List.drop_zero]
  have e2 : seg F 0 q = F.take q := by unfold seg; rw [List.drop_zero]
  rw [← List.append_assoc, e1, ← seg_split F (Nat.zero_le _) h, e2, List.take_append_drop]
theorem seg_keep (F X : List Ord) {p q : Nat} (h1 : p ≤ q) (h2 : q ≤ F.length) (hX : X.length = q - p) :
    (∀ a b, b ≤ p → seg (F.take p ++ (X ++ F.drop q)) a b = seg F a b) ∧ (∀ a b, q ≤ a → seg (F.take p ++ (X ++ F.drop q)) a b = seg F a b) ∧ seg (F.take p ++ (X ++ F.drop q)) p q = X ∧ (F.take p ++ (X ++ F.drop q)).drop q = F.drop q ∧ (F.take p ++ (X ++ F.drop q)).length = F.length := by
  have hp : (F.take p).length = p := by rw [List.length_take]; omega
  have hg : ∀ j, (F.take p ++ (X ++ F.drop q))[j]? = if j < p then F[j]? else if j < q then X[j - p]? else F[j]? := by
    intro j
    rw [List.getElem?_append, List.getElem?_append, hp, List.getElem?_take, List.getElem?_drop, hX]
    grind
  refine ⟨fun a b hb => ?_, fun a b ha => ?_, ?_, ?_, ?_⟩
  · apply List.ext_getElem?; intro j
    rw [seg_get, seg_get, hg]; grind
  · apply List.ext_getElem?; intro j
    rw [seg_get, seg_get, hg]; grind
  · apply List.ext_getElem?; intro j
    rw [seg_get, hg]
    have : ∀ k, X.length ≤ k → X[k]? = none := fun k hk => List.getElem?_eq_none hk
    grind
  · apply List.ext_getElem?; intro j
    rw [List.getElem?_drop, List.getElem?_drop, hg]; grind
  · simp only [List.length_append, List.length_take, List.length_drop]; omega
section
variable {sd : Bool}
/-- F is S, sorted in each block of w. -/
def Sb (sd : Bool) (w : Nat) (S F : List Ord) : Prop := F.length = S.length ∧ ∀ i, Stab (fst sd) (seg S (i * w) (i * w + w)) (seg F (i * w) (i * w + w))
/-- F is S, sorted in the first t blocks of w; what comes then is as it was. -/
structure Sf (sd : Bool) (w t : Nat) (S F : List Ord) : Prop where
  len : F.length = S.length
  front : ∀ i, i < t → Stab (fst sd) (seg S (i * w) (i * w + w)) (seg F (i * w) (i * w + w))
  back : F.drop (t * w) = S.drop (t * w)
theorem seg_drop (F : List Ord) (p q : Nat) : seg F p q = (F.drop p).take (q - p) := by
  unfold seg; rw [List.drop_take]
theorem Sf.start (S : List Ord) (w : Nat) : Sf sd w 0 S S := ⟨rfl, nofun, rfl⟩
theorem stab_nil : Stab (fst sd) [] [] := Stab.refl List.Pairwise.nil
theorem Sf.next {w t : Nat} {S F X : List Ord} (h : Sf sd w t S F) (ht : t * w + w ≤ S.length) (hX : Stab (fst sd) (seg F (t * w) (t * w + w)) X) : Sf sd w (t + 1) S (F.take (t * w) ++ (X ++ F.drop (t * w + w))) := by
  have hl := h.len
  have hXl : X.length = t * w + w - t * w := by rw [hX.len, seg_length (by omega)]
  obtain ⟨k1, k2, k3, k4, k5⟩ := seg_keep F X (p := t * w) (q := t * w + w) (by omega) (by omega) hXl
  refine ⟨k5.trans hl, fun i hi => ?_, ?_⟩
  · rcases Nat.lt_or_eq_of_le (Nat.le_of_lt_succ hi) with hi | rfl
    · have : (i + 1) * w ≤ t * w := Nat.mul_le_mul_right _ hi
      rw [Nat.add_mul, Nat.one_mul] at this
      rw [k1 _ _ this]; exact h.front i hi
    · rw [k3, seg_drop S, ← h.back, ← seg_drop]; exact hX
  · have e : (t + 1) * w = t * w + w := by rw [Nat.add_mul, Nat.one_mul]
    have h2 := congrArg (List.drop w) h.back
    rw [List.drop_drop, List.drop_drop] at h2
    rw [e, k4]; exact h2
theorem Sf.last {w t : Nat} {S F X : List Ord} (h : Sf sd w t S F) (hw : 0 < w) (ht : S.length < t * w + w) (hX : Stab (fst sd) (F.drop (t * w)) X) : Sb sd w S (F.take (t * w) ++ X) := by
  have hl := h.len
  have hXl := hX.len
  rw [List.length_drop] at hXl
  by_cases hp : t * w ≤ F.length
  · obtain ⟨k1, k2, k3, k4, k5⟩ := seg_keep F X (p := t * w) (q := F.length) hp (Nat.le_refl _) hXl
    rw [List.drop_length, List.append_nil] at k1 k2 k3 k4 k5
    refine ⟨k5.trans hl, fun i => ?_⟩
    rcases Nat.lt_trichotomy i t with hi | rfl | hi
    · have : (i + 1) * w ≤ t * w := Nat.mul_le_mul_right _ hi
      rw [Nat.add_mul, Nat.one_mul] at this
      rw [k1 _ _ this]; exact h.front i hi
    · have e : seg (F.take (i * w) ++ X) (i * w) (i * w + w) = X := by
        rw [seg_far _ _ (Nat.le_of_eq k5)] at k3
        rw [seg_far _ _ (by rw [k5]; omega)]; exact k3
      rw [e, seg_far S _ (by omega), ← h.back]
      exact hX
    · have : (t + 1) * w ≤ i * w := Nat.mul_le_mul_right _ hi
      rw [Nat.add_mul, Nat.one_mul] at this
      rw [seg_none _ (by omega), seg_none _ (by rw [k5]; omega)]; exact stab_nil
  · have hX0 : X = [] := List.eq_nil_of_length_eq_zero (by omega)
    rw [hX0, List.append_nil, List.take_of_length_le (by omega)]
    refine ⟨hl, fun i => ?_⟩
    by_cases hi : i < t
    · exact h.front i hi
    · have : t * w ≤ i * w := Nat.mul_le_mul_right _ (by omega)
      rw [seg_none _ (by omega), seg_none _ (by omega)]; exact stab_nil
/-- The first t blocks of 2 w are sorted, behind them those of w. -/
structure Sm (sd : Bool) (w t : Nat) (S F : List Ord) : Prop where
  len : F.length = S.length
  front : ∀ i, i < t → Stab (fst sd) (seg S (i * (2 * w)) (i * (2 * w) + 2 * w)) (seg F (i * (2 * w)) (i * (2 * w) + 2 * w))
  back : ∀ i, 2 * t ≤ i → Stab (fst sd) (seg S (i * w) (i * w + w)) (seg F (i * w) (i * w + w))
theorem Sm.start {w : Nat} {S F : List Ord} (h : Sb sd w S F) : Sm sd w 0 S F := ⟨h.1, nofun, fun i _ => h.2 i⟩
theorem two_mul' (t w : Nat) : t * (2 * w) = 2 * t * w := by rw [← Nat.mul_assoc, Nat.mul_comm t 2]
theorem Sm.pair {w t : Nat} {S F X : List Ord} (h : Sm sd w t S F) (hX : Stab (fst sd) (seg F (t * (2 * w)) (t * (2 * w) + w) ++ seg F (t * (2 * w) + w) (t * (2 * w) + 2 * w)) X) : Stab (fst sd) (seg S (t * (2 * w)) (t * (2 * w) + 2 * w)) X := by
  have h1 := h.back (2 * t) (Nat.le_refl _)
  have h2 := h.back (2 * t + 1) (by omega)
  have e : (2 * t + 1) * w = 2 * t * w + w := by rw [Nat.add_mul, Nat.one_mul]
  rw [← two_mul'] at h1
  rw [e, ← two_mul', show t * (2 * w) + w + w = t * (2 * w) + 2 * w from by omega] at h2
  refine Stab.of_alike (B := seg F (t * (2 * w)) (t * (2 * w) + w) ++ seg F (t * (2 * w) + w) (t * (2 * w) + 2 * w)) (fun x => ?_) ?_ hX
  · rw [seg_split S (p := t * (2 * w)) (q := t * (2 * w) + w) (r := t * (2 * w) + 2 * w) (by omega) (by omega), cls_append, cls_append, h1.alike, h2.alike]
  · rw [seg_split S (p := t * (2 * w)) (q := t * (2 * w) + w) (r := t * (2 * w) + 2 * w) (by omega) (by omega), List.length_append, List.length_append, h1.len, h2.len]
theorem Sm.sorted {w t : Nat} {S F : List Ord} (h : Sm sd w t S F) : Sortd (fst sd) (seg F (t * (2 * w)) (t * (2 * w) + w)) ∧ Sortd (fst sd) (seg F (t * (2 * w) + w) (t * (2 * w) + 2 * w)) := by
  have h1 := h.back (2 * t) (Nat.le_refl _)
  have h2 := h.back (2 * t + 1) (by omega)
  have e : (2 * t + 1) * w = 2 * t * w + w := by rw [Nat.add_mul, Nat.one_mul]
  rw [← two_mul'] at h1
  rw [e, ← two_mul', show t * (2 * w) + w + w = t * (2 * w) + 2 * w from by omega] at h2
  exact ⟨h1.sorted, h2.sorted⟩
theorem Sm.next {w t : Nat} {S F X : List Ord} (h : Sm sd w t S F) (ht : t * (2 * w) + 2 * w ≤ S.length) (hX : Stab (fst sd) (seg F (t * (2 * w)) (t * (2 * w) + w) ++ seg F (t * (2 * w) + w) (t * (2 * w) + 2 * w)) X) : Sm sd w (t + 1) S (F.take (t * (2 * w)) ++ (X ++ F.drop (t * (2 * w) + 2 * w))) := by
  have hl := h.len
  have hp := h.pair hX
  have hXl : X.length = t * (2 * w) + 2 * w - t * (2 * w) := by rw [hp.len, seg_length (by omega)]
  obtain ⟨k1, k2, k3, k4, k5⟩ := seg_keep F X (p := t * (2 * w)) (q := t * (2 * w) + 2 * w) (by omega) (by omega) hXl
  refine ⟨k5.trans hl, fun i hi => ?_, fun i hi => ?_⟩
  · rcases Nat.lt_or_eq_of_le (Nat.le_of_lt_succ hi) with hi | rfl
    · have : (i + 1) * (2 * w) ≤ t * (2 * w) := Nat.mul_le_mul_right _ hi
      rw [Nat.add_mul, Nat.one_mul] at this
      rw [k1 _ _ this]; exact h.front i hi
    · rw [k3]; exact hp
  · have : (2 * (t + 1)) * w ≤ i * w := Nat.mul_le_mul_right _ hi
    rw [Nat.mul_add, Nat.add_mul, ← two_mul'] at this
    rw [k2 _ _ (by omega)]; exact h.back i (by omega)
/-- The blocks that are left, fewer than two whole ones. -/
theorem Sm.last {w t : Nat} {S F X : List Ord} (h : Sm sd w t S F) (hp : t * (2 * w) ≤ S.length) (ht : S.length < t * (2 * w) + 2 * w) (hX : Stab (fst sd) (seg F (t * (2 * w)) (t * (2 * w) + w) ++ F.drop (t * (2 * w) + w)) X) : Sb sd (2 * w) S (F.take (t * (2 * w)) ++ X) := by
  have hl := h.len
  rw [← seg_far F (t * (2 * w) + w) (q := t * (2 * w) + 2 * w) (by omega)] at hX
  have hpr := h.pair hX
  have hXl := hpr.len
  rw [seg_far S _ (by omega), List.length_drop, ← hl] at hXl
  obtain ⟨k1, k2, k3, k4, k5⟩ := seg_keep F X (p := t * (2 * w)) (q := F.length) (by omega) (Nat.le_refl _) hXl
  rw [List.drop_length, List.append_nil] at k1 k2 k3 k4 k5
  refine ⟨k5.trans hl, fun i => ?_⟩
  rcases Nat.lt_trichotomy i t with hi | rfl | hi
  · have : (i + 1) * (2 * w) ≤ t * (2 * w) := Nat.mul_le_mul_right _ hi
    rw [Nat.add_mul, Nat.one_mul] at this
    rw [k1 _ _ this]; exact h.front i hi
  · have e : seg (F.take (i * (2 * w)) ++ X) (i * (2 * w)) (i * (2 * w) + 2 * w) = X := by
      rw [seg_far _ _ (Nat.le_of_eq k5)] at k3
      rw [seg_far _ _ (by rw [k5]; omega)]; exact k3
    rw [e]
    exact hpr
  · have : (t + 1) * (2 * w) ≤ i * (2 * w) := Nat.mul_le_mul_right _ hi
    rw [Nat.add_mul, Nat.one_mul] at this
    rw [seg_none _ (by omega), seg_none _ (by rw [k5]; omega)]; exact stab_nil
/-- No second block is left. -/
theorem Sm.alone {w t : Nat} {S F : List Ord} (h : Sm sd w t S F) (ht : S.length ≤ t * (2 * w) + w) : Sb sd (2 * w) S F := by
  have hl := h.len
  refine ⟨hl, fun i => ?_⟩
  rcases Nat.lt_trichotomy i t with hi | rfl | hi
  · exact h.front i hi
  · have h1 := h.back (2 * i) (Nat.le_refl _)
    rw [← two_mul'] at h1
    rw [seg_far S _ (by omega), seg_far F _ (by omega)] at h1
    rw [seg_far S _ (by omega), seg_far F _ (by omega)]; exact h1
  · have : (t + 1) * (2 * w) ≤ i * (2 * w) := Nat.mul_le_mul_right _ hi
    rw [Nat.add_mul, Nat.one_mul] at this
    rw [seg_none _ (by omega), seg_none _ (by omega)]; exact stab_nil
theorem Sb.whole {w : Nat} {S F : List Ord} (h : Sb sd w S F) (hw : S.length ≤ w) : Stab (fst sd) S F := by
  have h1 := h.2 0
  rw [Nat.zero_mul, Nat.zero_add, seg_all S hw, seg_all F (by rw [h.1]; exact hw)] at h1
  exact h1
end
end Go.Proofs.Ytilbhnloelgpdaa
