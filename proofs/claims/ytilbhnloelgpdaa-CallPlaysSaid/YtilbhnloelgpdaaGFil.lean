/- A list sorted block by block, in plain. slices.SortStableFunc at orders of one side. Two rows of the walk's own, of elements of whatever sizes, that lie apart: an append to either leaves the other. How much of each order is traded, in plain. The program's Fills. -/
import Derived.Test.YtilbhnloelgpdaaSSym3
import Derived.Deep.CutRange
import Derived.Deep.DeepMust
namespace Go.Proofs.Ytilbhnloelgpdaa
open Go.RowKit
set_option linter.unusedVariables false
set_option linter.unusedSimpArgs false
theorem sym_all (w0 : World) (A : Option Addr) (m c : Nat) (hm : m ≤ 64) (sd : Bool) : ∀ (N : Nat) (P U V R : List Ord), U.length + V.length ≤ N → SymPre sd U V → SymOk w0 A m c sd P U V R
  | 0, P, U, V, R, h, hp => by
    have := hp.u0
    omega
  | N + 1, P, U, V, R, h, hp => by
    have h1 := hp.u0
    have h2 := hp.v0
    by_cases hu : U.length = 1
    · obtain ⟨u, rfl⟩ := List.length_eq_one_iff.1 hu
      exact sym_one w0 A m c hm sd P V R u hp
    · by_cases hv : V.length = 1
      · obtain ⟨v, rfl⟩ := List.length_eq_one_iff.1 hv
        exact sym_last w0 A m c hm sd P U R v hp (by omega)
      · exact sym_many w0 A m c hm sd N (Lib.hid fun P U V R h hp => sym_all w0 A m c hm sd N P U V R h hp) P U V R hp h (by omega) (by omega)
def seg (F : List Ord) (p q : Nat) : List Ord := (F.take q).drop p
theorem seg_get (F : List Ord) (p q j : Nat) : (seg F p q)[j]? = if p + j < q then F[p + j]? else none := by
  unfold seg
  rw [List.getElem?_drop, List.getElem?_take]
theorem seg_length {F : List Ord} {p q : Nat} (hq : q ≤ F.length) : (seg F p q).length = q - p := by
  unfold seg
  rw [List.length_drop, List.length_take]; omega
theorem seg_split (F : List Ord) {p q r : Nat} (h1 : p ≤ q) (h2 : q ≤ r) : seg F p r = seg F p q ++ seg F q r := by
  apply List.ext_getElem?
  intro j
  rw [List.getElem?_append, seg_get, seg_get, seg_get]
  unfold seg
  rw [List.length_drop, List.length_take]
  grind
theorem seg_all (F : List Ord) {n : Nat} (h : F.length ≤ n) : seg F 0 n = F := by unfold seg; rw [List.take_of_length_le h, List.drop_zero]
theorem seg_far (F : List Ord) (p : Nat) {q : Nat} (h : F.length ≤ q) : seg F p q = F.drop p := by unfold seg; rw [List.take_of_length_le h]
theorem seg_none (F : List Ord) {p q : Nat} (h : F.length ≤ p) : seg F p q = [] := by
  unfold seg
  rw [List.drop_of_length_le]
  rw [List.length_take]; omega
theorem seg_whole (F : List Ord) {p q : Nat} (h : p ≤ q) : F.take p ++ (seg F p q ++ F.drop q) = F := by
  have e1 : F.take p = seg F 0 p := by unfold seg; rw [List.drop_zero]
  have e2 : seg F 0 q = F.take q := by unfold seg; rw [List.drop_zero]
  rw [← List.append_assoc, e1, ← seg_split F (Nat.zero_le _) h, e2, List.take_append_drop]
theorem seg_keep (F X : List Ord) {p q : Nat} (h1 : p ≤ q) (h2 : q ≤ F.length) (hX : X.length = q - p) :
    (∀ a b, b ≤ p → seg (F.take p ++ (X ++ F.drop q)) a b = seg F a b) ∧ (∀ a b, q ≤ a → seg (F.take p ++ (X ++ F.drop q)) a b = seg F a b) ∧ seg (F.take p ++ (X ++ F.drop q)) p q = X ∧ (F.take p ++ (X ++ F.drop q)).drop q = F.drop q ∧ (F.take p ++ (X ++ F.drop q)).length = F.length := by
  have hp : (F.take p).length = p := by rw [List.length_take]; omega
  have hg : ∀ j, (F.take p ++ (X ++ F.drop q))[j]? = if j < p then F[j]? else if j < q then X[j - p]? else F[j]? := by
    intro j
    rw [List.getElem?_append, List.getElem?_append, hp, List.getElem?_take, List.getElem?_drop, hX]
    grind
  refine ⟨fun a b hb => ?_, fun a b ha => ?_, ?_, ?_, ?_⟩
  · apply List.ext_getElem?; intro j
    rw [seg_get, seg_get, hg]; grind
  · apply List.ext_getElem?; intro j
    rw [seg_get, seg_get, hg]; grind
  · apply List.ext_getElem?; intro j
    rw [seg_get, hg]
    have : ∀ k, X.length ≤ k → X[k]? = none := fun k hk => List.getElem?_eq_none hk
    grind
  · apply List.ext_getElem?; intro j
    rw [List.getElem?_drop, List.getElem?_drop, hg]; grind
  · simp only [List.length_append, List.length_take, List.length_drop]; omega
section
variable {sd : Bool}
/-- F is S, sorted in each block of w. -/
def Sb (sd : Bool) (w : Nat) (S F : List Ord) : Prop := F.length = S.length ∧ ∀ i, Stab (fst sd) (seg S (i * w) (i * w + w)) (seg F (i * w) (i * w + w))
/-- F is S, sorted in the first t blocks of w; what comes then is as it was. -/
structure Sf (sd : Bool) (w t : Nat) (S F : List Ord) : Prop where
  len : F.length = S.length
  front : ∀ i, i < t → Stab (fst sd) (seg S (i * w) (i * w + w)) (seg F (i * w) (i * w + w))
  back : F.drop (t * w) = S.drop (t * w)
theorem seg_drop (F : List Ord) (p q : Nat) : seg F p q = (F.drop p).take (q - p) := by
  unfold seg; rw [List.drop_take]
theorem Sf.start (S : List Ord) (w : Nat) : Sf sd w 0 S S := ⟨rfl, nofun, rfl⟩
theorem stab_nil : Stab (fst sd) [] [] := Stab.refl List.Pairwise.nil
theorem Sf.next {w t : Nat} {S F X : List Ord} (h : Sf sd w t S F) (ht : t * w + w ≤ S.length) (hX : Stab (fst sd) (seg F (t * w) (t * w + w)) X) : Sf sd w (t + 1) S (F.take (t * w) ++ (X ++ F.drop (t * w + w))) := by
  have hl := h.len
  have hXl : X.length = t * w + w - t * w := by rw [hX.len, seg_length (by omega)]
  obtain ⟨k1, k2, k3, k4, k5⟩ := seg_keep F X (p := t * w) (q := t * w + w) (by omega) (by omega) hXl
  refine ⟨k5.trans hl, fun i hi => ?_, ?_⟩
  · rcases Nat.lt_or_eq_of_le (Nat.le_of_lt_succ hi) with hi | rfl
    · have : (i + 1) * w ≤ t * w := Nat.mul_le_mul_right _ hi
      rw [Nat.add_mul, Nat.one_mul] at this
      rw [k1 _ _ this]; exact h.front i hi
    · rw [k3, seg_drop S, ← h.back, ← seg_drop]; exact hX
  · have e : (t + 1) * w = t * w + w := by rw [Nat.add_mul, Nat.one_mul]
    have h2 := congrArg (List.drop w) h.back
    rw [List.drop_drop, List.drop_drop] at h2
    rw [e, k4]; exact h2
theorem Sf.last {w t : Nat} {S F X : List Ord} (h : Sf sd w t S F) (hw : 0 < w) (ht : S.length < t * w + w) (hX : Stab (fst sd) (F.drop (t * w)) X) : Sb sd w S (F.take (t * w) ++ X) := by
  have hl := h.len
  have hXl := hX.len
  rw [List.length_drop] at hXl
  by_cases hp : t * w ≤ F.length
  · obtain ⟨k1, k2, k3, k4, k5⟩ := seg_keep F X (p := t * w) (q := F.length) hp (Nat.le_refl _) hXl
    rw [List.drop_length, List.append_nil] at k1 k2 k3 k4 k5
    refine ⟨k5.trans hl, fun i => ?_⟩
    rcases Nat.lt_trichotomy i t with hi | rfl | hi
    · have : (i + 1) * w ≤ t * w := Nat.mul_le_mul_right _ hi
      rw [Nat.add_mul, Nat.one_mul] at this
      rw [k1 _ _ this]; exact h.front i hi
    · have e : seg (F.take (i * w) ++ X) (i * w) (i * w + w) = X := by
        rw [seg_far _ _ (Nat.le_of_eq k5)] at k3
        rw [seg_far _ _ (by rw [k5]; omega)]; exact k3
      rw [e, seg_far S _ (by omega), ← h.back]
      exact hX
    · have : (t + 1) * w ≤ i * w := Nat.mul_le_mul_right _ hi
      rw [Nat.add_mul, Nat.one_mul] at this
      rw [seg_none _ (by omega), seg_none _ (by rw [k5]; omega)]; exact stab_nil
  · have hX0 : X = [] := List.eq_nil_of_length_eq_zero (by omega)
    rw [hX0, List.append_nil, List.take_of_length_le (by omega)]
    refine ⟨hl, fun i => ?_⟩
    by_cases hi : i < t
    · exact h.front i hi
    · have : t * w ≤ i * w := Nat.mul_le_mul_right _ (by omega)
      rw [seg_none _ (by omega), seg_none _ (by omega)]; exact stab_nil
/-- The first t blocks of 2 w are sorted, behind them those of w. -/
structure Sm (sd : Bool) (w t : Nat) (S F : List Ord) : Prop where
  len : F.length = S.length
  front : ∀ i, i < t → Stab (fst sd) (seg S (i * (2 * w)) (i * (2 * w) + 2 * w)) (seg F (i * (2 * w)) (i * (2 * w) + 2 * w))
  back : ∀ i, 2 * t ≤ i → Stab (fst sd) (seg S (i * w) (i * w + w)) (seg F (i * w) (i * w + w))
theorem Sm.start {w : Nat} {S F : List Ord} (h : Sb sd w S F) : Sm sd w 0 S F := ⟨h.1, nofun, fun i _ => h.2 i⟩
theorem two_mul' (t w : Nat) : t * (2 * w) = 2 * t * w := by rw [← Nat.mul_assoc, Nat.mul_comm t 2]
theorem Sm.pair {w t : Nat} {S F X : List Ord} (h : Sm sd w t S F) (hX : Stab (fst sd) (seg F (t * (2 * w)) (t * (2 * w) + w) ++ seg F (t * (2 * w) + w) (t * (2 * w) + 2 * w)) X) : Stab (fst sd) (seg S (t * (2 * w)) (t * (2 * w) + 2 * w)) X := by
  have h1 := h.back (2 * t) (Nat.le_refl _)
  have h2 := h.back (2 * t + 1) (by omega)
  have e : (2 * t + 1) * w = 2 * t * w + w := by rw [Nat.add_mul, Nat.one_mul]
  rw [← two_mul'] at h1
  rw [e, ← two_mul', show t * (2 * w) + w + w = t * (2 * w) + 2 * w from by omega] at h2
  refine Stab.of_alike (B := seg F (t * (2 * w)) (t * (2 * w) + w) ++ seg F (t * (2 * w) + w) (t * (2 * w) + 2 * w)) (fun x => ?_) ?_ hX
  · rw [seg_split S (p := t * (2 * w)) (q := t * (2 * w) + w) (r := t * (2 * w) + 2 * w) (by omega) (by omega), cls_append, cls_append, h1.alike, h2.alike]
  · rw [seg_split S (p := t * (2 * w)) (q := t * (2 * w) + w) (r := t * (2 * w) + 2 * w) (by omega) (by omega), List.length_append, List.length_append, h1.len, h2.len]
theorem Sm.sorted {w t : Nat} {S F : List Ord} (h : Sm sd w t S F) : Sortd (fst sd) (seg F (t * (2 * w)) (t * (2 * w) + w)) ∧ Sortd (fst sd) (seg F (t * (2 * w) + w) (t * (2 * w) + 2 * w)) := by
  have h1 := h.back (2 * t) (Nat.le_refl _)
  have h2 := h.back (2 * t + 1) (by omega)
  have e : (2 * t + 1) * w = 2 * t * w + w := by rw [Nat.add_mul, Nat.one_mul]
  rw [← two_mul'] at h1
  rw [e, ← two_mul', show t * (2 * w) + w + w = t * (2 * w) + 2 * w from by omega] at h2
  exact ⟨h1.sorted, h2.sorted⟩
theorem Sm.next {w t : Nat} {S F X : List Ord} (h : Sm sd w t S F) (ht : t * (2 * w) + 2 * w ≤ S.length) (hX : Stab (fst sd) (seg F (t * (2 * w)) (t * (2 * w) + w) ++ seg F (t * (2 * w) + w) (t * (2 * w) + 2 * w)) X) : Sm sd w (t + 1) S (F.take (t * (2 * w)) ++ (X ++ F.drop (t * (2 * w) + 2 * w))) := by
  have hl := h.len
  have hp := h.pair hX
  have hXl : X.length = t * (2 * w) + 2 * w - t * (2 * w) := by rw [hp.len, seg_length (by omega)]
  obtain ⟨k1, k2, k3, k4, k5⟩ := seg_keep F X (p := t * (2 * w)) (q := t * (2 * w) + 2 * w) (by omega) (by omega) hXl
  refine ⟨k5.trans hl, fun i hi => ?_, fun i hi => ?_⟩
  · rcases Nat.lt_or_eq_of_le (Nat.le_of_lt_succ hi) with hi | rfl
    · have : (i + 1) * (2 * w) ≤ t * (2 * w) := Nat.mul_le_mul_right _ hi
      rw [Nat.add_mul, Nat.one_mul] at this
      rw [k1 _ _ this]; exact h.front i hi
    · rw [k3]; exact hp
  · have : (2 * (t + 1)) * w ≤ i * w := Nat.mul_le_mul_right _ hi
    rw [Nat.mul_add, Nat.add_mul, ← two_mul'] at this
    rw [k2 _ _ (by omega)]; exact h.back i (by omega)
/-- The blocks that are left, fewer than two whole ones. -/
theorem Sm.last {w t : Nat} {S F X : List Ord} (h : Sm sd w t S F) (hp : t * (2 * w) ≤ S.length) (ht : S.length < t * (2 * w) + 2 * w) (hX : Stab (fst sd) (seg F (t * (2 * w)) (t * (2 * w) + w) ++ F.drop (t * (2 * w) + w)) X) : Sb sd (2 * w) S (F.take (t * (2 * w)) ++ X) := by
  have hl := h.len
  rw [← seg_far F (t * (2 * w) + w) (q := t * (2 * w) + 2 * w) (by omega)] at hX
  have hpr := h.pair hX
  have hXl := hpr.len
  rw [seg_far S _ (by omega), List.length_drop, ← hl] at hXl
  obtain ⟨k1, k2, k3, k4, k5⟩ := seg_keep F X (p := t * (2 * w)) (q := F.length) (by omega) (Nat.le_refl _) hXl
  rw [List.drop_length, List.append_nil] at k1 k2 k3 k4 k5
  refine ⟨k5.trans hl, fun i => ?_⟩
  rcases Nat.lt_trichotomy i t with hi | rfl | hi
  · have : (i + 1) * (2 * w) ≤ t * (2 * w) := Nat.mul_le_mul_right _ hi
    rw [Nat.add_mul, Nat.one_mul] at this
    rw [k1 _ _ this]; exact h.front i hi
  · have e : seg (F.take (i * (2 * w)) ++ X) (i * (2 * w)) (i * (2 * w) + 2 * w) = X := by
      rw [seg_far _ _ (Nat.le_of_eq k5)] at k3
      rw [seg_far _ _ (by rw [k5]; omega)]; exact k3
    rw [e]
    exact hpr
  · have : (t + 1) * (2 * w) ≤ i * (2 * w) := Nat.mul_le_mul_right _ hi
    rw [Nat.add_mul, Nat.one_mul] at this
    rw [seg_none _ (by omega), seg_none _ (by rw [k5]; omega)]; exact stab_nil
/-- No second block is left. -/
theorem Sm.alone {w t : Nat} {S F : List Ord} (h : Sm sd w t S F) (ht : S.length ≤ t * (2 * w) + w) : Sb sd (2 * w) S F := by
  have hl := h.len
  refine ⟨hl, fun i => ?_⟩
  rcases Nat.lt_trichotomy i t with hi | rfl | hi
  · exact h.front i hi
  · have h1 := h.back (2 * i) (Nat.le_refl _)
    rw [← two_mul'] at h1
    rw [seg_far S _ (by omega), seg_far F _ (by omega)] at h1
    rw [seg_far S _ (by omega), seg_far F _ (by omega)]; exact h1
  · have : (t + 1) * (2 * w) ≤ i * (2 * w) := Nat.mul_le_mul_right _ hi
    rw [Nat.add_mul, Nat.one_mul] at this
    rw [seg_none _ (by omega), seg_none _ (by omega)]; exact stab_nil
theorem Sb.whole {w : Nat} {S F : List Ord} (h : Sb sd w S F) (hw : S.length ≤ w) : Stab (fst sd) S F := by
  have h1 := h.2 0
  rw [Nat.zero_mul, Nat.zero_add, seg_all S hw, seg_all F (by rw [h.1]; exact hw)] at h1
  exact h1
end
end Go.Proofs.Ytilbhnloelgpdaa
namespace Go.Proofs.Ytilbhnloelgpdaa
open Go.RowKit
set_option linter.unusedVariables false
set_option linter.unusedSimpArgs false
theorem mem_seg {F : List Ord} {p q : Nat} {x : Ord} (h : x ∈ seg F p q) : x ∈ F := List.mem_of_mem_take (List.mem_of_mem_drop h)
theorem keep_buys {sd : Bool} {F X Y P R : List Ord} (hF : ∀ o ∈ F, o.buys = sd) (hX : Stab (fst sd) Y X) (hY : ∀ o ∈ Y, o ∈ F) (hP : ∀ o ∈ P, o ∈ F) (hR : ∀ o ∈ R, o ∈ F) : ∀ o ∈ P ++ (X ++ R), o.buys = sd := by
  intro o ho
  rcases List.mem_append.1 ho with ho | ho
  · exact hF o (hP o ho)
  · rcases List.mem_append.1 ho with ho | ho
    · exact hF o (hY o ((hX.mem (fst_swo sd) o).1 ho))
    · exact hF o (hR o ho)
theorem w_mul2 {a c : Nat} (h : 2 * a = c) (hc : c ≤ 100000) : IntKind.i64.wrap (2 * (a : Int)) = (c : Int) ∧ IntKind.i64.wrap ((a : Int) * 2) = (c : Int) := ⟨by rw [IntKind.wrap_i64]; omega, by rw [IntKind.wrap_i64]; omega⟩
theorem ins_part {w0 w : World} {A : Option Addr} {m c : Nat} {F : List Ord} {sd : Bool} (h : Sw w0 w A m c F) (hm : m ≤ 64) (hF : ∀ o ∈ F, o.buys = sd) {a b : Nat} (hab : a ≤ b) (hbm : b ≤ m) :
    Calls Try.prog 71 #[.slice A m c, .int .i64 (a : Int), .int .i64 (b : Int), .func (.func 39) #[] #[]] w fun e w' => e = .returned (.tuple #[]) ∧ ∃ X, Stab (fst sd) (seg F a b) X ∧ Sw w0 w' A m c (F.take a ++ (X ++ F.drop b)) := by
  have hl := h.len
  exact insert_calls w0 w A m c (F.take a) (seg F a b) (F.drop b) sd (by rw [seg_whole F hab]; exact h) hm (fun o ho => hF o (mem_seg ho)) a b (by rw [List.length_take]; omega) (by rw [seg_length (by omega)]; omega)
theorem sym_part {w0 w : World} {A : Option Addr} {m c : Nat} {F : List Ord} {sd : Bool} (h : Sw w0 w A m c F) (hm : m ≤ 64) (hF : ∀ o ∈ F, o.buys = sd) {a k b : Nat} (hak : a < k) (hkb : k < b) (hbm : b ≤ m) (hU : Sortd (fst sd) (seg F a k)) (hV : Sortd (fst sd) (seg F k b)) :
    Calls Try.prog 72 #[.slice A m c, .int .i64 (a : Int), .int .i64 (k : Int), .int .i64 (b : Int), .func (.func 39) #[] #[]] w fun e w' => e = .returned (.tuple #[]) ∧ ∃ X, Stab (fst sd) (seg F a k ++ seg F k b) X ∧ Sw w0 w' A m c (F.take a ++ (X ++ F.drop b)) := by
  have hl := h.len
  refine sym_all w0 A m c hm sd _ (F.take a) (seg F a k) (seg F k b) (F.drop b) (Nat.le_refl _) ⟨fun o ho => ?_, hU, hV, by rw [seg_length (by omega)]; omega, by rw [seg_length (by omega)]; omega⟩ w a k b ?_ (by rw [List.length_take]; omega) (by rw [seg_length (by omega)]; omega) (by rw [seg_length (by omega)]; omega)
  · rcases List.mem_append.1 ho with ho | ho <;> exact hF o (mem_seg ho)
  · rw [← List.append_assoc (seg F a k), ← seg_split F (by omega) (by omega), seg_whole F (by omega)]; exact h
set_option maxHeartbeats 8000000 in
set_option maxRecDepth 100000 in
theorem stable_calls (w0 w : World) (A : Option Addr) (m c : Nat) (S : List Ord) (sd : Bool) (h : Sw w0 w A m c S) (hm : m ≤ 64) (hS : ∀ o ∈ S, o.buys = sd) :
    Calls Try.prog 59 #[.slice A m c, .int .i64 (m : Int), .func (.func 39) #[] #[]] w fun e w' => e = .returned (.tuple #[]) ∧ ∃ F, Stab (fst sd) S F ∧ Sw w0 w' A m c F := by
  have H := Lib.hid h
  have HS := Lib.hid hS
  have hSl := Lib.hid h.len
  clear h hS
  go_enter Try.func59, Try.ntmps59
  go_upto_region 2 with (fail)
  go_loopg [7, 8] 5 (fun gk s7 s8 wr => ∃ (t a b : Nat) (F : List Ord), gk = 5 - t ∧ s7 = .int .i64 (a : Int) ∧ s8 = .int .i64 (b : Int) ∧ Hid (t * 20 = a ∧ a + 20 = b ∧ a ≤ m) ∧ Hid (Sf sd 20 t S F) ∧ Hid (∀ o ∈ F, o.buys = sd) ∧ Hid (Sw w0 wr A m c F))
  case atStart => exact ⟨0, 0, 20, S, rfl, rfl, rfl, Lib.hid ⟨rfl, rfl, Nat.zero_le _⟩, Lib.hid (Sf.start S 20), HS, H⟩
  case round =>
    clear H
    obtain ⟨t, a, b, F, rfl, rfl, rfl, hab, HF, hbu, HW⟩ := hrel
    by_cases hbm : b ≤ m
    · have hbmI : (b : Int) ≤ (m : Int) := by omega
      obtain ⟨b2, hb2⟩ : ∃ b2, Hid (b + 20 = b2) := ⟨_, Lib.hid rfl⟩
      have q1 : IntKind.i64.wrap ((b : Int) + 20) = (b2 : Int) := w_add (b := 20) hb2.out (by have := hb2.out; omega)
      have HC := Lib.hid (ins_part HW.out hm hbu.out (a := a) (b := b) (by have := hab.out; omega) hbm)
      have HN := Lib.hid (fun X hX => HF.out.next (X := X) (by have := hab.out; have := hSl.out; omega) hX)
      rw [hab.out.1, hab.out.2.1] at HN
      have HM := Lib.hid (show 5 - (t + 1) < 5 - t by have := hab.out; omega)
      have HB := Lib.hid (fun X (hX : Stab (fst sd) (seg F a b) X) => keep_buys (P := F.take a) (R := F.drop b) hbu.out hX (fun o ho => mem_seg ho) (fun o ho => List.mem_of_mem_take ho) (fun o ho => List.mem_of_mem_drop ho))
      go_wp2_with (go_at_call 71; (with_reducible refine HC.out.mono ?_); rintro e w1 ⟨rfl, X, hX, hw⟩; have HX := Lib.hid hX; have HW' := Lib.hid hw; clear hX hw)
      go_roundg (5 - (t + 1))
      case measure => exact HM.out
      case rel => exact ⟨t + 1, b, b2, _, rfl, by first | rfl | go_num, by first | rfl | go_num, Lib.hid (by have := hab.out; have := hb2.out; omega), Lib.hid (HN.out X HX.out), Lib.hid (HB.out X HX.out), HW'⟩
    · have hbmI : ¬ (b : Int) ≤ (m : Int) := by omega
      have HC := Lib.hid (ins_part HW.out hm hbu.out (a := a) (b := m) (by have := hab.out; omega) (Nat.le_refl _))
      rw [seg_far F a (Nat.le_of_eq HW.out.len)] at HC
      have hdm : Hid (F.drop m = []) := Lib.hid (List.drop_of_length_le (Nat.le_of_eq HW.out.len))
      rw [hdm.out] at HC
      have HN := Lib.hid (fun X hX => HF.out.last (X := X) (by decide) (by have := hab.out; have := hSl.out; omega) hX)
      rw [hab.out.1] at HN
      have HB := Lib.hid (fun X (hX : Stab (fst sd) (F.drop a) X) => keep_buys (P := F.take a) (R := []) hbu.out hX (fun o ho => List.mem_of_mem_drop ho) (fun o ho => List.mem_of_mem_take ho) (fun o ho => by cases ho))
      go_upto_region 7 with (go_at_call 71; (with_reducible refine HC.out.mono ?_); rintro e w1 ⟨rfl, X, hX, hw⟩; have HX := Lib.hid hX; have HW' := Lib.hid hw; clear hX hw)
      have hbu1 := Lib.hid (HB.out X HX.out)
      have HSb := Lib.hid (HN.out X HX.out)
      rw [List.append_nil] at HW' hbu1
      clear HN HB HC HF HW hbu hdm hbm hbmI HX
      obtain ⟨F1, hF1⟩ : ∃ F1, Hid (F.take a ++ X = F1) := ⟨_, Lib.hid rfl⟩
      rw [hF1.out] at HW' hbu1 HSb
      go_loopg [6, 7, 8, 9] 80 (fun gk s6 s7 s8 s9 wr => ∃ (W : Nat) (F : List Ord), gk = 100 - W ∧ s6 = .int .i64 (W : Int) ∧ Hid (W = 20 ∨ W = 40 ∨ W = 80) ∧ Hid (Sb sd W S F) ∧ Hid (∀ o ∈ F, o.buys = sd) ∧ Hid (Sw w0 wr A m c F))
      case atStart => exact ⟨20, F1, rfl, rfl, Lib.hid (.inl rfl), HSb, hbu1, HW'⟩
      case round =>
        clear HW' hbu1 HSb hF1 hab
        obtain ⟨W, F, rfl, rfl, hW, HSb, hbu, HW⟩ := hrel
        by_cases hWm' : W < m
        · have hWmI : (W : Int) < (m : Int) := by omega
          have hWm := Lib.hid hWm'
          obtain ⟨W2, hW2⟩ : ∃ W2, Hid (2 * W = W2) := ⟨_, Lib.hid rfl⟩
          obtain ⟨q2, q3⟩ := w_mul2 hW2.out (by have := hW2.out; omega)
          have HSm := Lib.hid (Sm.start HSb.out)
          clear hWm' HSb
          go_wp2
          go_loopg [7, 8] 5 (fun gk s7 s8 wi => ∃ (t a b : Nat) (F : List Ord), gk = 5 - t ∧ s7 = .int .i64 (a : Int) ∧ s8 = .int .i64 (b : Int) ∧ Hid (t * (2 * W) = a ∧ a + W2 = b ∧ a ≤ m ∧ t * 40 ≤ a) ∧ Hid (Sm sd W t S F) ∧ Hid (∀ o ∈ F, o.buys = sd) ∧ Hid (Sw w0 wi A m c F))
          case atStart => exact ⟨0, 0, W2, F, rfl, rfl, rfl, Lib.hid ⟨by rw [Nat.zero_mul], by omega, Nat.zero_le _, by omega⟩, HSm, hbu, HW⟩
          case round =>
            clear HW HSm hbu
            obtain ⟨t, a, b, F, rfl, rfl, rfl, hab, HSm, hbu, HW⟩ := hrel
            obtain ⟨k, hk⟩ : ∃ k, Hid (a + W = k) := ⟨_, Lib.hid rfl⟩
            have q4 := w_add hk.out (by have := hab.out; have := hk.out; have := hWm.out; omega)
            have hsrt := Lib.hid HSm.out.sorted
            rw [hab.out.1, hk.out, hW2.out, hab.out.2.1] at hsrt
            by_cases hbm : b ≤ m
            · have hbmI : (b : Int) ≤ (m : Int) := by omega
              obtain ⟨b2, hb2⟩ : ∃ b2, Hid (b + W2 = b2) := ⟨_, Lib.hid rfl⟩
              have q5 := w_add hb2.out (by have := hab.out; have := hb2.out; omega)
              have hrn : Hid (a < k ∧ k < b) := Lib.hid (by have := hab.out; have := hk.out; have := hW2.out; have := hW.out; omega)
              have HC := Lib.hid (sym_part HW.out hm hbu.out hrn.out.1 hrn.out.2 hbm hsrt.out.1 hsrt.out.2)
              have HN := Lib.hid (fun X hX => HSm.out.next (X := X) (by rw [hab.out.1, hW2.out, hab.out.2.1, hSl.out]; exact hbm) hX)
              rw [hab.out.1, hk.out, hW2.out, hab.out.2.1] at HN
              have HM := Lib.hid (show 5 - (t + 1) < 5 - t by have := hab.out; omega)
              have HB := Lib.hid (fun X (hX : Stab (fst sd) (seg F a k ++ seg F k b) X) => keep_buys (P := F.take a) (R := F.drop b) hbu.out hX (fun o ho => by rcases List.mem_append.1 ho with ho | ho <;> exact mem_seg ho) (fun o ho => List.mem_of_mem_take ho) (fun o ho => List.mem_of_mem_drop ho))
              have hnx : Hid ((t + 1) * (2 * W) = b ∧ b + W2 = b2 ∧ b ≤ m ∧ (t + 1) * 40 ≤ b) := Lib.hid ⟨by rw [Nat.add_mul, Nat.one_mul, hab.out.1, hW2.out]; exact hab.out.2.1, hb2.out, hbm, by have := hab.out; have := hW2.out; have := hW.out; omega⟩
              clear hsrt hbm
              go_wp2_with (go_at_call 72; (with_reducible refine HC.out.mono ?_); rintro e w1 ⟨rfl, X, hX, hw⟩; have HX := Lib.hid hX; have HW' := Lib.hid hw; clear hX hw)
              go_roundg (5 - (t + 1))
              case measure => exact HM.out
              case rel => exact ⟨t + 1, b, b2, _, rfl, by first | rfl | go_num, by first | rfl | go_num, hnx, Lib.hid (HN.out X HX.out), Lib.hid (HB.out X HX.out), HW'⟩
            · have hbmI : ¬ (b : Int) ≤ (m : Int) := by omega
              by_cases hkm : k < m
              · have hkmI : (k : Int) < (m : Int) := by omega
                have hfm : Hid (seg F k b = F.drop k ∧ F.drop m = []) := Lib.hid ⟨seg_far F k (by rw [HW.out.len]; omega), List.drop_of_length_le (Nat.le_of_eq HW.out.len)⟩
                have hfm2 : Hid (seg F k m = F.drop k) := Lib.hid (seg_far F k (Nat.le_of_eq HW.out.len))
                have hrn : Hid (a < k) := Lib.hid (by have := hk.out; have := hW.out; omega)
                have HC := Lib.hid (sym_part HW.out hm hbu.out hrn.out hkm (Nat.le_refl _) hsrt.out.1 (by rw [hfm2.out, ← hfm.out.1]; exact hsrt.out.2))
                rw [hfm2.out, hfm.out.2] at HC
                have HN := Lib.hid (fun X hX => HSm.out.last (X := X) (by rw [hab.out.1, hSl.out]; exact hab.out.2.2.1) (by rw [hab.out.1, hW2.out, hab.out.2.1, hSl.out]; omega) hX)
                rw [hab.out.1, hk.out, hW2.out] at HN
                have HB := Lib.hid (fun X (hX : Stab (fst sd) (seg F a k ++ F.drop k) X) => keep_buys (P := F.take a) (R := []) hbu.out hX (fun o ho => by
                  rcases List.mem_append.1 ho with ho | ho
                  · exact mem_seg ho
                  · exact List.mem_of_mem_drop ho) (fun o ho => List.mem_of_mem_take ho) (fun o ho => by cases ho))
                clear hsrt hfm hfm2 hbm hkm HSm
                go_upto_region 16 with (go_at_call 72; (with_reducible refine HC.out.mono ?_); rintro e w1 ⟨rfl, X, hX, hw⟩; have HX := Lib.hid hX; have HWx := Lib.hid hw; clear hX hw)
                have hbu2 := Lib.hid (HB.out X HX.out)
                have HSb2 := Lib.hid (HN.out X HX.out)
                rw [List.append_nil] at HWx hbu2
                clear HN HB HC HW hbu
                go_wp2
                go_roundg (100 - W2)
                case measure => have := hW2.out; have := hW.out; have := hWm.out; omega
                case rel => exact ⟨W2, _, rfl, by first | rfl | go_num, Lib.hid (by have := hW2.out; have := hW.out; have := hWm.out; omega), HSb2, hbu2, HWx⟩
              · have hkmI : ¬ (k : Int) < (m : Int) := by omega
                have HSb2 := Lib.hid (HSm.out.alone (by rw [hab.out.1, hk.out, hSl.out]; omega))
                rw [hW2.out] at HSb2
                clear hsrt hbm hkm HSm
                go_wp2
                go_roundg (100 - W2)
                case measure => have := hW2.out; have := hW.out; have := hWm.out; omega
                case rel => exact ⟨W2, _, rfl, by first | rfl | go_num, Lib.hid (by have := hW2.out; have := hW.out; have := hWm.out; omega), HSb2, hbu, HW⟩
        · have hWmI : ¬ (W : Int) < (m : Int) := by omega
          have HE := Lib.hid (HSb.out.whole (by rw [hSl.out]; omega))
          clear hWm' HSb
          go_wp2
          go_end0
          exact ⟨rfl, F, HE.out, HW.out⟩
set_option maxHeartbeats 2000000 in
theorem sort_calls (w0 w : World) (A : Option Addr) (m c : Nat) (S : List Ord) (sd : Bool) (h : Sw w0 w A m c S) (hm : m ≤ 64) (hS : ∀ o ∈ S, o.buys = sd) :
    Calls Try.prog 38 #[.slice A m c, .func (.func 39) #[] #[]] w fun e w' => e = .returned (.tuple #[]) ∧ ∃ F, Stab (fst sd) S F ∧ Sw w0 w' A m c F := by
  have HC := Lib.hid (stable_calls w0 w A m c S sd h hm hS)
  clear h hS
  go_enter Try.func38, Try.ntmps38
  go_wp2_with (go_at_call 59; (with_reducible refine HC.out.mono ?_); rintro e w1 ⟨rfl, X, hX, hw⟩; have HX := Lib.hid hX; have HWx := Lib.hid hw; clear hX hw)
  go_end0
  exact ⟨rfl, X, HX.out, HWx.out⟩
end Go.Proofs.Ytilbhnloelgpdaa
namespace Go.Proofs.Ytilbhnloelgpdaa
open Go.RowKit
def Duo (s1 s2 : Nat) (w0 w : World) (v1 : Value) (n1 : Nat) (xs1 : List Value) (v2 : Value) (n2 : Nat) (xs2 : List Value) : Prop :=
  ∃ b1 b2, Own w s1 v1 b1 n1 xs1 ∧ Own w s2 v2 b2 n2 xs2 ∧ (∀ g, b1 = some g → w0.heap.size ≤ g) ∧ (∀ g, b2 = some g → w0.heap.size ≤ g) ∧ ∀ g, b1 = some g → b2 ≠ some g
section
variable {s1 s2 : Nat} {w0 w w' : World} {v1 v2 : Value} {n1 n2 : Nat} {xs1 xs2 : List Value}
theorem Duo.swap (h : Duo s1 s2 w0 w v1 n1 xs1 v2 n2 xs2) : Duo s2 s1 w0 w v2 n2 xs2 v1 n1 xs1 := by
  obtain ⟨b1, b2, h1, h2, h3, h4, h5⟩ := h
  exact ⟨b2, b1, h2, h1, h4, h3, fun g hg hh => h5 g hh hg⟩
theorem Duo.below (h : Duo s1 s2 w0 w v1 n1 xs1 v2 n2 xs2) (hb : Below w.heap.size w w') : Duo s1 s2 w0 w' v1 n1 xs1 v2 n2 xs2 := by
  obtain ⟨b1, b2, h1, h2, h3, h4, h5⟩ := h
  exact ⟨b1, b2, h1.below hb, h2.below hb, h3, h4, h5⟩
theorem Duo.alloc (h : Duo s1 s2 w0 w v1 n1 xs1 v2 n2 xs2) (o : Obj) : Duo s1 s2 w0 (w.alloc o) v1 n1 xs1 v2 n2 xs2 := h.below ((Below.refl _ _).alloc (Nat.le_refl _) o)
theorem Duo.drew (h : Duo s1 s2 w0 w v1 n1 xs1 v2 n2 xs2) : Duo s1 s2 w0 w.drew v1 n1 xs1 v2 n2 xs2 := h.below (Below.refl _ _).drew
theorem Duo.fst (h : Duo s1 s2 w0 w v1 n1 xs1 v2 n2 xs2) : Mine w0 w s1 v1 n1 xs1 := by
  obtain ⟨b1, b2, h1, h2, h3, h4, h5⟩ := h
  exact ⟨b1, h1, h3⟩
theorem Duo.snd (h : Duo s1 s2 w0 w v1 n1 xs1 v2 n2 xs2) : Mine w0 w s2 v2 n2 xs2 := h.swap.fst
theorem Duo.empty (w0 w : World) (A B : Option Addr) : Duo s1 s2 w0 w (.slice A 0 0) 0 [] (.slice B 0 0) 0 [] :=
  ⟨none, none, ⟨by simp, A, 0, rfl, Nat.le_refl _, Nat.zero_le _, .inl ⟨rfl, rfl⟩⟩, ⟨by simp, B, 0, rfl, Nat.le_refl _, Nat.zero_le _, .inl ⟨rfl, rfl⟩⟩, nofun, nofun, nofun⟩
/-- A row of its own, and one that was made behind it. -/
theorem Duo.of {w1 : World} (h1 : Mine w0 w1 s1 v1 n1 xs1) (h01 : w0.heap.size ≤ w1.heap.size) (hb : Below w1.heap.size w1 w) (h2 : Mine w1 w s2 v2 n2 xs2) : Duo s1 s2 w0 w v1 n1 xs1 v2 n2 xs2 := by
  obtain ⟨b1, o1, q1⟩ := h1
  obtain ⟨b2, o2, q2⟩ := h2
  refine ⟨b1, b2, o1.below hb, o2, q1, fun g hg => Nat.le_trans h01 (q2 g hg), fun g hg hh => ?_⟩
  have := o1.lt hg
  have := q2 g hh
  omega
theorem Duo.grow1 (h0 : w0.heap.size ≤ w.heap.size) {m : Nat} {news : List Value} {v' : Value} {b1 b2 b' : Option Nat} (h2 : Own w s2 v2 b2 n2 xs2) (h3 : ∀ g, b1 = some g → w0.heap.size ≤ g) (h4 : ∀ g, b2 = some g → w0.heap.size ≤ g) (h5 : ∀ g, b1 = some g → b2 ≠ some g)
    (ho : Own w' s1 v' b' (n1 + m) (xs1 ++ news)) (hg : w.grownBy w' b1) (hb : b' = b1 ∨ b' = some w.heap.size) : Duo s1 s2 w0 w' v' (n1 + m) (xs1 ++ news) v2 n2 xs2 := by
  refine ⟨b', b2, ho, h2.grown hg fun g hg2 hh => h5 g hh hg2, fun g hg' => ?_, h4, fun g hg' hh => ?_⟩
  · rcases hb with hb | hb
    · exact h3 g (hb ▸ hg')
    · rw [hb] at hg'; cases hg'; exact h0
  · rcases hb with hb | hb
    · exact h5 g (hb ▸ hg') hh
    · rw [hb] at hg'; cases hg'
      have := h2.lt hh
      omega
theorem wpList_append_duo {P : Program} {ops : Array Oper} {rest : List Oper} {o : Oper} {a : Act} {Q : Exit → Act → World → Prop} (hgd : o.guard = none) (s x : Operand) (t tx : TypeId)
    (ho : o.op = .call { callee := .builtin .append, args := #[s, x], argTypes := #[t, tx] })
    (e : TypeId) (i : TypeInfo) (z : Value) (bytes : Nat) (ht : P.underlying t = some (.slice e)) (hi : P.info? e = some i) (hz : i.zero = some z) (hsize : i.size = s1) (hby : i.bytes = bytes) (hzs : z.cells.size = s1) (hsz : 0 < s1)
    (hv : a.eval s = v1) (h : Duo s1 s2 w0 w v1 n1 xs1 v2 n2 xs2) (hbl : Below w0.heap.size w0 w) (xv : Value) (m : Nat) (news : List Value) (hx : a.eval x = xv) (hs : Src P s1 tx xv m news w) (h63 : n1 + m ≤ maxLen) (hbytes : (n1 + m) * bytes ≤ 140737488355328)
    (hK : ∀ A c w', Duo s1 s2 w0 w' (.slice A (n1 + m) c) (n1 + m) (xs1 ++ news) v2 n2 xs2 → Below w0.heap.size w0 w' → wpList P ops Q rest (a.put o.dst (.slice A (n1 + m) c)) w') : wpList P ops Q (o :: rest) a w := by
  obtain ⟨b1, b2, h1, h2, h3, h4, h5⟩ := id h
  exact wpList_append_own2 hgd s x t tx ho e i z bytes ht hi hz hsize hby hzs hsz hv h1 xv m news hx hs h63 hbytes fun A c w' b' hown hg hb => hK A c w' (Duo.grow1 hbl.size h2 h3 h4 h5 hown hg hb) (below_grown hbl hg h3)
theorem step_append_duo {P : Program} {ops : Array Oper} {o : Oper} {a : Act} {K : Act → World → Prop} {Q : Exit → Act → World → Prop} {E : Prop} (hgd : o.guard = none) (s x : Operand) (t tx : TypeId)
    (ho : o.op = .call { callee := .builtin .append, args := #[s, x], argTypes := #[t, tx] })
    (e : TypeId) (i : TypeInfo) (z : Value) (bytes : Nat) (ht : P.underlying t = some (.slice e)) (hi : P.info? e = some i) (hz : i.zero = some z) (hsize : i.size = s1) (hby : i.bytes = bytes) (hzs : z.cells.size = s1) (hsz : 0 < s1)
    (hv : a.eval s = v1) (h : Duo s1 s2 w0 w v1 n1 xs1 v2 n2 xs2) (hbl : Below w0.heap.size w0 w) (xv : Value) (m : Nat) (news : List Value) (hx : a.eval x = xv) (hs : Src P s1 tx xv m news w) (h63 : n1 + m ≤ maxLen) (hbytes : (n1 + m) * bytes ≤ 140737488355328)
    (hK : ∀ A c w', Duo s1 s2 w0 w' (.slice A (n1 + m) c) (n1 + m) (xs1 ++ news) v2 n2 xs2 → Below w0.heap.size w0 w' → K (a.put o.dst (.slice A (n1 + m) c)) w') :
    if Region.wanted o (yielded ops a.tmps) = true then Oper.wp P o a w K Q else E := by
  have hw : Region.wanted o (yielded ops a.tmps) = true := by simp [Region.wanted, hgd]
  rw [if_pos hw]
  obtain ⟨b1, b2, h1, h2, h3, h4, h5⟩ := id h
  obtain ⟨v', w', b', hrun, hown, hg, hb⟩ := run_append_own2 (P := P) h1 t tx o.type e i z bytes ht hi hz hsize hby hzs hsz xv m news hs h63 hbytes
  obtain ⟨hl, A, c, rfl, hrest⟩ := id hown
  unfold Oper.wp execOp
  simp only [ho, resolve, invoke, builtin, Sem.run_bind, Sem.run_pure, Result.andThen_ok, List.map_toArray, List.map_cons, List.map_nil, hv, hx, hrun]
  exact hK _ _ _ (Duo.grow1 hbl.size h2 h3 h4 h5 hown hg hb) (below_grown hbl hg h3)
end
end Go.Proofs.Ytilbhnloelgpdaa
namespace Go.Proofs.Ytilbhnloelgpdaa
open Go.RowKit
set_option linter.unusedVariables false
set_option linter.unusedSimpArgs false
structure Fil where
  id : Int
  owner : Int
  amount : Int
def fil0 : Fil := ⟨0, 0, 0⟩
def fcell (f : Fil) : List Value := [.int .i64 f.id, .int .i64 f.owner, .int .i64 f.amount]
def fcells (L : List Fil) : List Value := L.flatMap fcell
theorem fcell_length (f : Fil) : (fcell f).length = 3 := rfl
theorem fcells_append (L M : List Fil) : fcells (L ++ M) = fcells L ++ fcells M := by unfold fcells; rw [List.flatMap_append]
theorem fcells_length (L : List Fil) : (fcells L).length = L.length * 3 := by
  induction L with
  | nil => rfl
  | cons o l ih => unfold fcells at *; rw [List.flatMap_cons, List.length_append, ih, List.length_cons, fcell_length]; omega
theorem fcells_one (L : List Fil) : ∀ u ∈ fcells L, u.oneCell' = true := by
  intro u hu
  unfold fcells at hu
  obtain ⟨p, _, hs⟩ := List.mem_flatMap.1 hu
  unfold fcell at hs
  simp only [List.mem_cons, List.not_mem_nil, or_false] at hs
  rcases hs with rfl | rfl | rfl <;> rfl
theorem fcells_get (L : List Fil) {i j : Nat} (hi : i < L.length) (hj : j < 3) : (fcells L).getD (i * 3 + j) (.bool false) = (fcell (L.getD i fil0)).getD j (.bool false) := by
  induction L generalizing i with
  | nil => simp at hi
  | cons s L ih =>
    have e : fcells (s :: L) = fcell s ++ fcells L := rfl
    rw [e]
    cases i with
    | zero =>
      simp only [List.getD_eq_getElem?_getD, Nat.zero_mul, Nat.zero_add]
      rw [List.getElem?_append_left (by rw [fcell_length]; exact hj)]; rfl
    | succ i =>
      have := ih (i := i) (by simpa using hi)
      rw [show (i + 1) * 3 + j = (i * 3 + j) + 3 from by omega]
      simp only [List.getD_eq_getElem?_getD] at *
      rw [List.getElem?_append_right (by rw [fcell_length]; omega)]
      simpa [fcell] using this
/-- The fills L in w, from A on. -/
def FRow (w : World) (A : Option Addr) (L : List Fil) : Prop := Row w A (L.length * 3) fun j => (fcells L).getD j (.bool false)
theorem FRow.below {w w' : World} {A : Option Addr} {L : List Fil} (h : FRow w A L) (hb : Below w.heap.size w w') : FRow w' A L := Row.below h hb
theorem FRow.cells {w : World} {A : Option Addr} {L : List Fil} (h : FRow w A L) {i : Nat} (hi : i < L.length) : ∃ b o, A = some ⟨b, o, none⟩ ∧ ∀ w', Below w.heap.size w w' → ∀ j, j < 3 → w'.cell? ⟨b, o + i * 3 + j, none⟩ = some ((fcell (L.getD i fil0)).getD j (.bool false)) := by
  obtain ⟨b, o, e, _⟩ := Row.at_ h (k := i * 3) (by omega)
  refine ⟨b, o, e, fun w' hb j hj => ?_⟩
  obtain ⟨b', o', e', h1, h2⟩ := Row.at_ h (k := i * 3 + j) (by omega)
  rw [e] at e'; cases e'
  rw [← fcells_get L hi hj, Nat.add_assoc]; exact (below_cell hb h1).trans h2
theorem FRow.three {w w' : World} {b o : Nat} {L : List Fil} (h : FRow w (some ⟨b, o, none⟩) L) {i : Nat} (hi : i < L.length) (hb : Below w.heap.size w w') :
    w'.cell? ⟨b, o + i * 3, none⟩ = some (.int .i64 (L.getD i fil0).id) ∧ w'.cell? ⟨b, o + i * 3 + 1, none⟩ = some (.int .i64 (L.getD i fil0).owner) ∧ w'.cell? ⟨b, o + i * 3 + 2, none⟩ = some (.int .i64 (L.getD i fil0).amount) := by
  obtain ⟨b', o', e, h1⟩ := FRow.cells h hi
  cases e
  have each := h1 w' hb
  exact ⟨each 0 (by omega), each 1 (by omega), each 2 (by omega)⟩
theorem Mine.frow {w0 w : World} {A : Option Addr} {c m : Nat} {L : List Fil} (h : Mine w0 w 3 (.slice A m c) m (fcells L)) (hm : L.length = m) : m ≤ c ∧ FRow w A L := by
  obtain ⟨A', c', e, h1, _, h3⟩ := h.row
  cases e
  refine ⟨h1, ?_⟩
  unfold FRow
  rw [hm]; exact h3
/-- A list of fills of its own. -/
def FLeft (w0 : World) (R : List Fil) (e : Ending) (w' : World) : Prop := ∃ A c, e = .returned (.slice A R.length c) ∧ Mine w0 w' 3 (.slice A R.length c) R.length (fcells R) ∧ Below w0.heap.size w0 w'
/-- o goes to its place in l, which is sorted. -/
def ins (sd : Bool) (o : Ord) (l : List Ord) : List Ord := l.takeWhile (fun x => !fst sd o x) ++ o :: l.dropWhile (fun x => !fst sd o x)
def isort (sd : Bool) (l : List Ord) : List Ord := l.foldl (fun acc o => ins sd o acc) []
theorem tw_all {p : Ord → Bool} : ∀ {l : List Ord} {x : Ord}, x ∈ l.takeWhile p → p x = true
  | [], x, h => by simp at h
  | q :: l, x, h => by
    by_cases hq : p q = true
    · rw [List.takeWhile_cons_of_pos hq, List.mem_cons] at h
      rcases h with h | h
      · rw [h]; exact hq
      · exact tw_all h
    · rw [List.takeWhile_cons_of_neg hq] at h; simp at h
theorem dw_head {p : Ord → Bool} : ∀ {l : List Ord} {x : Ord} {t : List Ord}, l.dropWhile p = x :: t → p x = false
  | [], x, t, h => by simp at h
  | q :: l, x, t, h => by
    by_cases hq : p q = true
    · rw [List.dropWhile_cons_of_pos hq] at h; exact dw_head h
    · rw [List.dropWhile_cons_of_neg hq] at h
      obtain ⟨rfl, _⟩ := List.cons.inj h
      simpa using hq
theorem ins_stab {sd : Bool} {l : List Ord} (h : Sortd (fst sd) l) (o : Ord) : Stab (fst sd) (l ++ [o]) (ins sd o l) := by
  have hw := fst_swo sd
  have e : l.takeWhile (fun x => !fst sd o x) ++ l.dropWhile (fun x => !fst sd o x) = l := List.takeWhile_append_dropWhile
  have := stab_insert hw (S1 := l.takeWhile (fun x => !fst sd o x)) (S2 := l.dropWhile (fun x => !fst sd o x)) (o := o) (by rw [e]; exact h) (fun x hx => by have := tw_all hx; simpa using this) (fun x hx => ?_)
  · rwa [e] at this
  · have hs : Sortd (fst sd) (l.dropWhile (fun x => !fst sd o x)) := by
      rw [← e] at h
      exact (sortd_append.1 h).2.1
    generalize hd : l.dropWhile (fun x => !fst sd o x) = d at hs hx
    cases d with
    | nil => cases hx
    | cons y t =>
      have h1 : fst sd o y = true := by have := dw_head hd; simpa using this
      rcases List.mem_cons.1 hx with rfl | hx
      · exact h1
      · exact hw.lt_le h1 ((List.pairwise_cons.1 hs).1 x hx)
theorem isort_fold (sd : Bool) : ∀ (l m a : List Ord), Stab (fst sd) m a → Stab (fst sd) (m ++ l) (l.foldl (fun acc o => ins sd o acc) a)
  | [], m, a, h => by rw [List.append_nil]; exact h
  | o :: l, m, a, h => by
    have h2 : Stab (fst sd) (m ++ [o]) (ins sd o a) := Stab.of_alike (B := a ++ [o]) (fun x => by rw [cls_append, cls_append, h.alike]) (by rw [List.length_append, List.length_append, h.len]) (ins_stab h.sorted o)
    have := isort_fold sd l (m ++ [o]) _ h2
    rw [List.append_assoc] at this
    exact this
theorem isort_stab (sd : Bool) (l : List Ord) : Stab (fst sd) l (isort sd l) := isort_fold sd l [] [] (Stab.refl List.Pairwise.nil)
namespace Ca
def good (sd : Bool) (p : Int) (o : Ord) : Bool := (o.buys == sd) && (if sd = true then decide (p ≤ o.price) else decide (o.price ≤ p))
def sideOf (sd : Bool) (p : Int) (R : List Ord) : List Ord := R.filter (good sd p)
def fillGo : Int → List Ord → List Fil
  | _, [] => []
  | left, o :: l => if 0 < min left o.amount then ⟨o.id, o.owner, min left o.amount⟩ :: fillGo (left - min left o.amount) l else fillGo left l
def leftGo : Int → List Ord → Int
  | left, [] => left
  | left, o :: l => leftGo (if 0 < min left o.amount then left - min left o.amount else left) l
def fills (L : List Ord) (p n : Int) : List Fil := fillGo n (isort true (sideOf true p (rights L))) ++ fillGo n (isort false (sideOf false p (rights L)))
theorem fillGo_snoc (o : Ord) : ∀ (l : List Ord) (n : Int), fillGo n (l ++ [o]) = fillGo n l ++ (if 0 < min (leftGo n l) o.amount then [⟨o.id, o.owner, min (leftGo n l) o.amount⟩] else [])
  | [], n => rfl
  | q :: l, n => by
    simp only [List.cons_append, fillGo, leftGo]
    split
    · rw [List.cons_append, fillGo_snoc o l]
    · rw [fillGo_snoc o l]
theorem leftGo_snoc (o : Ord) : ∀ (l : List Ord) (n : Int), leftGo n (l ++ [o]) = if 0 < min (leftGo n l) o.amount then leftGo n l - min (leftGo n l) o.amount else leftGo n l
  | [], n => rfl
  | q :: l, n => by
    simp only [List.cons_append, leftGo]
    exact leftGo_snoc o l _
theorem fillGo_length : ∀ (l : List Ord) (n : Int), (fillGo n l).length ≤ l.length
  | [], n => Nat.le_refl _
  | q :: l, n => by
    simp only [fillGo]
    split
    · have := fillGo_length l (n - min n q.amount); simp only [List.length_cons]; omega
    · have := fillGo_length l n; simp only [List.length_cons]; omega
theorem leftGo_range {lo hi : Int} (h0 : lo ≤ 0) : ∀ (l : List Ord) (n : Int), lo ≤ n → n ≤ hi → lo ≤ leftGo n l ∧ leftGo n l ≤ hi
  | [], n, h1, h2 => ⟨h1, h2⟩
  | q :: l, n, h1, h2 => by
    simp only [leftGo]
    split
    · exact leftGo_range h0 l _ (by omega) (by omega)
    · exact leftGo_range h0 l _ h1 h2
theorem sideOf_next (sd : Bool) (p : Int) (R : List Ord) {k : Nat} (h : k < R.length) : sideOf sd p (R.take (k + 1)) = sideOf sd p (R.take k) ++ (if good sd p (R.getD k ord0) = true then [R.getD k ord0] else []) := by
  unfold sideOf
  rw [take_at R h, List.filter_append]
  congr 1
  generalize R.getD k ord0 = q
  by_cases hg : good sd p q = true
  · rw [if_pos hg, List.filter_cons_of_pos hg]; rfl
  · rw [if_neg hg, List.filter_cons_of_neg hg]; rfl
theorem sideOf_buys {sd : Bool} {p : Int} {R : List Ord} : ∀ o ∈ sideOf sd p R, o.buys = sd := fun o ho => by
  have := (List.mem_filter.1 ho).2
  unfold good at this
  simp only [Bool.and_eq_true, beq_iff_eq] at this
  exact this.1
end Ca
end Go.Proofs.Ytilbhnloelgpdaa
namespace Go.Proofs.Ytilbhnloelgpdaa
open Go.RowKit
set_option linter.unusedVariables false
set_option linter.unusedSimpArgs false
theorem Mine.base {w0 w1 w : World} {sz n : Nat} {v : Value} {xs : List Value} (h : Mine w1 w sz v n xs) (hb : w0.heap.size ≤ w1.heap.size) : Mine w0 w sz v n xs := by
  obtain ⟨b, h1, h2⟩ := h
  exact ⟨b, h1, fun g hg => Nat.le_trans hb (h2 g hg)⟩
namespace Ca
def fillsTo (R : List Ord) (p n : Int) : Nat → List Fil
  | 0 => []
  | t + 1 => fillsTo R p n t ++ fillGo n (isort (t == 0) (sideOf (t == 0) p R))
theorem fillsTo_two (L : List Ord) (p n : Int) : fillsTo (rights L) p n 2 = fills L p n := by
  simp only [fillsTo, fills]
  rfl
end Ca
theorem info_fill : (Try.prog.info? 44).map (fun i => (i.zero, i.size, i.bytes)) = some (some (.agg #[.int .i64 0, .int .i64 0, .int .i64 0]), 3, 24) := by kernel_rfl
set_option maxHeartbeats 16000000 in
set_option maxRecDepth 100000 in
theorem fills_calls (w : World) (A : Option Addr) (L : List Ord) (c : Nat) (p amt : Int) (h : ORow w A L) (hr : -9223372036854775808 ≤ amt ∧ amt ≤ 9223372036854775807) :
    Calls Try.prog 16 #[.slice A L.length c, .int .i64 p, .int .i64 amt] w (FLeft w (Ca.fills L p amt)) := by
  have HC := Lib.hid (rights_calls w A L c h)
  have HE := Lib.hid (Ca.fillsTo_two L p amt)
  have hfew := Lib.hid (Ca.rights_few L)
  obtain ⟨T, hT⟩ : ∃ T, Hid (Ca.fills L p amt = T) := ⟨_, Lib.hid rfl⟩
  rw [hT.out] at HE ⊢
  generalize Ca.rights L = R at HC HE hfew
  obtain ⟨r, hr1⟩ : ∃ r, Hid (R.length = r) := ⟨_, Lib.hid rfl⟩
  obtain ⟨n0, hn0⟩ : ∃ n0, Hid (L.length = n0) := ⟨_, Lib.hid rfl⟩
  rw [hn0.out] at HC ⊢
  rw [hr1.out] at hfew
  have Hr := Lib.hid hr
  obtain ⟨i1, hi1, hy0, hy1, hy2⟩ := info_parts info_order
  have HI1 := Lib.hid hi1
  have HY0 := Lib.hid hy0
  have HY1 := Lib.hid hy1
  have HY2 := Lib.hid hy2
  obtain ⟨j1, hj1, hz0, hz1, hz2⟩ := info_parts info_fill
  have HJ1 := Lib.hid hj1
  have HZ0 := Lib.hid hz0
  have HZ1 := Lib.hid hz1
  have HZ2 := Lib.hid hz2
  clear h hi1 hy0 hy1 hy2 hj1 hz0 hz1 hz2 hr
  go_enter Try.func16, Try.ntmps16
  go_upto_region 3 with (go_at_call 36; (with_reducible refine HC.out.mono ?_); rintro e w1 ⟨A1, c1, rfl, hz1, hb1⟩; rw [hr1.out] at hz1 ⊢; have HZr := Lib.hid hz1; have HB1 := Lib.hid hb1; clear hz1 hb1)
  have hO : Hid (ORow w1 A1 R) := Lib.hid (HZr.out.orow hr1.out).2
  go_upto_region 4 with (fail)
  have hb2 : Hid (Below w1.heap.size w1 (w1.alloc (.cells #[.bool true, .bool false] 4))) := Lib.hid ((Below.refl _ _).alloc (Nat.le_refl _) _)
  have BB := Lib.hid (Blk.new w1 4 #[.bool true, .bool false])
  obtain ⟨g, hg⟩ : ∃ g, Hid (w1.heap.size = g) := ⟨_, Lib.hid rfl⟩
  rw [hg.out] at BB ⊢
  generalize World.alloc w1 _ = w2 at hb2 BB ⊢
  go_loopg [7, 21] 3 (fun gk s7 s21 wr => ∃ (t : Nat) (A : Option Addr) (n c : Nat), gk = 3 - t ∧ t ≤ 2 ∧ s21 = .int .i64 (t : Int) ∧ s7 = .slice A n c ∧ Hid ((Ca.fillsTo R p amt t).length = n ∧ n ≤ 64 * t) ∧ Hid (Mine w2 wr 3 (.slice A n c) n (fcells (Ca.fillsTo R p amt t))) ∧ Hid (Below w2.heap.size w2 wr))
  case atStart => exact ⟨0, none, 0, 0, rfl, Nat.zero_le _, rfl, rfl, Lib.hid ⟨rfl, Nat.zero_le _⟩, Lib.hid (Mine.empty _ _ _ _), Lib.hid (Below.refl _ _)⟩
  case round =>
    obtain ⟨t, A, n, c, rfl, ht, rfl, rfl, hn, HM1, hb⟩ := hrel
    by_cases htl : t < 2
    · obtain ⟨wo, hwo⟩ : ∃ wo, wo = wr := ⟨_, rfl⟩
      subst hwo
      have htI : (t : Int) < 2 := by omega
      have t0 : (0 : Int) ≤ (t : Int) := by omega
      obtain ⟨sd, hsd⟩ : ∃ sd, Hid ((t == 0) = sd) := ⟨_, Lib.hid rfl⟩
      have hcell : wo.cell? ⟨g, t, none⟩ = some (.bool sd) := by
        rw [(BB.out.below hb.out BB.out.lt).cell t, ← hsd.out]
        rcases (show t = 0 ∨ t = 1 by omega) with e | e <;> rw [e] <;> rfl
      have HT1 : Hid (Ca.fillsTo R p amt (t + 1) = Ca.fillsTo R p amt t ++ Ca.fillGo amt (isort sd (Ca.sideOf sd p R))) := Lib.hid (by rw [← hsd.out]; rfl)
      have HMt := Lib.hid (show 3 - (t + 1) < 3 - t by omega)
      have hbw1 := Lib.hid (below_next hb2.out hb.out)
      generalize Ca.fillsTo R p amt t = outs at hn HM1 HT1
      go_upto_region 7 with (fail)
      clear hcell
      go_wp2
      go_loopg [10, 27] (r + 1) (fun gk s10 s27 wi => ∃ (i : Nat) (A2 : Option Addr) (n2 c2 : Nat), gk = r + 1 - i ∧ i ≤ r ∧ s27 = .int .i64 (i : Int) ∧ s10 = .slice A2 n2 c2 ∧ Hid ((Ca.sideOf sd p (R.take i)).length = n2 ∧ n2 ≤ i ∧ i ≤ 64) ∧ Hid (Mine wo wi 6 (.slice A2 n2 c2) n2 (ocells (Ca.sideOf sd p (R.take i)))) ∧ Hid (Below wo.heap.size wo wi))
      case atStart => exact ⟨0, none, 0, 0, rfl, Nat.zero_le _, rfl, rfl, Lib.hid ⟨by simp [Ca.sideOf], Nat.zero_le _, by omega⟩, Lib.hid (by rw [List.take_zero]; exact Mine.empty _ _ _ _), Lib.hid (Below.refl _ _)⟩
      case round =>
        obtain ⟨i, A2, n2, c2, rfl, hi, rfl, rfl, hn2, HM2, hbi⟩ := hrel
        have i0 : (0 : Int) ≤ (i : Int) := by omega
        by_cases hil : i < r
        · have hiI : (i : Int) < (r : Int) := by omega
          have hiL : Hid (i < R.length) := Lib.hid (by rw [hr1.out]; exact hil)
          obtain ⟨b, o, rfl⟩ : ∃ b o, A1 = some ⟨b, o, none⟩ := by
            obtain ⟨b, o, e, _⟩ := hO.out.cells hiL.out
            exact ⟨b, o, e⟩
          have HCi := Lib.hid (ORow.six hO.out hiL.out (below_next hbw1.out hbi.out))
          have hNx := Lib.hid (Ca.sideOf_next sd p R hiL.out)
          have HM := Lib.hid (show r + 1 - (i + 1) < r + 1 - i by omega)
          have hi64 := Lib.hid (show i + 1 ≤ 64 by have := hfew.out; omega)
          have hi65 := hi64.out
          generalize R.getD i ord0 = q at HCi hNx
          obtain ⟨qi, qo, qp, qa, qpl, qb⟩ := q
          obtain ⟨c0, c1', c2', c3, c4, c5⟩ := HCi.out
          simp only at c0 c1' c2' c3 c4 c5
          go_upto_region 10 with (fail)
          have hbx : Hid (Below wr.heap.size wr (wr.alloc (.cells #[.int .i64 qi, .int .i64 qo, .int .i64 qp, .int .i64 qa, .int .i64 qpl, .bool qb] 33))) := Lib.hid ((Below.refl _ _).alloc (Nat.le_refl _) _)
          have BA := Lib.hid (Blk.new wr 33 #[.int .i64 qi, .int .i64 qo, .int .i64 qp, .int .i64 qa, .int .i64 qpl, .bool qb])
          obtain ⟨g1, hg1⟩ : ∃ g1, Hid (wr.heap.size = g1) := ⟨_, Lib.hid rfl⟩
          rw [hg1.out] at BA ⊢
          clear c0 c1' c2' c3 c4 c5 HCi
          obtain ⟨wi, hwi⟩ : ∃ wi, wi = wr := ⟨_, rfl⟩
          subst hwi
          generalize World.alloc wi _ = wx at hbx BA ⊢
          obtain ⟨c0, c1', c2', c3, c4, c5⟩ : (wx.cell? ⟨g1, 0, none⟩ = some (.int .i64 qi) ∧ wx.cell? ⟨g1, 1, none⟩ = some (.int .i64 qo) ∧ wx.cell? ⟨g1, 2, none⟩ = some (.int .i64 qp) ∧ wx.cell? ⟨g1, 3, none⟩ = some (.int .i64 qa) ∧ wx.cell? ⟨g1, 4, none⟩ = some (.int .i64 qpl) ∧ wx.cell? ⟨g1, 5, none⟩ = some (.bool qb)) := ⟨BA.out.cell 0, BA.out.cell 1, BA.out.cell 2, BA.out.cell 3, BA.out.cell 4, BA.out.cell 5⟩
          cases sd with
          | true =>
            cases qb with
            | true =>
              by_cases hp : p ≤ qp
              · have hgd : Hid (Ca.good true p ⟨qi, qo, qp, qa, qpl, true⟩ = true) := Lib.hid (by simp [Ca.good, hp])
                have hN := hNx.out
                rw [if_pos (by rw [hgd.out])] at hN
                have HN := Lib.hid hN
                clear hN hNx
                have hA1 : Hid (n2 + 1 ≤ maxLen) := Lib.hid (by have := hn2.out; unfold maxLen; omega)
                have hA2 : Hid ((n2 + 1) * 48 ≤ 140737488355328) := Lib.hid (by have := hn2.out; omega)
                have hS1 : Hid (∀ wx : World, Src Try.prog 6 22 (.slice (some ⟨wx.heap.size, 0, none⟩) 1 1) 1 (ocell ⟨qi, qo, qp, qa, qpl, true⟩) (wx.alloc (.cells (ocell ⟨qi, qo, qp, qa, qpl, true⟩).toArray 33))) := Lib.hid fun wx => src_new Try.underlying22 wx _ _ 1 1 rfl (by simp [ocell, Value.oneCell'])
                clear hgd
                go_upto_region 11 with (fail)
                go_wp2_with (first
                  | (at_builtin; (refine wpList_append_mine rfl (.tmp 54) (.tmp 56) 22 22 rfl 33 i1 (.agg #[.int .i64 0, .int .i64 0, .int .i64 0, .int .i64 0, .int .i64 0, .bool false]) 48 Try.underlying22 HI1.out HY0.out HY1.out HY2.out rfl (by decide) rfl ((HM2.out.below hbx.out).alloc _) ((below_next hbi.out hbx.out).alloc (below_next hbi.out hbx.out).size _) _ 1 (ocell ⟨qi, qo, qp, qa, qpl, true⟩) rfl (hS1.out _) hA1.out hA2.out ?_); intro A3 c3 w3 hm3 hb3; have HM3 := Lib.hid hm3; have HB3 := Lib.hid hb3; clear hm3 hb3))
                go_roundg (r + 1 - (i + 1))
                case measure => exact HM.out
                case rel => exact ⟨i + 1, A3, n2 + 1, c3, rfl, by omega, by first | rfl | go_num, rfl, Lib.hid (by rw [HN.out, List.length_append]; have := hn2.out; have := hi64.out; simp only [List.length_cons, List.length_nil]; omega), Lib.hid (by rw [HN.out, ocells_append]; exact HM3.out), HB3⟩
              · have hgd : Hid (Ca.good true p ⟨qi, qo, qp, qa, qpl, true⟩ = false) := Lib.hid (by simp [Ca.good, hp])
                have hN := hNx.out
                rw [if_neg (by rw [hgd.out]; simp), List.append_nil] at hN
                have HN := Lib.hid hN
                clear hN hNx
                rw [← HN.out] at HM2 hn2
                clear hgd
                go_wp2
                go_roundg (r + 1 - (i + 1))
                case measure => exact HM.out
                case rel => exact ⟨i + 1, A2, n2, c2, rfl, by omega, by first | rfl | go_num, rfl, Lib.hid (by have := hn2.out; have := hi64.out; omega), Lib.hid (HM2.out.below hbx.out), Lib.hid (below_next hbi.out hbx.out)⟩
            | false =>
              have hgd : Hid (Ca.good true p ⟨qi, qo, qp, qa, qpl, false⟩ = false) := Lib.hid (by simp [Ca.good])
              have hN := hNx.out
              rw [if_neg (by rw [hgd.out]; simp), List.append_nil] at hN
              have HN := Lib.hid hN
              clear hN hNx
              rw [← HN.out] at HM2 hn2
              clear hgd
              go_wp2
              go_roundg (r + 1 - (i + 1))
              case measure => exact HM.out
              case rel => exact ⟨i + 1, A2, n2, c2, rfl, by omega, by first | rfl | go_num, rfl, Lib.hid (by have := hn2.out; have := hi64.out; omega), Lib.hid (HM2.out.below hbx.out), Lib.hid (below_next hbi.out hbx.out)⟩
          | false =>
            cases qb with
            | true =>
              have hgd : Hid (Ca.good false p ⟨qi, qo, qp, qa, qpl, true⟩ = false) := Lib.hid (by simp [Ca.good])
              have hN := hNx.out
              rw [if_neg (by rw [hgd.out]; simp), List.append_nil] at hN
              have HN := Lib.hid hN
              clear hN hNx
              rw [← HN.out] at HM2 hn2
              clear hgd
              go_wp2
              go_roundg (r + 1 - (i + 1))
              case measure => exact HM.out
              case rel => exact ⟨i + 1, A2, n2, c2, rfl, by omega, by first | rfl | go_num, rfl, Lib.hid (by have := hn2.out; have := hi64.out; omega), Lib.hid (HM2.out.below hbx.out), Lib.hid (below_next hbi.out hbx.out)⟩
            | false =>
              by_cases hp : qp ≤ p
              · have hgd : Hid (Ca.good false p ⟨qi, qo, qp, qa, qpl, false⟩ = true) := Lib.hid (by simp [Ca.good, hp])
                have hN := hNx.out
                rw [if_pos (by rw [hgd.out])] at hN
                have HN := Lib.hid hN
                clear hN hNx
                have hA1 : Hid (n2 + 1 ≤ maxLen) := Lib.hid (by have := hn2.out; unfold maxLen; omega)
                have hA2 : Hid ((n2 + 1) * 48 ≤ 140737488355328) := Lib.hid (by have := hn2.out; omega)
                have hS1 : Hid (∀ wx : World, Src Try.prog 6 22 (.slice (some ⟨wx.heap.size, 0, none⟩) 1 1) 1 (ocell ⟨qi, qo, qp, qa, qpl, false⟩) (wx.alloc (.cells (ocell ⟨qi, qo, qp, qa, qpl, false⟩).toArray 33))) := Lib.hid fun wx => src_new Try.underlying22 wx _ _ 1 1 rfl (by simp [ocell, Value.oneCell'])
                clear hgd
                go_upto_region 11 with (fail)
                go_wp2_with (first
                  | (at_builtin; (refine wpList_append_mine rfl (.tmp 54) (.tmp 56) 22 22 rfl 33 i1 (.agg #[.int .i64 0, .int .i64 0, .int .i64 0, .int .i64 0, .int .i64 0, .bool false]) 48 Try.underlying22 HI1.out HY0.out HY1.out HY2.out rfl (by decide) rfl ((HM2.out.below hbx.out).alloc _) ((below_next hbi.out hbx.out).alloc (below_next hbi.out hbx.out).size _) _ 1 (ocell ⟨qi, qo, qp, qa, qpl, false⟩) rfl (hS1.out _) hA1.out hA2.out ?_); intro A3 c3 w3 hm3 hb3; have HM3 := Lib.hid hm3; have HB3 := Lib.hid hb3; clear hm3 hb3))
                go_roundg (r + 1 - (i + 1))
                case measure => exact HM.out
                case rel => exact ⟨i + 1, A3, n2 + 1, c3, rfl, by omega, by first | rfl | go_num, rfl, Lib.hid (by rw [HN.out, List.length_append]; have := hn2.out; have := hi64.out; simp only [List.length_cons, List.length_nil]; omega), Lib.hid (by rw [HN.out, ocells_append]; exact HM3.out), HB3⟩
              · have hgd : Hid (Ca.good false p ⟨qi, qo, qp, qa, qpl, false⟩ = false) := Lib.hid (by simp [Ca.good, hp])
                have hN := hNx.out
                rw [if_neg (by rw [hgd.out]; simp), List.append_nil] at hN
                have HN := Lib.hid hN
                clear hN hNx
                rw [← HN.out] at HM2 hn2
                clear hgd
                go_wp2
                go_roundg (r + 1 - (i + 1))
                case measure => exact HM.out
                case rel => exact ⟨i + 1, A2, n2, c2, rfl, by omega, by first | rfl | go_num, rfl, Lib.hid (by have := hn2.out; have := hi64.out; omega), Lib.hid (HM2.out.below hbx.out), Lib.hid (below_next hbi.out hbx.out)⟩
        · obtain rfl : r = i := by omega
          have hside : Hid (R.take r = R) := Lib.hid (List.take_of_length_le (Nat.le_of_eq hr1.out))
          rw [hside.out] at hn2 HM2
          have HSw : Hid (Sw wo wr A2 n2 c2 (Ca.sideOf sd p R)) := Lib.hid ⟨HM2.out, hn2.out.1, hbi.out⟩
          have h64 : n2 ≤ 64 := by have := hn2.out; omega
          have HSo := Lib.hid (sort_calls wo wr A2 n2 c2 _ sd HSw.out h64 Ca.sideOf_buys)
          have HIs := Lib.hid (isort_stab sd (Ca.sideOf sd p R))
          obtain ⟨I, hI⟩ : ∃ I, Hid (isort sd (Ca.sideOf sd p R) = I) := ⟨_, Lib.hid rfl⟩
          rw [hI.out] at HIs HT1
          have HSo2 : Hid (Calls Try.prog 38 #[.slice A2 n2 c2, .func (.func 39) #[] #[]] wr fun e w' => e = .returned (.tuple #[]) ∧ Sw wo w' A2 n2 c2 I) := Lib.hid (HSo.out.mono (by
            rintro e w' ⟨rfl, F, hF, hw⟩
            rw [hF.one (fst_swo sd) HIs.out] at hw
            exact ⟨rfl, hw⟩))
          clear HSo HSw HIs hI HM2 hside
          go_upto_region 16 with (go_at_call 38; (with_reducible refine HSo2.out.mono ?_); rintro e w3 ⟨rfl, hw⟩; have HS3 := Lib.hid hw; clear hw)
          have HD0 : Hid (Duo 3 6 w2 w3 (.slice A n c) n (fcells (outs ++ Ca.fillGo amt (I.take 0))) (.slice A2 n2 c2) n2 (ocells I)) := Lib.hid (by
            have := Duo.of HM1.out hb.out.size HS3.out.all HS3.out.row
            rw [List.take_zero, show Ca.fillGo amt [] = [] from rfl, List.append_nil]; exact this)
          have hb3 : Hid (Below w2.heap.size w2 w3) := Lib.hid (hb.out.trans (HS3.out.all.mono hb.out.size))
          have hIl := Lib.hid HS3.out.len
          have hnl := Lib.hid hn.out.1
          have hnt := Lib.hid hn.out.2
          clear HSo2 HS3 HM1 hn hn2 hbi
          go_loopg [7, 13, 64] (n2 + 1) (fun gk s7 s13 s64 wi => ∃ (j : Nat) (A3 : Option Addr) (n3 c3 : Nat), gk = n2 + 1 - j ∧ j ≤ n2 ∧ s64 = .int .i64 (j : Int) ∧ s13 = .int .i64 (Ca.leftGo amt (I.take j)) ∧ s7 = .slice A3 n3 c3 ∧ Hid ((outs ++ Ca.fillGo amt (I.take j)).length = n3 ∧ n3 ≤ n + j) ∧ Hid (Duo 3 6 w2 wi (.slice A3 n3 c3) n3 (fcells (outs ++ Ca.fillGo amt (I.take j))) (.slice A2 n2 c2) n2 (ocells I)) ∧ Hid (Below w2.heap.size w2 wi))
          case atStart => exact ⟨0, A, n, c, rfl, Nat.zero_le _, rfl, rfl, rfl, Lib.hid ⟨by rw [List.take_zero, show Ca.fillGo amt [] = [] from rfl, List.append_nil]; exact hnl.out, Nat.le_refl _⟩, HD0, hb3⟩
          case round =>
            clear HD0 hb3 HB1
            obtain ⟨j, A3, n3, c3, rfl, hj, rfl, rfl, rfl, hn3, HD, hbj⟩ := hrel
            have j0 : (0 : Int) ≤ (j : Int) := by omega
            by_cases hjl : j < n2
            · have hjI : (j : Int) < (n2 : Int) := by omega
              have hjL : Hid (j < I.length) := Lib.hid (by rw [hIl.out]; exact hjl)
              have hOI := Lib.hid (HD.out.snd.orow hIl.out).2
              obtain ⟨b, o, rfl⟩ : ∃ b o, A2 = some ⟨b, o, none⟩ := by
                obtain ⟨b, o, e, _⟩ := hOI.out.cells hjL.out
                exact ⟨b, o, e⟩
              obtain ⟨c0, c1', c2', c3', c4, c5⟩ := ORow.six hOI.out hjL.out (Below.refl _ _)
              have hfl := Lib.hid (Ca.fillGo_snoc (I.getD j ord0) (I.take j) amt)
              have hll := Lib.hid (Ca.leftGo_snoc (I.getD j ord0) (I.take j) amt)
              rw [← Ca.take_at I hjL.out] at hfl hll
              have hlr := Ca.leftGo_range (lo := -9223372036854775808) (hi := 9223372036854775807) (by decide) (I.take j) amt Hr.out.1 Hr.out.2
              have HM := Lib.hid (show n2 + 1 - (j + 1) < n2 + 1 - j by omega)
              generalize I.getD j ord0 = q at c0 c1' c2' c3' c4 c5 hfl hll
              generalize Ca.leftGo amt (I.take j) = l at hfl hll hlr ⊢
              generalize Ca.fillGo amt (I.take j) = fo at hfl hn3 HD
              obtain ⟨qi, qo, qp, qa, qpl, qb⟩ := q
              simp only at c0 c1' c2' c3' c4 c5 hfl hll
              go_upto_region 18 with (fail)
              have hbx : Hid (Below wr.heap.size wr (wr.alloc (.cells #[.int .i64 qi, .int .i64 qo, .int .i64 qp, .int .i64 qa, .int .i64 qpl, .bool qb] 33))) := Lib.hid ((Below.refl _ _).alloc (Nat.le_refl _) _)
              have BA := Lib.hid (Blk.new wr 33 #[.int .i64 qi, .int .i64 qo, .int .i64 qp, .int .i64 qa, .int .i64 qpl, .bool qb])
              obtain ⟨g1, hg1⟩ : ∃ g1, Hid (wr.heap.size = g1) := ⟨_, Lib.hid rfl⟩
              rw [hg1.out] at BA ⊢
              clear c0 c1' c2' c3' c4 c5
              obtain ⟨wi, hwi⟩ : ∃ wi, wi = wr := ⟨_, rfl⟩
              subst hwi
              generalize World.alloc wi _ = wx at hbx BA ⊢
              obtain ⟨c0, c1', c3'⟩ : wx.cell? ⟨g1, 0, none⟩ = some (.int .i64 qi) ∧ wx.cell? ⟨g1, 1, none⟩ = some (.int .i64 qo) ∧ wx.cell? ⟨g1, 3, none⟩ = some (.int .i64 qa) := ⟨BA.out.cell 0, BA.out.cell 1, BA.out.cell 3⟩
              have HDx := Lib.hid (HD.out.below hbx.out)
              have hbjx := Lib.hid (hbj.out.trans (hbx.out.mono hbj.out.size))
              have HLr := Lib.hid hlr
              have hj64 : j + 1 ≤ 64 := by omega
              clear hlr HD hbj hbx
              by_cases hlq : l ≤ qa
              · rw [Int.min_eq_left hlq] at hfl hll
                go_upto_region 19 with (fail)
                by_cases hpos : 0 < l
                ·
                  rw [if_pos hpos] at hfl hll
                  have hposH := Lib.hid hpos
                  have qs : IntKind.i64.wrap (l - l) = l - l := by rw [IntKind.wrap_i64]; have := HLr.out; omega
                  have hA1 : Hid (n3 + 1 ≤ maxLen) := Lib.hid (by have := hn3.out; have := hnt.out; unfold maxLen; omega)
                  have hA2 : Hid ((n3 + 1) * 24 ≤ 140737488355328) := Lib.hid (by have := hn3.out; have := hnt.out; omega)
                  have hS1 : Hid (∀ wx : World, Src Try.prog 3 25 (.slice (some ⟨wx.heap.size, 0, none⟩) 1 1) 1 (fcell ⟨qi, qo, l⟩) (wx.alloc (.cells (fcell ⟨qi, qo, l⟩).toArray 44))) := Lib.hid fun wx => src_new Try.underlying25 wx _ _ 1 1 rfl (by simp [fcell, Value.oneCell'])
                  go_upto_region 20 with (fail)
                  go_wp2_with (first
                    | (at_builtin; (refine wpList_append_duo rfl (.tmp 74) (.tmp 81) 25 25 rfl 44 j1 (.agg #[.int .i64 0, .int .i64 0, .int .i64 0]) 24 Try.underlying25 HJ1.out HZ0.out HZ1.out HZ2.out rfl (by decide) rfl (HDx.out.alloc _) (hbjx.out.alloc hbjx.out.size _) _ 1 (fcell ⟨qi, qo, l⟩) rfl (hS1.out _) hA1.out hA2.out ?_); intro A4 c4 w4 hd4 hb4; have HD4 := Lib.hid hd4; have HB4 := Lib.hid hb4; clear hd4 hb4))
                  go_roundg (n2 + 1 - (j + 1))
                  case measure => exact HM.out
                  case rel => exact ⟨j + 1, A4, n3 + 1, c4, rfl, by omega, by first | rfl | go_num, by (first | (rw [hll.out]; done) | (rw [hll.out]; simp)), rfl, Lib.hid ⟨by rw [hfl.out, ← List.append_assoc, List.length_append, hn3.out.1]; rfl, by have := hn3.out; omega⟩, Lib.hid (by rw [hfl.out, ← List.append_assoc, fcells_append]; exact HD4.out), HB4⟩
                ·
                  rw [if_neg hpos] at hfl hll
                  rw [List.append_nil] at hfl
                  go_wp2
                  go_roundg (n2 + 1 - (j + 1))
                  case measure => exact HM.out
                  case rel => exact ⟨j + 1, A3, n3, c3, rfl, by omega, by first | rfl | go_num, by rw [hll.out], rfl, Lib.hid ⟨by rw [hfl.out]; exact hn3.out.1, by have := hn3.out; omega⟩, Lib.hid (by rw [hfl.out]; exact HDx.out), hbjx⟩
              · rw [Int.min_eq_right (by omega)] at hfl hll
                go_upto_region 19 with (fail)
                by_cases hpos : 0 < qa
                ·
                  rw [if_pos hpos] at hfl hll
                  have hposH := Lib.hid hpos
                  have qs : IntKind.i64.wrap (l - qa) = l - qa := by rw [IntKind.wrap_i64]; have := HLr.out; omega
                  have hA1 : Hid (n3 + 1 ≤ maxLen) := Lib.hid (by have := hn3.out; have := hnt.out; unfold maxLen; omega)
                  have hA2 : Hid ((n3 + 1) * 24 ≤ 140737488355328) := Lib.hid (by have := hn3.out; have := hnt.out; omega)
                  have hS1 : Hid (∀ wx : World, Src Try.prog 3 25 (.slice (some ⟨wx.heap.size, 0, none⟩) 1 1) 1 (fcell ⟨qi, qo, qa⟩) (wx.alloc (.cells (fcell ⟨qi, qo, qa⟩).toArray 44))) := Lib.hid fun wx => src_new Try.underlying25 wx _ _ 1 1 rfl (by simp [fcell, Value.oneCell'])
                  go_upto_region 20 with (fail)
                  go_wp2_with (first
                    | (at_builtin; (refine wpList_append_duo rfl (.tmp 74) (.tmp 81) 25 25 rfl 44 j1 (.agg #[.int .i64 0, .int .i64 0, .int .i64 0]) 24 Try.underlying25 HJ1.out HZ0.out HZ1.out HZ2.out rfl (by decide) rfl (HDx.out.alloc _) (hbjx.out.alloc hbjx.out.size _) _ 1 (fcell ⟨qi, qo, qa⟩) rfl (hS1.out _) hA1.out hA2.out ?_); intro A4 c4 w4 hd4 hb4; have HD4 := Lib.hid hd4; have HB4 := Lib.hid hb4; clear hd4 hb4))
                  go_roundg (n2 + 1 - (j + 1))
                  case measure => exact HM.out
                  case rel => exact ⟨j + 1, A4, n3 + 1, c4, rfl, by omega, by first | rfl | go_num, by (first | (rw [hll.out]; done) | (rw [hll.out]; simp)), rfl, Lib.hid ⟨by rw [hfl.out, ← List.append_assoc, List.length_append, hn3.out.1]; rfl, by have := hn3.out; omega⟩, Lib.hid (by rw [hfl.out, ← List.append_assoc, fcells_append]; exact HD4.out), HB4⟩
                ·
                  rw [if_neg hpos] at hfl hll
                  rw [List.append_nil] at hfl
                  go_wp2
                  go_roundg (n2 + 1 - (j + 1))
                  case measure => exact HM.out
                  case rel => exact ⟨j + 1, A3, n3, c3, rfl, by omega, by first | rfl | go_num, by rw [hll.out], rfl, Lib.hid ⟨by rw [hfl.out]; exact hn3.out.1, by have := hn3.out; omega⟩, Lib.hid (by rw [hfl.out]; exact HDx.out), hbjx⟩
            · obtain rfl : n2 = j := by omega
              have htk : Hid (I.take n2 = I) := Lib.hid (List.take_of_length_le (Nat.le_of_eq hIl.out))
              rw [htk.out, ← HT1.out] at HD hn3
              have hMf := Lib.hid HD.out.fst
              clear HD
              go_wp2
              go_roundg (3 - (t + 1))
              case measure => exact HMt.out
              case rel => exact ⟨t + 1, A3, n3, c3, rfl, by omega, by first | rfl | go_num, rfl, Lib.hid ⟨hn3.out.1, by have := hn3.out.2; have := hnt.out; omega⟩, hMf, hbj⟩
    · obtain rfl : t = 2 := by omega
      have hfin : Hid (FLeft w T (.returned (.slice A n c)) wr) := Lib.hid (by
        have h1 := HM1.out
        have h2 := hn.out.1
        rw [HE.out] at h1 h2
        subst h2
        exact ⟨A, c, rfl, h1.base (Nat.le_trans HB1.out.size hb2.out.size), (HB1.out.trans (hb2.out.mono HB1.out.size)).trans (hb.out.mono (Nat.le_trans HB1.out.size hb2.out.size))⟩)
      go_wp2
      refine bodyPost_ret (by simp [results, Try.results16, asAddr, go_sem]; rfl) rfl ?_
      exact hfin.out
end Go.Proofs.Ytilbhnloelgpdaa
