/- rotateCmpFunc: two parts of a row of one's own change places. -/
import Derived.Test.YtilbhnloelgpdaaSSwap
namespace Go.Proofs.Ytilbhnloelgpdaa
open Go.RowKit
set_option linter.unusedVariables false
set_option linter.unusedSimpArgs false
theorem swaps_length (F : List Ord) (x y : Nat) : ∀ n, (swaps F x y n).length = F.length
  | 0 => rfl
  | n + 1 => by unfold swaps; rw [List.length_set, List.length_set, swaps_length F x y n]
theorem swaps_get (F : List Ord) (x y : Nat) : ∀ (n : Nat), x + n ≤ y → y + n ≤ F.length → ∀ k, (swaps F x y n)[k]? = if x ≤ k ∧ k < x + n then F[k - x + y]? else if y ≤ k ∧ k < y + n then F[k - y + x]? else F[k]?
  | 0, _, _, k => by
    rw [if_neg (by omega), if_neg (by omega)]; rfl
  | n + 1, h1, h2, k => by
    have ih := swaps_get F x y n (by omega) (by omega)
    have hl := swaps_length F x y n
    have ex : (swaps F x y n).getD (x + n) ord0 = F.getD (x + n) ord0 := by
      rw [List.getD_eq_getElem?_getD, List.getD_eq_getElem?_getD, ih, if_neg (by omega), if_neg (by omega)]
    have ey : (swaps F x y n).getD (y + n) ord0 = F.getD (y + n) ord0 := by
      rw [List.getD_eq_getElem?_getD, List.getD_eq_getElem?_getD, ih, if_neg (by omega), if_neg (by omega)]
    unfold swaps
    rw [ex, ey, List.getElem?_set, List.length_set, List.getElem?_set, hl, ih]
    by_cases e1 : y + n = k
    · subst e1
      rw [if_pos rfl, if_pos (by omega), if_neg (by omega), if_pos (by omega), show y + n - y + x = x + n from by omega, List.getD_eq_getElem?_getD, List.getElem?_eq_getElem (by omega)]; rfl
    · rw [if_neg e1]
      by_cases e2 : x + n = k
      · subst e2
        rw [if_pos rfl, if_pos (by omega), if_pos (by omega), show x + n - x + y = y + n from by omega, List.getD_eq_getElem?_getD, List.getElem?_eq_getElem (by omega)]; rfl
      · rw [if_neg e2]
        (repeat' split) <;> first | rfl | omega
theorem swaps_parts (P X Q Y R : List Ord) (h : Y.length = X.length) : swaps (P ++ (X ++ (Q ++ (Y ++ R)))) P.length (P.length + X.length + Q.length) X.length = P ++ (Y ++ (Q ++ (X ++ R))) := by
  apply List.ext_getElem?
  intro k
  rw [swaps_get _ _ _ _ (by omega) (by simp only [List.length_append]; omega)]
  simp only [List.getElem?_append]
  grind
theorem rot_gt (P X Y R : List Ord) (h : Y.length ≤ X.length) : swaps (P ++ (X ++ (Y ++ R))) P.length (P.length + X.length) Y.length = (P ++ Y) ++ (X.drop Y.length ++ (X.take Y.length ++ R)) := by
  have e := swaps_parts P (X.take Y.length) (X.drop Y.length) Y R (by rw [List.length_take]; omega)
  rw [List.length_take, Nat.min_eq_left h, List.length_drop, show P.length + Y.length + (X.length - Y.length) = P.length + X.length from by omega] at e
  rw [← List.append_assoc (X.take _), List.take_append_drop] at e
  rw [e, List.append_assoc]
theorem rot_lt (P X Y R : List Ord) (h : X.length ≤ Y.length) : swaps (P ++ (X ++ (Y ++ R))) P.length (P.length + Y.length) X.length = P ++ (Y.drop (Y.length - X.length) ++ (Y.take (Y.length - X.length) ++ (X ++ R))) := by
  have e := swaps_parts P X (Y.take (Y.length - X.length)) (Y.drop (Y.length - X.length)) R (by rw [List.length_drop]; omega)
  rw [List.length_take, Nat.min_eq_left (by omega), show P.length + X.length + (Y.length - X.length) = P.length + Y.length from by omega] at e
  rw [← List.append_assoc (Y.take _), List.take_append_drop] at e
  exact e
structure Rot (T P X Y R : List Ord) (k i j : Nat) : Prop where
  p : P.length + i = k
  x : X.length = i
  y : Y.length = j
  i0 : 0 < i
  j0 : 0 < j
  goal : P ++ (Y ++ (X ++ R)) = T
theorem Rot.gt {T P X Y R : List Ord} {k i j : Nat} (h : Rot T P X Y R k i j) (hij : j < i) : Rot T (P ++ Y) (X.drop j) (X.take j) R k (i - j) j := by
  obtain ⟨h1, h2, h3, h4, h5, h6⟩ := h
  refine ⟨by rw [List.length_append]; omega, by rw [List.length_drop]; omega, by rw [List.length_take]; omega, by omega, h5, ?_⟩
  rw [← List.append_assoc (X.take _), List.take_append_drop, List.append_assoc]; exact h6
theorem Rot.lt {T P X Y R : List Ord} {k i j : Nat} (h : Rot T P X Y R k i j) (hij : i < j) : Rot T P (Y.drop (j - i)) (Y.take (j - i)) (X ++ R) k i (j - i) := by
  obtain ⟨h1, h2, h3, h4, h5, h6⟩ := h
  refine ⟨h1, by rw [List.length_drop]; omega, by rw [List.length_take]; omega, h4, by omega, ?_⟩
  rw [← List.append_assoc (Y.take _), List.take_append_drop]; exact h6
set_option maxHeartbeats 4000000 in
theorem rotate_calls (w0 w : World) (A : Option Addr) (m c : Nat) (P X Y R : List Ord) (h : Sw w0 w A m c (P ++ (X ++ (Y ++ R)))) (hm : m ≤ 64) (a k b : Nat) (ha : P.length = a) (hk : a + X.length = k) (hb : k + Y.length = b) (hX : 0 < X.length) (hY : 0 < Y.length) (fv : Value) :
    Calls Try.prog 74 #[.slice A m c, .int .i64 (a : Int), .int .i64 (k : Int), .int .i64 (b : Int), fv] w fun e w' => e = .returned (.tuple #[]) ∧ Sw w0 w' A m c (P ++ (Y ++ (X ++ R))) := by
  have hlen : P.length + (X.length + (Y.length + R.length)) = m := by have := h.len; simpa using this
  have HR : Hid (Rot (P ++ (Y ++ (X ++ R))) P X Y R k X.length Y.length) := Lib.hid ⟨by omega, rfl, rfl, hX, hY, rfl⟩
  have H := Lib.hid h
  obtain ⟨T, hT⟩ : ∃ T, Hid (P ++ (Y ++ (X ++ R)) = T) := ⟨_, Lib.hid rfl⟩
  rw [hT.out] at HR ⊢
  obtain ⟨x, hx⟩ : ∃ x, Hid (X.length = x) := ⟨_, Lib.hid rfl⟩
  obtain ⟨y, hy⟩ : ∃ y, Hid (Y.length = y) := ⟨_, Lib.hid rfl⟩
  rw [hx.out, hy.out] at HR
  rw [hx.out] at hk hlen hX
  rw [hy.out] at hb hlen hY
  rw [ha] at hlen
  have q1 : IntKind.i64.wrap ((k : Int) - (a : Int)) = (x : Int) := by rw [IntKind.wrap_i64]; omega
  have q2 : IntKind.i64.wrap ((b : Int) - (k : Int)) = (y : Int) := by rw [IntKind.wrap_i64]; omega
  clear h
  go_enter Try.func74, Try.ntmps74
  go_upto_region 2 with (fail)
  go_loopg [10, 11] (x + y) (fun gk s10 s11 wr => ∃ (i j : Nat) (P1 X1 Y1 R1 : List Ord), gk = i + j ∧ s10 = .int .i64 (i : Int) ∧ s11 = .int .i64 (j : Int) ∧ Hid (Rot T P1 X1 Y1 R1 k i j) ∧ Hid (Sw w0 wr A m c (P1 ++ (X1 ++ (Y1 ++ R1)))))
  case atStart => exact ⟨x, y, P, X, Y, R, rfl, rfl, rfl, HR, H⟩
  case round =>
    obtain ⟨i, j, P1, X1, Y1, R1, rfl, rfl, rfl, HI, HW⟩ := hrel
    obtain ⟨p, hp⟩ : ∃ p, Hid (P1.length = p) := ⟨_, Lib.hid rfl⟩
    have hl1 : p + (i + (j + R1.length)) = m := by have := HW.out.len; have h2 := HI.out.x; have h3 := HI.out.y; have h4 := hp.out; simp only [List.length_append] at this; omega
    have hpk : p + i = k := by have := HI.out.p; have h4 := hp.out; omega
    have i0 := HI.out.i0
    have j0 := HI.out.j0
    have q3 : IntKind.i64.wrap ((k : Int) - (i : Int)) = (p : Int) := by rw [IntKind.wrap_i64]; omega
    rcases Nat.lt_trichotomy j i with hij | hij | hij
    · have hne : ((i : Int) != (j : Int)) = true := by simp; omega
      have hI : (j : Int) < (i : Int) := by omega
      have q4 : IntKind.i64.wrap ((i : Int) - (j : Int)) = ((i - j : Nat) : Int) := by rw [IntKind.wrap_i64]; omega
      have HC := Lib.hid (swapr_calls w0 wr A m c _ HW.out hm p k j (by omega) (by omega) fv)
      have HE := Lib.hid (rot_gt P1 X1 Y1 R1 (by rw [HI.out.x, HI.out.y]; omega))
      rw [HI.out.y, hp.out, HI.out.x, hpk] at HE
      rw [HE.out] at HC
      have HN := Lib.hid (HI.out.gt hij)
      have HM := Lib.hid (show i - j + j < i + j by omega)
      generalize i - j = i' at q4 HN HM
      clear HE HI HW
      go_wp2_with (go_at_call 75; (with_reducible refine HC.out.mono ?_); rintro e w1 ⟨rfl, hw⟩; have HW := Lib.hid hw; clear hw)
      go_roundg (i' + j)
      case measure => exact HM.out
      case rel => exact ⟨i', j, _, _, _, _, rfl, by go_num, rfl, HN, HW⟩
    · subst hij
      have hne : ((j : Int) != (j : Int)) = false := by simp
      have HC := Lib.hid (swapr_calls w0 wr A m c _ HW.out hm p k j (by omega) (by omega) fv)
      have HE := Lib.hid (rot_gt P1 X1 Y1 R1 (by rw [HI.out.x, HI.out.y]; omega))
      rw [HI.out.y, hp.out, HI.out.x, hpk] at HE
      rw [HE.out, List.drop_of_length_le (by rw [HI.out.x]; omega), List.take_of_length_le (by rw [HI.out.x]; omega), List.nil_append, List.append_assoc, HI.out.goal] at HC
      clear HE HI HW
      go_wp2_with (go_at_call 75; (with_reducible refine HC.out.mono ?_); rintro e w1 ⟨rfl, hw⟩; have HW := Lib.hid hw; clear hw)
      go_end0
      exact ⟨rfl, HW.out⟩
    · have hne : ((i : Int) != (j : Int)) = true := by simp; omega
      have hI : ¬ (j : Int) < (i : Int) := by omega
      obtain ⟨y1, hy1⟩ : ∃ y1, Hid (p + j = y1) := ⟨_, Lib.hid rfl⟩
      have h1 := hy1.out
      have q5 : IntKind.i64.wrap ((k : Int) + (j : Int)) = ((k + j : Nat) : Int) := by rw [IntKind.wrap_i64]; omega
      have q6 : IntKind.i64.wrap (((k + j : Nat) : Int) - (i : Int)) = (y1 : Int) := by rw [IntKind.wrap_i64]; omega
      have q4 : IntKind.i64.wrap ((j : Int) - (i : Int)) = ((j - i : Nat) : Int) := by rw [IntKind.wrap_i64]; omega
      have HC := Lib.hid (swapr_calls w0 wr A m c _ HW.out hm p y1 i (by omega) (by omega) fv)
      have HE := Lib.hid (rot_lt P1 X1 Y1 R1 (by rw [HI.out.x, HI.out.y]; omega))
      rw [HI.out.y, hp.out, HI.out.x, h1] at HE
      rw [HE.out] at HC
      have HN := Lib.hid (HI.out.lt hij)
      have HM := Lib.hid (show i + (j - i) < i + j by omega)
      generalize j - i = j' at q4 HN HM HC
      generalize k + j = kj at q5 q6
      clear HE HI HW h1
      go_wp2_with (go_at_call 75; (with_reducible refine HC.out.mono ?_); rintro e w1 ⟨rfl, hw⟩; have HW := Lib.hid hw; clear hw)
      go_roundg (i + j')
      case measure => exact HM.out
      case rel => exact ⟨i, j', _, _, _, _, rfl, rfl, by go_num, HN, HW⟩
end Go.Proofs.Ytilbhnloelgpdaa
