/- The walk of QuoteWhole: both Wholes are Fl.wh: the nearest whole number, ties to even. -/
import Derived.Test.YtpdkjjhcpaoioaaQuoteBetweenW
namespace Go.Proofs.Ytpdkjjhcpaoioaa
open Go.RowKit
namespace Fl
def wh (x : Nat) : Int × Int :=
  if Nan x then (0, 50) else if rg x = 9218868437227405312 then (0, 51)
  else if 2 ^ (53 + W) < un (rg x) then (0, 54) else (sg (ng x) (rnd (un (rg x)) (2 ^ W)), 0)
theorem un_pw53 : un 4845873199050653696 = 2 ^ (53 + W) := by
  have hW := W_eq
  have e : (4845873199050653696 : Nat) = (W + 1) * 4503599627370496 + 4503599627370496 := by rw [hW]
  have e2 : (4503599627370496 : Nat) * 2 ^ (W + 1) = 2 ^ 52 * 2 ^ (W + 1) := rfl
  rw [e, un_high (by omega) (by omega), e2, ← Nat.pow_add]
  congr 1; omega
theorem un_half : un 4602678819172646912 = 2 ^ (W - 1) := by
  have hW := W_eq
  have e : (4602678819172646912 : Nat) = (W - 53) * 4503599627370496 + 4503599627370496 := by rw [hW]
  have e2 : (4503599627370496 : Nat) * 2 ^ (W - 53) = 2 ^ 52 * 2 ^ (W - 53) := rfl
  rw [e, un_high (by omega) (by omega), e2, ← Nat.pow_add]
  congr 1; omega
theorem sv_pos {c : Nat} (h : c < 9223372036854775808) : sv c = (un c : Int) := by
  unfold sv
  rw [rg_pos h]
  have : ng c = false := by unfold ng; rw [Nat.div_eq_of_lt h]; rfl
  rw [this]; rfl
theorem sv_neg {c : Nat} (h1 : 9223372036854775808 ≤ c) (h2 : c < 18446744073709551616) : sv c = -(un (c - 9223372036854775808) : Int) := by
  unfold sv sg
  rw [if_pos ((ng_iff h2).2 h1)]
  have : rg c = c - 9223372036854775808 := by unfold rg; omega
  rw [this]
theorem sv_nr {T : Int} (z : Bool) (h : Rep T.natAbs) (hb : T.natAbs < 2 ^ (52 + X)) : Fin (nr T z) ∧ sv (nr T z) = T := by
  have hr := ru_lt_inf h hb
  have hc : cap (ru T.natAbs) = ru T.natAbs := by unfold cap; omega
  have hlt : ru T.natAbs < 9223372036854775808 := by omega
  unfold nr
  rw [hc]
  refine ⟨by unfold Fin; rw [rg_word _ hlt]; exact hr, ?_⟩
  unfold sv sg
  rw [ng_word _ hlt, rg_word _ hlt, un_ru_rep h]
  by_cases hT : T = 0
  · subst hT; rw [if_pos rfl]; cases z <;> rfl
  · rw [if_neg hT]
    by_cases hn : T < 0
    · rw [decide_eq_true hn, if_pos rfl]; omega
    · rw [decide_eq_false hn, if_neg (by decide)]; omega
theorem order_gt_sv {x y : Nat} (hx : Fin x) (hy : Fin y) : (FloatKind.f64.format.order x y == some .gt) = decide (sv y < sv x) := by
  rw [order_gt, decide_eq_decide, sv_lt]
  exact ⟨fun h => h.2.2, fun h => ⟨not_nan_of_fin hx, not_nan_of_fin hy, h⟩⟩
theorem order_lt_sv {x y : Nat} (hx : Fin x) (hy : Fin y) : (FloatKind.f64.format.order x y == some .lt) = decide (sv x < sv y) := by
  rw [order_lt, decide_eq_decide, sv_lt]
  exact ⟨fun h => h.2.2, fun h => ⟨not_nan_of_fin hx, not_nan_of_fin hy, h⟩⟩
theorem order_eq_sv {x y : Nat} (hx : Fin x) (hy : Fin y) : (FloatKind.f64.format.order x y == some .eq) = decide (sv x = sv y) := by
  rw [order_eqb, decide_eq_decide, sv_eq]
  exact ⟨fun h => h.2.2, fun h => ⟨not_nan_of_fin hx, not_nan_of_fin hy, h⟩⟩
theorem rep_mod {U : Nat} (h : Rep U) (k : Nat) : Rep (U % 2 ^ k) := by
  obtain ⟨q, d, rfl, hq⟩ := h
  by_cases hd : k ≤ d
  · have : q * 2 ^ d % 2 ^ k = 0 := by
      rw [show d = d - k + k from by omega, Nat.pow_add, ← Nat.mul_assoc]; exact Nat.mul_mod_left _ _
    rw [this]; exact ⟨0, 0, by omega, by omega⟩
  · refine ⟨q % 2 ^ (k - d), d, ?_, Nat.lt_of_le_of_lt (Nat.mod_le _ _) hq⟩
    rw [show k = k - d + d from by omega, Nat.pow_add, Nat.mul_mod_mul_right]
    congr 3; omega
theorem whole53 {U : Nat} (hb : U ≤ 2 ^ (53 + W)) : U / 2 ^ W ≤ 9007199254740992 := by
  have : U / 2 ^ W ≤ 2 ^ (53 + W) / 2 ^ W := Nat.div_le_div_right hb
  rwa [Nat.pow_add, Nat.mul_div_cancel _ (Nat.two_pow_pos _)] at this
theorem rnd53 {U : Nat} (hb : U ≤ 2 ^ (53 + W)) : rnd U (2 ^ W) ≤ 9007199254740992 := by
  have h := rnd_mono (g := 2 ^ W) hb
  rw [Nat.pow_add, rnd_dvd _ _ (Nat.two_pow_pos _)] at h
  exact h
theorem big53 {n : Nat} (h : n ≤ 9007199254740992) : n * 2 ^ W < 2 ^ (52 + X) := by
  have h1 : n * 2 ^ W ≤ 2 ^ 53 * 2 ^ W := Nat.mul_le_mul_right _ (by omega)
  rw [← Nat.pow_add] at h1
  exact Nat.lt_of_le_of_lt h1 (pow_lt_bound (by omega))
theorem sg_natAbs (s : Bool) (n : Nat) : (sg s n).natAbs = n := by unfold sg; split <;> simp
theorem sg_bound {s : Bool} {n : Nat} (h : n ≤ 9007199254740992) : -9007199254740992 ≤ sg s n ∧ sg s n ≤ 9007199254740992 := by
  unfold sg; split <;> omega
theorem i64_in {z : Int} (h : -9007199254740992 ≤ z ∧ z ≤ 9007199254740992) : IntKind.i64.min ≤ z ∧ z ≤ IntKind.i64.max := by
  have hmin : IntKind.i64.min = -9223372036854775808 := by decide
  have hmax : IntKind.i64.max = 9223372036854775807 := by decide
  rw [hmin, hmax]; omega
/-- The whole number of a float whose units over 2^W are n. -/
theorem int_of {y : Nat} {s : Bool} {n : Nat} (hf : Fin y) (hn : ng y = s) (hu : un (rg y) / 2 ^ W = n) (hb : n ≤ 9007199254740992) :
    floatToIntVal .f64 y .i64 = some (sg s n) := by
  have h := toInt_fin hf
  rw [hn, hu] at h
  have h' : (FloatKind.f64.decode y).toInt .zero = some (sg s n) := h
  unfold floatToIntVal
  rw [h']
  simp only
  rw [if_pos (i64_in (sg_bound hb))]
theorem even_int {x : Nat} (hx : Fin x) (hb : un (rg x) ≤ 2 ^ (53 + W)) :
    floatToIntVal .f64 (Ieee.double.write ((Ieee.double.read x).integral .even)) .i64 = some (sg (ng x) (rnd (un (rg x)) (2 ^ W))) := by
  have hr := rnd53 hb
  rw [integral_even hx, write_whole]
  obtain ⟨hf, hn, hu, _⟩ := near_rep (s := ng x) (rep_le hr W) (big53 hr)
  exact int_of hf hn (by rw [hu, Nat.mul_div_cancel _ (Nat.two_pow_pos _)]) hr
theorem trunc_int {x : Nat} (hx : Fin x) (hb : un (rg x) ≤ 2 ^ (53 + W)) : floatToIntVal .f64 x .i64 = some (sg (ng x) (un (rg x) / 2 ^ W)) :=
  int_of hx rfl rfl (whole53 hb)
/-- What is left over behind the point: exact. -/
theorem rest_eq {x : Nat} (hx : Fin x) (hb : un (rg x) ≤ 2 ^ (53 + W)) :
    ∃ y, floatBits .sub .f64 x (floatOfInt .f64 (sg (ng x) (un (rg x) / 2 ^ W))) = some y ∧ Fin y ∧ sv y = sg (ng x) (un (rg x) % 2 ^ W) := by
  have hr := whole53 hb
  have ho := ofInt_eq (sg (ng x) (un (rg x) / 2 ^ W))
  have ea : (sg (ng x) (un (rg x) / 2 ^ W)).natAbs = un (rg x) / 2 ^ W := sg_natAbs _ _
  rw [ea] at ho
  obtain ⟨hf, hn, hu, _⟩ := near_rep (s := decide (sg (ng x) (un (rg x) / 2 ^ W) < 0)) (rep_le hr W) (big53 hr)
  rw [← ho] at hf hn hu
  have hs := sub_fin hx hf
  have e1 : sv (Go.FloatKind.nearest .f64 (sg (ng x) (un (rg x) / 2 ^ W))) = sg (ng x) (un (rg x) / 2 ^ W * 2 ^ W) := by
    rw [sv_of hn hu]
    generalize un (rg x) / 2 ^ W = q
    unfold sg
    by_cases hq : q = 0
    · subst hq; simp
    · by_cases hg : ng x = true
      · rw [if_pos hg, if_pos hg, decide_eq_true (by omega), if_pos rfl]
      · rw [if_neg hg, if_neg hg, decide_eq_false (by omega), if_neg (by decide)]
  have e2 : sv x - sv (Go.FloatKind.nearest .f64 (sg (ng x) (un (rg x) / 2 ^ W))) = sg (ng x) (un (rg x) % 2 ^ W) := by
    rw [e1]; unfold sv
    have h := Nat.div_add_mod (un (rg x)) (2 ^ W)
    rw [Nat.mul_comm] at h
    generalize un (rg x) / 2 ^ W * 2 ^ W = a at *
    generalize un (rg x) % 2 ^ W = b at *
    unfold sg; split <;> omega
  rw [e2] at hs
  have e3 : (sg (ng x) (un (rg x) % 2 ^ W)).natAbs = un (rg x) % 2 ^ W := sg_natAbs _ _
  have hlt : un (rg x) % 2 ^ W < 2 ^ (52 + X) := Nat.lt_of_lt_of_le (Nat.mod_lt _ (Nat.two_pow_pos _)) (Nat.pow_le_pow_right (by omega) (by have := W_eq; have := X_eq; omega))
  obtain ⟨hf2, hv2⟩ := sv_nr (T := sg (ng x) (un (rg x) % 2 ^ W)) (ng x && !ng (Go.FloatKind.nearest .f64 (sg (ng x) (un (rg x) / 2 ^ W)))) (by rw [e3]; exact rep_mod (rep_un _) _) (by rw [e3]; exact hlt)
  exact ⟨_, hs, hf2, hv2⟩
theorem fin_lit {c : Nat} (h : c < 9218868437227405312) : Fin c := by unfold Fin; rw [rg_pos (by omega)]; exact h
theorem two_half : 2 ^ W = 2 * 2 ^ (W - 1) := by have := W_eq; rw [← Nat.pow_succ']; congr 1; omega
end Fl

set_option maxHeartbeats 1000000 in
theorem whole_calls (x : Nat) (w : World) (a : Int) (f : Int) (hx : x < 18446744073709551616) (hv : Hid (Fl.wh x = (a, f))) :
    Calls Try.prog 34 #[.float .f64 x] w fun e w' => e = .returned (.tuple #[.int .i64 a, .int .i64 f]) ∧ w = w' := by
  have e := hv.out
  unfold Fl.wh at e
  clear hv
  split at e
  · rename_i h1
    injection e with e1 e2
    subst e1; subst e2
    have hne : (FloatKind.f64.format.order x x != some .eq) = true := by rw [Fl.neq_self]; exact decide_eq_true h1
    clear h1
    go_enter Try.func34, Try.ntmps34
    go_wp2
    go_ret2
    exact ⟨rfl, rfl⟩
  rename_i h1
  have hne : (FloatKind.f64.format.order x x != some .eq) = false := by rw [Fl.neq_self]; exact decide_eq_false h1
  split at e
  · rename_i h2
    injection e with e1 e2
    subst e1; subst e2
    have HI := Lib.hid (decide_eq_true h2)
    clear h1 h2
    go_enter Try.func34, Try.ntmps34
    go_wp2_with (go_at_call 36; refine (isInf_calls _ _ _ hx HI.out).mono ?_; rintro e w' ⟨rfl, rfl⟩)
    go_ret2
    exact ⟨rfl, rfl⟩
  rename_i h2
  have HI := Lib.hid (decide_eq_false h2)
  have hf := Fl.fin_of h1 h2
  have hfa : Fl.Fin (Fl.rg x) := by unfold Fl.Fin at hf ⊢; rw [Fl.rg_rg]; exact hf
  have hgt := Fl.order_gt_sv hfa (Fl.fin_lit (c := 4845873199050653696) (by omega))
  rw [Fl.sv_pos (c := 4845873199050653696) (by omega), Fl.sv_pos (Fl.rg_lt x), Fl.un_pw53] at hgt
  split at e
  · rename_i h3
    injection e with e1 e2
    subst e1; subst e2
    rw [decide_eq_true (by omega)] at hgt
    clear h1 h2 h3 hf hfa
    go_enter Try.func34, Try.ntmps34
    go_wp2_with (first
      | (go_at_call 36; refine (isInf_calls _ _ _ hx HI.out).mono ?_; rintro e w' ⟨rfl, rfl⟩)
      | (go_at_call 44; refine (abs_calls _ _ hx).mono ?_; rintro e w' ⟨rfl, rfl⟩))
    go_ret2
    exact ⟨rfl, rfl⟩
  · rename_i h3
    rw [decide_eq_false (by omega)] at hgt
    injection e with e1 e2
    subst e2
    have hc := Fl.even_int hf (Nat.le_of_not_lt h3)
    rw [e1] at hc
    have hcr := fun w => conv_run hc w
    have her := fun w => even_run h1 w
    clear h1 h2 h3 hf hfa e1 hc
    generalize Ieee.double.write ((Ieee.double.read x).integral .even) = y at *
    go_enter Try.func34, Try.ntmps34
    go_wp2_with (first
      | (go_at_call 36; refine (isInf_calls _ _ _ hx HI.out).mono ?_; rintro e w' ⟨rfl, rfl⟩)
      | (go_at_call 44; refine (abs_calls _ _ hx).mono ?_; rintro e w' ⟨rfl, rfl⟩))
    go_ret2
    exact ⟨rfl, rfl⟩

set_option maxHeartbeats 2000000 in
theorem refWhole_calls (x : Nat) (w : World) (a : Int) (f : Int) (_hx : x < 18446744073709551616) (hv : Hid (Fl.wh x = (a, f))) :
    Calls Try.prog 35 #[.float .f64 x] w fun e w' => e = .returned (.tuple #[.int .i64 a, .int .i64 f]) ∧ ∃ n, w' = w.drewN n := by
  have e := hv.out
  unfold Fl.wh at e
  clear hv
  split at e
  · rename_i h1
    injection e with e1 e2
    subst e1; subst e2
    have HN := Lib.hid (decide_eq_true h1)
    clear h1
    go_enter Try.func35, Try.ntmps35
    go_wp2_with (go_at_call 21; refine (none_calls _ _ _ HN.out).mono ?_; rintro e w' ⟨rfl, rfl⟩)
    go_ret2
    exact ⟨rfl, 0, rfl⟩
  rename_i h1
  have HN := Lib.hid (decide_eq_false h1)
  split at e
  · rename_i h2
    injection e with e1 e2
    subst e1; subst e2
    have HI := Lib.hid (decide_eq_true h2)
    clear h1 h2
    go_enter Try.func35, Try.ntmps35
    go_wp2_with (first
      | (go_at_call 21; refine (none_calls _ _ _ HN.out).mono ?_; rintro e w' ⟨rfl, rfl⟩)
      | (go_at_call 38; refine (endless_calls _ _ _ HI.out).mono ?_; rintro e w' ⟨rfl, n, rfl⟩))
    go_ret2
    exact ⟨rfl, _, rfl⟩
  rename_i h2
  have HI := Lib.hid (decide_eq_false h2)
  have hf := Fl.fin_of h1 h2
  have fneg : Fl.Fin 14069245235905429504 := by decide
  have hgt := Fl.order_gt_sv hf (Fl.fin_lit (c := 4845873199050653696) (by omega))
  have hlt := Fl.order_lt_sv hf fneg
  rw [Fl.sv_pos (c := 4845873199050653696) (by omega), Fl.un_pw53] at hgt
  rw [Fl.sv_neg (c := 14069245235905429504) (by omega) (by omega), show 14069245235905429504 - 9223372036854775808 = 4845873199050653696 from by omega, Fl.un_pw53] at hlt
  have hsv : Fl.sv x = Fl.sg (Fl.ng x) (Fl.un (Fl.rg x)) := rfl
  rw [hsv] at hgt hlt
  have hp53 : 0 < 2 ^ (53 + Fl.W) := Nat.two_pow_pos _
  split at e
  · rename_i h3
    injection e with e1 e2
    subst e1; subst e2
    cases hn : Fl.ng x
    · rw [hn] at hgt
      rw [decide_eq_true (by unfold Fl.sg; rw [if_neg (by decide)]; omega)] at hgt
      clear h1 h2 h3 hf hlt hsv hn fneg
      go_enter Try.func35, Try.ntmps35
      go_wp2_with (first
        | (go_at_call 21; refine (none_calls _ _ _ HN.out).mono ?_; rintro e w' ⟨rfl, rfl⟩)
        | (go_at_call 38; refine (endless_calls _ _ _ HI.out).mono ?_; rintro e w' ⟨rfl, n, rfl⟩))
      go_ret2
      exact ⟨rfl, _, rfl⟩
    · rw [hn] at hgt hlt
      rw [decide_eq_false (by unfold Fl.sg; rw [if_pos rfl]; omega)] at hgt
      rw [decide_eq_true (by unfold Fl.sg; rw [if_pos rfl]; omega)] at hlt
      clear h1 h2 h3 hf hsv hn fneg
      go_enter Try.func35, Try.ntmps35
      go_wp2_with (first
        | (go_at_call 21; refine (none_calls _ _ _ HN.out).mono ?_; rintro e w' ⟨rfl, rfl⟩)
        | (go_at_call 38; refine (endless_calls _ _ _ HI.out).mono ?_; rintro e w' ⟨rfl, n, rfl⟩))
      go_ret2
      exact ⟨rfl, _, rfl⟩
  · rename_i h3
    have hb := Nat.le_of_not_lt h3
    rw [decide_eq_false (by unfold Fl.sg; split <;> omega)] at hgt hlt
    injection e with e1 e2
    subst e2
    have hcr := fun w => conv_run (Fl.trunc_int hf hb) w
    obtain ⟨y, hy, fy, sy⟩ := Fl.rest_eq hf hb
    have hsr := fun w => run_float_arith (P := Try.prog) w .sub 22 .f64 _ _ _ hy
    have fh : Fl.Fin 4602678819172646912 := by decide
    have fnh : Fl.Fin 13826050856027422720 := by decide
    have t1 := Fl.order_gt_sv fy fh
    have t2 := Fl.order_eq_sv fy fh
    have t3 := Fl.order_lt_sv fy fnh
    have t4 := Fl.order_eq_sv fy fnh
    rw [Fl.sv_pos (c := 4602678819172646912) (by omega), Fl.un_half, sy] at t1 t2
    rw [Fl.sv_neg (c := 13826050856027422720) (by omega) (by omega), show 13826050856027422720 - 9223372036854775808 = 4602678819172646912 from by omega, Fl.un_half, sy] at t3 t4
    have hq := Fl.whole53 hb
    have hth := Fl.two_half
    have hrl : Fl.un (Fl.rg x) % 2 ^ Fl.W < 2 ^ Fl.W := Nat.mod_lt _ (Nat.two_pow_pos _)
    unfold Fl.rnd at e1
    clear hf fneg hsv h3 h1 h2 hb hy fy sy fh fnh
    generalize Fl.un (Fl.rg x) / 2 ^ Fl.W = q at *
    generalize Fl.un (Fl.rg x) % 2 ^ Fl.W = r at *
    rw [hth] at e1 hrl
    clear hth
    have hp : 0 < 2 ^ (Fl.W - 1) := Nat.two_pow_pos _
    generalize 2 ^ (Fl.W - 1) = half at *
    obtain ⟨o, ho⟩ : ∃ o, ((Fl.sg (Fl.ng x) q).tmod 2 != 0) = o := ⟨_, rfl⟩
    have ho2 : o = decide (q % 2 = 1) := by
      rw [← ho, Bool.eq_iff_iff, bne_iff_ne, decide_eq_true_eq]
      unfold Fl.sg; split
      · rw [Int.neg_tmod, Int.tmod_eq_emod_of_nonneg (by omega)]; omega
      · rw [Int.tmod_eq_emod_of_nonneg (by omega)]; omega
    have ho3 : ((q : Int) % 2 != 0) = o := by rw [ho2, Bool.eq_iff_iff, bne_iff_ne, decide_eq_true_eq]; omega
    generalize Fl.ng x = s at *
    have hz1 := Fl.sg_bound (s := s) hq
    cases s
    · simp only [Fl.sg, Bool.false_eq_true, if_false] at *
      rw [decide_eq_false (by omega)] at t3 t4
      by_cases c1 : half < r
      · rw [decide_eq_true (by omega)] at t1
        rw [if_pos (.inl (by omega))] at e1
        have E : Hid ((q : Int) + 1 = a) := Lib.hid (by omega)
        clear t2 ho ho2 ho3 c1 hrl hp e1 hp53
        go_enter Try.func35, Try.ntmps35
        go_wp2_with (first
          | (go_at_call 21; refine (none_calls _ _ _ HN.out).mono ?_; rintro e w' ⟨rfl, rfl⟩)
          | (go_at_call 38; refine (endless_calls _ _ _ HI.out).mono ?_; rintro e w' ⟨rfl, n, rfl⟩))
        go_ret2
        exact ⟨by rw [← E.out]; rfl, _, rfl⟩
      · rw [decide_eq_false (by omega)] at t1
        by_cases c2 : r = half
        · rw [decide_eq_true (by omega)] at t2
          by_cases c3 : q % 2 = 1
          · rw [decide_eq_true c3] at ho2
            subst ho2
            rw [if_pos (.inr ⟨by omega, c3⟩)] at e1
            have E : Hid ((q : Int) + 1 = a) := Lib.hid (by omega)
            clear c1 c2 c3 hrl hp e1 hp53
            go_enter Try.func35, Try.ntmps35
            go_wp2_with (first
              | (go_at_call 21; refine (none_calls _ _ _ HN.out).mono ?_; rintro e w' ⟨rfl, rfl⟩)
              | (go_at_call 38; refine (endless_calls _ _ _ HI.out).mono ?_; rintro e w' ⟨rfl, n, rfl⟩))
            go_ret2
            exact ⟨by rw [← E.out]; rfl, _, rfl⟩
          · rw [decide_eq_false c3] at ho2
            subst ho2
            rw [if_neg (by omega)] at e1
            have E : Hid ((q : Int) = a) := Lib.hid (by omega)
            clear c1 c2 c3 hrl hp e1 hp53
            go_enter Try.func35, Try.ntmps35
            go_wp2_with (first
              | (go_at_call 21; refine (none_calls _ _ _ HN.out).mono ?_; rintro e w' ⟨rfl, rfl⟩)
              | (go_at_call 38; refine (endless_calls _ _ _ HI.out).mono ?_; rintro e w' ⟨rfl, n, rfl⟩))
            go_ret2
            exact ⟨by rw [← E.out]; rfl, _, rfl⟩
        · rw [decide_eq_false (by omega)] at t2
          rw [if_neg (by omega)] at e1
          have E : Hid ((q : Int) = a) := Lib.hid (by omega)
          clear c1 c2 ho ho2 ho3 hrl hp e1 hp53
          go_enter Try.func35, Try.ntmps35
          go_wp2_with (first
            | (go_at_call 21; refine (none_calls _ _ _ HN.out).mono ?_; rintro e w' ⟨rfl, rfl⟩)
            | (go_at_call 38; refine (endless_calls _ _ _ HI.out).mono ?_; rintro e w' ⟨rfl, n, rfl⟩))
          go_ret2
          exact ⟨by rw [← E.out]; rfl, _, rfl⟩
    · simp only [Fl.sg, if_true] at *
      rw [decide_eq_false (by omega)] at t1 t2
      by_cases c1 : half < r
      · rw [decide_eq_true (by omega)] at t3
        rw [if_pos (.inl (by omega))] at e1
        have E : Hid (-(q : Int) - 1 = a) := Lib.hid (by omega)
        clear t4 ho ho2 ho3 c1 hrl hp e1 hp53
        go_enter Try.func35, Try.ntmps35
        go_wp2_with (first
          | (go_at_call 21; refine (none_calls _ _ _ HN.out).mono ?_; rintro e w' ⟨rfl, rfl⟩)
          | (go_at_call 38; refine (endless_calls _ _ _ HI.out).mono ?_; rintro e w' ⟨rfl, n, rfl⟩))
        go_ret2
        exact ⟨by rw [← E.out]; rfl, _, rfl⟩
      · rw [decide_eq_false (by omega)] at t3
        by_cases c2 : r = half
        · rw [decide_eq_true (by omega)] at t4
          by_cases c3 : q % 2 = 1
          · rw [decide_eq_true c3] at ho2
            subst ho2
            rw [if_pos (.inr ⟨by omega, c3⟩)] at e1
            have E : Hid (-(q : Int) - 1 = a) := Lib.hid (by omega)
            clear c1 c2 c3 hrl hp e1 hp53
            go_enter Try.func35, Try.ntmps35
            go_wp2_with (first
              | (go_at_call 21; refine (none_calls _ _ _ HN.out).mono ?_; rintro e w' ⟨rfl, rfl⟩)
              | (go_at_call 38; refine (endless_calls _ _ _ HI.out).mono ?_; rintro e w' ⟨rfl, n, rfl⟩))
            go_ret2
            exact ⟨by rw [← E.out]; rfl, _, rfl⟩
          · rw [decide_eq_false c3] at ho2
            subst ho2
            rw [if_neg (by omega)] at e1
            have E : Hid (-(q : Int) = a) := Lib.hid (by omega)
            clear c1 c2 c3 hrl hp e1 hp53
            go_enter Try.func35, Try.ntmps35
            go_wp2_with (first
              | (go_at_call 21; refine (none_calls _ _ _ HN.out).mono ?_; rintro e w' ⟨rfl, rfl⟩)
              | (go_at_call 38; refine (endless_calls _ _ _ HI.out).mono ?_; rintro e w' ⟨rfl, n, rfl⟩))
            go_ret2
            exact ⟨by rw [← E.out]; rfl, _, rfl⟩
        · rw [decide_eq_false (by omega)] at t4
          rw [if_neg (by omega)] at e1
          have E : Hid (-(q : Int) = a) := Lib.hid (by omega)
          clear c1 c2 ho ho2 ho3 hrl hp e1 hp53
          go_enter Try.func35, Try.ntmps35
          go_wp2_with (first
            | (go_at_call 21; refine (none_calls _ _ _ HN.out).mono ?_; rintro e w' ⟨rfl, rfl⟩)
            | (go_at_call 38; refine (endless_calls _ _ _ HI.out).mono ?_; rintro e w' ⟨rfl, n, rfl⟩))
          go_ret2
          exact ⟨by rw [← E.out]; rfl, _, rfl⟩

theorem QuoteWhole_walk (x : Nat) (hx : (Lit.float .f64 x).wf = true) (w : World) :
    Calls Try.prog 12 #[.float .f64 x] w fun e w' => e = .returned (.bool true) ∧ Below w.heap.size w w' := by
  replace hx := float_lt hx
  obtain ⟨a, f, HV⟩ : ∃ a f, Hid (Fl.wh x = (a, f)) := ⟨_, _, rfl⟩
  go_enter Try.func12, Try.ntmps12
  go_wp2_with (first
    | (go_at_call 34; (with_reducible refine (whole_calls _ _ _ _ hx HV).mono ?_); rintro e w' ⟨rfl, rfl⟩)
    | (go_at_call 35; (with_reducible refine (refWhole_calls _ _ _ _ hx HV).mono ?_); rintro e w' ⟨rfl, n1, rfl⟩)
    | (go_at_call 15; (with_reducible refine (awake_calls _).mono ?_); rintro e w' ⟨rfl, n4, rfl⟩))
  go_ret
  exact ⟨rfl, below_drewN _ _⟩
end Go.Proofs.Ytpdkjjhcpaoioaa
