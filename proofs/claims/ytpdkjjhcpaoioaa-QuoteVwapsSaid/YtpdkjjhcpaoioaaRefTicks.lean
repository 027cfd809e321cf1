/- The contract of the reference's Ticks: the same answer (Fl.tk). -/
import Derived.Test.YtpdkjjhcpaoioaaTicks
namespace Go.Proofs.Ytpdkjjhcpaoioaa
open Go.RowKit
namespace Fl
theorem near_self {p : Nat} (h : Fin p) (hp : p < 18446744073709551616) : Ieee.double.nearest (ng p) (un (rg p)) (-1074) = p := by
  rw [near_eq, ru_un]
  unfold cap; unfold Fin at h
  rw [Nat.min_eq_left (by omega), word_ng_rg hp]
theorem add_double {s : Bool} {V : Nat} (hV : Rep V) (hb : V < 2 ^ (52 + X)) :
    floatBits .add .f64 (Ieee.double.nearest s V (-1074)) (Ieee.double.nearest s V (-1074)) = some (Ieee.double.nearest s (V * 2) (-1074)) := by
  obtain ⟨hf, hn, hu, _⟩ := near_rep (s := s) hV hb
  have h := add_fin hf hf
  rw [sv_of hn hu, hn] at h
  refine h.trans ?_
  rw [near_eq]; unfold nr
  have e1 : (sg s V + sg s V).natAbs = V * 2 := by unfold sg; cases s <;> simp <;> omega
  rw [e1]
  have e2 : (if sg s V + sg s V = 0 then s && s else decide (sg s V + sg s V < 0)) = s := by
    unfold sg; cases s <;> simp <;> omega
  rw [e2]
theorem whole_ne {s : Bool} {U : Nat} (hU : Rep U) (hs : s = true → U = 0) (hb : U ≤ 2 ^ (40 + W)) :
    (FloatKind.f64.format.order (floatOfInt .f64 ((U / 2 ^ W : Nat) : Int)) (Ieee.double.nearest s U (-1074)) != some .eq) = decide (U % 2 ^ W ≠ 0) := by
  have e : floatOfInt .f64 ((U / 2 ^ W : Nat) : Int) = Ieee.double.nearest false (U / 2 ^ W * 2 ^ W) (-1074) := by
    have h := ofInt_eq ((U / 2 ^ W : Nat) : Int)
    generalize U / 2 ^ W = n at *
    rw [Int.natAbs_natCast, decide_eq_false (by omega)] at h
    exact h
  rw [e, order_ne]; congr 1; apply propext
  obtain ⟨_, hn, hu, _⟩ := near_rep (s := s) hU (Nat.lt_of_le_of_lt hb (pow_lt_bound (by omega)))
  obtain ⟨_, hm, hv, _⟩ := near_rep (s := false) (rep_whole hb) (whole_le hb)
  simp only [near_not_nan, false_or, ne_eq, ← sv_eq]
  rw [sv_of hn hu, sv_of hm hv]
  have h := mod_ne U
  unfold sg; cases s
  · simp only [Bool.false_eq_true, if_false]; omega
  · have h0 := hs rfl
    subst h0
    simp
theorem scaled_lt {U j : Nat} (hU : U ≤ 2 ^ (40 + W)) (hj : j ≤ 20) : U * 2 ^ j < 2 ^ (52 + X) := by
  have h : U * 2 ^ j ≤ 2 ^ (40 + W) * 2 ^ 20 := Nat.mul_le_mul hU (Nat.pow_le_pow_right (by omega) hj)
  rw [← Nat.pow_add] at h
  refine Nat.lt_of_le_of_lt h ?_
  rw [show 40 + W + 20 = 60 + W from by omega]
  exact pow_lt_bound (by omega)
end Fl

theorem none_calls (p : Nat) (w : World) (v : Bool) (hv : decide (Fl.Nan p) = v) :
    Calls Try.prog 21 #[.float .f64 p] w fun e w' => e = .returned (.bool v) ∧ w = w' := by
  have h := (Fl.neq_self p).trans hv
  clear hv
  go_enter Try.func21, Try.ntmps21
  go_wp2
  go_ret
  exact ⟨rfl, rfl⟩

theorem endless_calls (p : Nat) (w : World) (v : Bool) (hv : decide (Fl.rg p = 9218868437227405312) = v) :
    Calls Try.prog 38 #[.float .f64 p] w fun e w' => e = .returned (.bool v) ∧ ∃ n, w' = w.drewN n := by
  by_cases hn : Fl.Nan p
  · have hv' : v = false := by rw [← hv]; unfold Fl.Nan at hn; exact decide_eq_false (by omega)
    subst hv'
    clear hv
    have HN := Lib.hid (decide_eq_true hn)
    clear hn
    go_enter Try.func38, Try.ntmps38
    go_wp2_with (go_at_call 21; refine (none_calls _ _ true HN.out).mono ?_; rintro e w' ⟨rfl, rfl⟩)
    go_ret
    exact ⟨rfl, 0, rfl⟩
  have HN := Lib.hid (decide_eq_false hn)
  by_cases hi : Fl.rg p = 9218868437227405312
  · have hv' : v = true := by rw [← hv]; exact decide_eq_true hi
    subst hv'
    clear hv
    have hs : floatBits .sub .f64 p p = none := by
      show Ieee.double.sub p p = none
      unfold Ieee.Format.sub
      rw [Fl.read_inf hi]; cases Fl.ng p <;> rfl
    rcases float_any .sub (Or.inr (Or.inl rfl)) 22 p p with ⟨r, hr⟩ | ⟨_, g, hgn, hg⟩
    · rw [hs] at hr; cases hr
    · have HG := fun w => Lib.hid (decide_eq_true (hgn w).1)
      clear hs hi hn hgn
      go_enter Try.func38, Try.ntmps38
      go_wp2_with (go_at_call 21; first | (refine (none_calls _ _ false HN.out).mono ?_; rintro e w' ⟨rfl, rfl⟩) | (refine (none_calls _ _ true (HG _).out).mono ?_; rintro e w' ⟨rfl, rfl⟩))
      go_ret
      exact ⟨rfl, 1, rfl⟩
  · have hv' : v = false := by rw [← hv]; exact decide_eq_false hi
    subst hv'
    clear hv
    have hf := Fl.fin_of hn hi
    have hs := Fl.sub_fin hf hf
    rw [Int.sub_self] at hs
    have hx := fun w => run_float_arith (P := Try.prog) w .sub 22 .f64 _ _ _ hs
    have HZ := Lib.hid (decide_eq_false (show ¬ Fl.Nan (Fl.nr 0 (Fl.ng p && !Fl.ng p)) from by
      unfold Fl.nr Fl.Nan; rw [Fl.rg_word _ (Fl.cap_lt _)]; unfold Fl.cap; omega))
    clear hs hf hi hn
    generalize Fl.nr 0 (Fl.ng p && !Fl.ng p) = z at *
    go_enter Try.func38, Try.ntmps38
    go_wp2_with (go_at_call 21; first | (refine (none_calls _ _ false HN.out).mono ?_; rintro e w' ⟨rfl, rfl⟩) | (refine (none_calls _ _ false HZ.out).mono ?_; rintro e w' ⟨rfl, rfl⟩))
    go_ret
    exact ⟨rfl, 0, rfl⟩

def Nr (s : Bool) (U : Nat) : Nat := Ieee.double.nearest s U (-1074)

set_option maxHeartbeats 1000000 in
theorem refTicks_calls (p : Nat) (k : Int) (w : World) (hp : p < 18446744073709551616) :
    Calls Try.prog 14 #[.float .f64 p, .int .i64 k] w fun e w' => e = .returned (.tuple #[.int .i64 (Fl.tk p k).1, .int .i64 (Fl.tk p k).2]) ∧ ∃ n, w' = w.drewN n := by
  by_cases hk : k < 0 ∨ 20 < k
  · have ht : Fl.tk p k = (0, 1) := by unfold Fl.tk; rw [if_pos hk]
    rw [ht]; clear ht
    rcases hk with hk | hk
    · go_enter Try.func14, Try.ntmps14
      go_wp2
      go_ret2
      exact ⟨rfl, 0, rfl⟩
    · have h0 : ¬ k < 0 := by omega
      go_enter Try.func14, Try.ntmps14
      go_wp2
      go_ret2
      exact ⟨rfl, 0, rfl⟩
  have h0 : 0 ≤ k := by omega
  have h1 : k ≤ 20 := by omega
  by_cases hn : Fl.Nan p
  · have ht : Fl.tk p k = (0, 50) := by unfold Fl.tk; rw [if_neg hk, if_pos hn]
    rw [ht]; clear ht hk
    have HN := Lib.hid (decide_eq_true hn)
    clear hn
    go_enter Try.func14, Try.ntmps14
    go_wp2_with (go_at_call 21; refine (none_calls _ _ true HN.out).mono ?_; rintro e w' ⟨rfl, rfl⟩)
    go_ret2
    exact ⟨rfl, 0, rfl⟩
  have HN := Lib.hid (decide_eq_false hn)
  by_cases hi : Fl.rg p = 9218868437227405312
  · have ht : Fl.tk p k = (0, 51) := by unfold Fl.tk; rw [if_neg hk, if_neg hn, if_pos hi]
    rw [ht]; clear ht hk
    have HI := Lib.hid (decide_eq_true hi)
    clear hn hi
    go_enter Try.func14, Try.ntmps14
    go_wp2_with (first
      | (go_at_call 21; refine (none_calls _ _ false HN.out).mono ?_; rintro e w' ⟨rfl, rfl⟩)
      | (go_at_call 38; refine (endless_calls _ _ true HI.out).mono ?_; rintro e w' ⟨rfl, n, rfl⟩))
    go_ret2
    exact ⟨rfl, _, rfl⟩
  have HI := Lib.hid (decide_eq_false hi)
  have hf := Fl.fin_of hn hi
  by_cases hs : Fl.sr p < 0
  · have ht : Fl.tk p k = (0, 52) := by unfold Fl.tk; rw [if_neg hk, if_neg hn, if_neg hi, if_pos hs]
    rw [ht]; clear ht hk
    have hl : (FloatKind.f64.format.order p 0 == some .lt) = true := by
      rw [Fl.order_lt]; exact decide_eq_true ⟨hn, by decide, hs⟩
    clear hn hi hs hf
    go_enter Try.func14, Try.ntmps14
    go_wp2_with (first
      | (go_at_call 21; refine (none_calls _ _ false HN.out).mono ?_; rintro e w' ⟨rfl, rfl⟩)
      | (go_at_call 38; refine (endless_calls _ _ false HI.out).mono ?_; rintro e w' ⟨rfl, n, rfl⟩))
    go_ret2
    exact ⟨rfl, _, rfl⟩
  have hl : (FloatKind.f64.format.order p 0 == some .lt) = false := by
    rw [Fl.order_lt]; exact decide_eq_false (fun h => hs h.2.2)
  have hz : Fl.ng p = true → Fl.un (Fl.rg p) = 0 := fun h => Fl.un_zero_of hs h
  have hgt1 := Fl.near_gt (c := 4787326403894837248) (Fl.rep_un (Fl.rg p)) hz (by omega)
  rw [Fl.near_self hf hp, show Fl.un 4787326403894837248 = Fl.un (Fl.rg 4787326403894837248) from by rw [Fl.rg_pos (by omega)], Fl.un_pw40] at hgt1
  by_cases ho1 : 2 ^ (40 + Fl.W) < Fl.un (Fl.rg p)
  · have ho : 2 ^ (40 + Fl.W) < Fl.un (Fl.rg p) * 2 ^ k.toNat := Nat.lt_of_lt_of_le ho1 (Nat.le_mul_of_pos_right _ (Nat.two_pow_pos _))
    have ht : Fl.tk p k = (0, 54) := by unfold Fl.tk; rw [if_neg hk, if_neg hn, if_neg hi, if_neg hs, if_pos ho]
    rw [ht]; clear ht hk
    rw [decide_eq_true ho1] at hgt1
    clear hn hi hs hf ho1 ho hz
    go_enter Try.func14, Try.ntmps14
    go_wp2_with (first
      | (go_at_call 21; refine (none_calls _ _ false HN.out).mono ?_; rintro e w' ⟨rfl, rfl⟩)
      | (go_at_call 38; refine (endless_calls _ _ false HI.out).mono ?_; rintro e w' ⟨rfl, n, rfl⟩))
    go_ret2
    exact ⟨rfl, _, rfl⟩
  rw [decide_eq_false ho1] at hgt1
  have hb1 : Fl.un (Fl.rg p) ≤ 2 ^ (40 + Fl.W) := Nat.le_of_not_lt ho1
  -- the loop's doubling
  have hself : Nr (Fl.ng p) (Fl.un (Fl.rg p) * 2 ^ 0) = p := by rw [Nat.pow_zero, Nat.mul_one]; exact Fl.near_self hf hp
  have hdbl : ∀ j : Nat, j < 20 → floatBits .add .f64 (Nr (Fl.ng p) (Fl.un (Fl.rg p) * 2 ^ j)) (Nr (Fl.ng p) (Fl.un (Fl.rg p) * 2 ^ j)) = some (Nr (Fl.ng p) (Fl.un (Fl.rg p) * 2 ^ (j + 1))) := by
    intro j hj
    have h := Fl.add_double (s := Fl.ng p) ((Fl.rep_un (Fl.rg p)).scale j) (Fl.scaled_lt hb1 (by omega))
    rw [Nat.mul_assoc, ← Nat.pow_succ] at h
    exact h
  have hu : Fl.Rep (Fl.un (Fl.rg p) * 2 ^ k.toNat) := (Fl.rep_un _).scale _
  have hzk : Fl.ng p = true → Fl.un (Fl.rg p) * 2 ^ k.toNat = 0 := fun h => by rw [hz h, Nat.zero_mul]
  have hgt := Fl.near_gt (c := 4787326403894837248) hu hzk (by omega)
  rw [show Fl.un 4787326403894837248 = Fl.un (Fl.rg 4787326403894837248) from by rw [Fl.rg_pos (by omega)], Fl.un_pw40] at hgt
  obtain ⟨K, rfl⟩ := Int.eq_ofNat_of_zero_le h0
  rw [Int.toNat_natCast] at *
  -- what the walk up to the loop's end is, over whatever comes behind it
  have HS := Lib.hid hself
  have HD := Lib.hid hdbl
  clear hself hdbl
  have ht : Fl.tk p (K : Int) = (if 2 ^ (40 + Fl.W) < Fl.un (Fl.rg p) * 2 ^ K then (0, 54)
      else if Fl.un (Fl.rg p) * 2 ^ K % 2 ^ Fl.W ≠ 0 then (0, 53) else (((Fl.un (Fl.rg p) * 2 ^ K / 2 ^ Fl.W : Nat) : Int), 0)) := by
    unfold Fl.tk; rw [if_neg hk, if_neg hn, if_neg hi, if_neg hs, Int.toNat_natCast]
  have HTK := Lib.hid ht
  clear ht hk
  have HG := Lib.hid hgt
  clear hgt
  have hK : K ≤ 20 := by omega
  have HT : Hid (Fl.un (Fl.rg p) * 2 ^ K ≤ 2 ^ (40 + Fl.W) → floatToIntVal .f64 (Nr (Fl.ng p) (Fl.un (Fl.rg p) * 2 ^ K)) .i64 = some ((Fl.un (Fl.rg p) * 2 ^ K / 2 ^ Fl.W : Nat) : Int)) := fun hb => Fl.near_int hu hzk hb
  have HW : Hid (Fl.un (Fl.rg p) * 2 ^ K ≤ 2 ^ (40 + Fl.W) → (FloatKind.f64.format.order (floatOfInt .f64 ((Fl.un (Fl.rg p) * 2 ^ K / 2 ^ Fl.W : Nat) : Int)) (Nr (Fl.ng p) (Fl.un (Fl.rg p) * 2 ^ K)) != some .eq) = decide (Fl.un (Fl.rg p) * 2 ^ K % 2 ^ Fl.W ≠ 0)) := fun hb => Fl.whole_ne hu hzk hb
  clear hu hzk hz hn hi hs hf hb1 ho1 h0 h1
  generalize Fl.un (Fl.rg p) = U at *
  generalize Fl.ng p = s at *
  go_enter Try.func14, Try.ntmps14
  go_wp2_with (first
    | (go_at_call 21; refine (none_calls _ _ false HN.out).mono ?_; rintro e w' ⟨rfl, rfl⟩)
    | (go_at_call 38; refine (endless_calls _ _ false HI.out).mono ?_; rintro e w' ⟨rfl, n, rfl⟩))
  go_loop [0, 6] (fun x i => ∃ j : Nat, j ≤ K ∧ i = .int .i64 j ∧ x = .float .f64 (Nr s (U * 2 ^ j))) (fun _ i => K - (intOf i).toNat)
  case atStart => exact ⟨0, Nat.zero_le _, rfl, by rw [HS.out]⟩
  case round =>
    obtain ⟨j, hj, rfl, rfl⟩ := hrel
    by_cases hlt : j < K
    · have hx := fun w => run_float_arith (P := Try.prog) w .add 22 .f64 _ _ _ (HD.out j (by omega))
      go_wp2
      go_round
      case rel => exact ⟨j + 1, by omega, by go_num, rfl⟩
      case measure => simp [intOf]; omega
    · obtain rfl : j = K := by omega
      by_cases ho : 2 ^ (40 + Fl.W) < U * 2 ^ j
      · have hg := HG.out
        rw [decide_eq_true ho] at hg
        change (FloatKind.f64.format.order (Nr s (U * 2 ^ j)) 4787326403894837248 == some .gt) = true at hg
        have HO := Lib.hid ho
        generalize Nr s (U * 2 ^ j) = y at *
        clear ho HS HD HT HW HG
        go_wp2
        go_ret2
        exact ⟨by rw [HTK.out, if_pos HO.out]; rfl, _, rfl⟩
      · have hg := HG.out
        rw [decide_eq_false ho] at hg
        change (FloatKind.f64.format.order (Nr s (U * 2 ^ j)) 4787326403894837248 == some .gt) = false at hg
        have HO := Lib.hid ho
        have hc := fun w => conv_run (HT.out (Nat.le_of_not_lt ho)) w
        have hw := HW.out (Nat.le_of_not_lt ho)
        obtain ⟨m, HM⟩ : ∃ m : Nat, Hid (m = U * 2 ^ j / 2 ^ Fl.W) := ⟨_, rfl⟩
        rw [← HM.out] at hc hw
        by_cases hm : U * 2 ^ j % 2 ^ Fl.W ≠ 0
        · rw [decide_eq_true hm] at hw
          have HR := Lib.hid hm
          generalize Nr s (U * 2 ^ j) = y at *
          clear ho HS HD HT HW HG hm
          go_wp2
          go_ret2
          exact ⟨by rw [HTK.out, if_neg HO.out, if_pos HR.out]; rfl, _, rfl⟩
        · rw [decide_eq_false hm] at hw
          have HR := Lib.hid hm
          generalize Nr s (U * 2 ^ j) = y at *
          clear ho HS HD HT HW HG hm
          go_wp2
          go_ret2
          exact ⟨by rw [HTK.out, if_neg HO.out, if_neg HR.out, ← HM.out]; rfl, _, rfl⟩
end Go.Proofs.Ytpdkjjhcpaoioaa
