/- The contract of quote.Ticks: the chapter's ticks (Fl.tk), whatever the price and the shift. -/
import Derived.Test.YtgppjajkhdhcaaaExt
import Derived.Test.YtgppjajkhdhcaaaTk
import Derived.WalkKit
import Derived.WalkLawsBesides
import Derived.Lib.Hide
namespace Go.Proofs.Ytgppjajkhdhcaaa
open Go.RowKit

theorem abs_calls (p : Nat) (w : World) (hp : p < 18446744073709551616) :
    Calls Try.prog 46 #[.float .f64 p] w fun e w' => e = .returned (.float .f64 (Fl.rg p)) ∧ w = w' := by
  have hb := fun (b : Nat) (w : World) => bits_run b w
  have hf := fun (n : Int) (w : World) => from_run n w
  have e : (bits .andNot .u64 (p : Int) 9223372036854775808).toNat = Fl.rg p := by
    have h := u64_andNot_nat p 9223372036854775808 hp (by omega)
    rw [show ((9223372036854775808 : Nat) : Int) = 9223372036854775808 from rfl] at h
    rw [h, Int.toNat_natCast, show 18446744073709551615 - 9223372036854775808 = 2 ^ 63 - 1 from by omega, Nat.and_two_pow_sub_one_eq_mod]; rfl
  have E := Lib.hid e
  clear e
  go_enter Try.func46, Try.ntmps46
  go_wp2
  go_ret
  exact ⟨by rw [E.out]; rfl, rfl⟩

theorem isInf_calls (p : Nat) (w : World) (v : Bool) (hp : p < 18446744073709551616) (hv : decide (Fl.rg p = 9218868437227405312) = v) :
    Calls Try.prog 34 #[.float .f64 p, .int .i64 0] w fun e w' => e = .returned (.bool v) ∧ w = w' := by
  have h := (Fl.is_inf p).trans hv
  have H := Lib.hid h
  clear h hv
  go_enter Try.func34, Try.ntmps34
  go_wp2_with (go_at_call 46; refine (abs_calls _ _ hp).mono ?_; rintro e w' ⟨rfl, rfl⟩)
  go_ret
  exact ⟨by rw [H.out]; rfl, rfl⟩

theorem trunc_calls {p : Nat} (w : World) (h : ¬ Fl.Nan p) :
    Calls Try.prog 35 #[.float .f64 p] w fun e w' => e = .returned (.float .f64 (Ieee.double.write ((Ieee.double.read p).integral .zero))) ∧ w = w' := by
  have ht := fun (w : World) => trunc_run h w
  go_enter Try.func35, Try.ntmps35
  go_wp2
  go_ret
  exact ⟨rfl, rfl⟩

/-- A float operation: just these bits, or (no number) bits that the tape gives. -/
theorem float_any (op : BinOp) (h : op = .add ∨ op = .sub ∨ op = .mul ∨ op = .quo) (t : TypeId) (x y : Nat) :
    (∃ r, floatBits op .f64 x y = some r) ∨ (floatBits op .f64 x y = none ∧ ∃ g : World → Nat, (∀ w : World, Fl.Nan (g w) ∧ g w < 18446744073709551616) ∧ ∀ w : World, (binOp op t (.float .f64 x) (.float .f64 y)).run Try.prog w = .ok (.float .f64 (g w)) w.drew) := by
  cases hr : floatBits op .f64 x y with
  | some r => exact .inl ⟨r, rfl⟩
  | none =>
    refine .inr ⟨rfl, fun w => (Question.nanBits .f64 x y).cut (w.tape w.drawn (.nanBits .f64 x y)), fun w => ?_, fun w => ?_⟩
    · dsimp only
      generalize w.tape w.drawn (.nanBits .f64 x y) = t
      have e : (Question.nanBits .f64 x y).cut t = (t % 2) * 2 ^ 63 + 0x7ff0000000000000 + 1 + (t / 2) % (2 ^ 52 - 1) := rfl
      rw [e]
      have h1 : t % 2 < 2 := Nat.mod_lt _ (by omega)
      have h2 : t / 2 % (2 ^ 52 - 1) < 2 ^ 52 - 1 := Nat.mod_lt _ (by omega)
      generalize t % 2 = b at h1 ⊢
      generalize t / 2 % (2 ^ 52 - 1) = c at h2 ⊢
      unfold Fl.Nan Fl.rg
      rcases (by omega : b = 0 ∨ b = 1) with rfl | rfl <;> omega
    unfold floatBits at hr
    rcases h with rfl | rfl | rfl | rfl <;> simp only at hr <;> simp [binOp, Op.floatArith, hr, Question.forced]

/-- What a conversion of a float in range is. -/
theorem conv_run {b : Nat} {n : Int} (h : floatToIntVal .f64 b .i64 = some n) (w : World) : (convert 25 3 (.float .f64 b)).run Try.prog w = .ok (.int .i64 n) w :=
  run_convert_float_int w 25 3 .f64 .i64 b n (by kernel_rfl) (by kernel_rfl) h

set_option maxHeartbeats 1000000 in
theorem ticks_calls (p : Nat) (k : Int) (w : World) (hp : p < 18446744073709551616) :
    Calls Try.prog 21 #[.float .f64 p, .int .i64 k] w fun e w' => e = .returned (.tuple #[.int .i64 (Fl.tk p k).1, .int .i64 (Fl.tk p k).2]) ∧ ∃ n, w' = w.drewN n := by
  by_cases hk : k < 0 ∨ 20 < k
  · have ht : Fl.tk p k = (0, 1) := by unfold Fl.tk; rw [if_pos hk]
    rw [ht]; clear ht
    rcases hk with hk | hk
    · go_enter Try.func21, Try.ntmps21
      go_wp2
      go_ret2
      exact ⟨rfl, 0, rfl⟩
    · have h0 : ¬ k < 0 := by omega
      go_enter Try.func21, Try.ntmps21
      go_wp2
      go_ret2
      exact ⟨rfl, 0, rfl⟩
  have h0 : 0 ≤ k := by omega
  have h1 : k ≤ 20 := by omega
  by_cases hn : Fl.Nan p
  · have ht : Fl.tk p k = (0, 50) := by unfold Fl.tk; rw [if_neg hk, if_pos hn]
    rw [ht]; clear ht hk
    have hne : (FloatKind.f64.format.order p p != some .eq) = true := by rw [Fl.neq_self]; exact decide_eq_true hn
    rcases float_any .mul (Or.inr (Or.inr (Or.inl rfl))) 25 p (floatOfInt .f64 (wrap64 (2 ^ k.toNat))) with ⟨r, hr⟩ | ⟨_, g, _, hg⟩
    · have hx := fun w => run_float_arith (P := Try.prog) w .mul 25 .f64 _ _ _ hr
      clear hr hn
      go_enter Try.func21, Try.ntmps21
      go_wp2
      go_ret2
      exact ⟨rfl, 0, rfl⟩
    · clear hn
      go_enter Try.func21, Try.ntmps21
      go_wp2
      go_ret2
      exact ⟨rfl, 1, rfl⟩
  have hne : (FloatKind.f64.format.order p p != some .eq) = false := by rw [Fl.neq_self]; exact decide_eq_false hn
  by_cases hi : Fl.rg p = 9218868437227405312
  · have ht : Fl.tk p k = (0, 51) := by unfold Fl.tk; rw [if_neg hk, if_neg hn, if_pos hi]
    rw [ht]; clear ht hk
    have hv : decide (Fl.rg p = 9218868437227405312) = true := decide_eq_true hi
    have HV := Lib.hid hv
    clear hv hi hn
    rcases float_any .mul (Or.inr (Or.inr (Or.inl rfl))) 25 p (floatOfInt .f64 (wrap64 (2 ^ k.toNat))) with ⟨r, hr⟩ | ⟨_, g, _, hg⟩
    · have hx := fun w => run_float_arith (P := Try.prog) w .mul 25 .f64 _ _ _ hr
      clear hr
      go_enter Try.func21, Try.ntmps21
      go_wp2_with (go_at_call 34; refine (isInf_calls _ _ true hp HV.out).mono ?_; rintro e w' ⟨rfl, rfl⟩)
      go_ret2
      exact ⟨rfl, 0, rfl⟩
    · go_enter Try.func21, Try.ntmps21
      go_wp2_with (go_at_call 34; refine (isInf_calls _ _ true hp HV.out).mono ?_; rintro e w' ⟨rfl, rfl⟩)
      go_ret2
      exact ⟨rfl, 1, rfl⟩
  have HV := Lib.hid (decide_eq_false hi)
  have hf := Fl.fin_of hn hi
  have hx := fun w => run_float_arith (P := Try.prog) w .mul 25 .f64 _ _ _ (Fl.mul_k hf k h0 h1)
  have hu : Fl.Rep (Fl.un (Fl.rg p) * 2 ^ k.toNat) := (Fl.rep_un _).scale _
  by_cases hs : Fl.sr p < 0
  · have ht : Fl.tk p k = (0, 52) := by unfold Fl.tk; rw [if_neg hk, if_neg hn, if_neg hi, if_pos hs]
    rw [ht]; clear ht hk
    have hl : (FloatKind.f64.format.order p 0 == some .lt) = true := by
      rw [Fl.order_lt]; exact decide_eq_true ⟨hn, by decide, hs⟩
    clear hs hn hi hf hu
    go_enter Try.func21, Try.ntmps21
    go_wp2_with (go_at_call 34; refine (isInf_calls _ _ false hp HV.out).mono ?_; rintro e w' ⟨rfl, rfl⟩)
    go_ret2
    exact ⟨rfl, 0, rfl⟩
  have hl : (FloatKind.f64.format.order p 0 == some .lt) = false := by
    rw [Fl.order_lt]; exact decide_eq_false (fun h => hs h.2.2)
  have hz : Fl.ng p = true → Fl.un (Fl.rg p) * 2 ^ k.toNat = 0 := fun h => by rw [Fl.un_zero_of hs h, Nat.zero_mul]
  have hgt := Fl.near_gt (c := 4787326403894837248) hu hz (by omega)
  rw [show Fl.un 4787326403894837248 = Fl.un (Fl.rg 4787326403894837248) from by rw [Fl.rg_pos (by omega)], Fl.un_pw40] at hgt
  by_cases ho : 2 ^ (40 + Fl.W) < Fl.un (Fl.rg p) * 2 ^ k.toNat
  · have ht : Fl.tk p k = (0, 54) := by unfold Fl.tk; rw [if_neg hk, if_neg hn, if_neg hi, if_neg hs, if_pos ho]
    rw [ht]; clear ht hk
    rw [decide_eq_true ho] at hgt
    clear hs hn hi hf hu ho hz
    go_enter Try.func21, Try.ntmps21
    go_wp2_with (go_at_call 34; refine (isInf_calls _ _ false hp HV.out).mono ?_; rintro e w' ⟨rfl, rfl⟩)
    go_ret2
    exact ⟨rfl, 0, rfl⟩
  rw [decide_eq_false ho] at hgt
  have hb : Fl.un (Fl.rg p) * 2 ^ k.toNat ≤ 2 ^ (40 + Fl.W) := Nat.le_of_not_lt ho
  have hnn := Fl.near_not_nan (Fl.ng p) (Fl.un (Fl.rg p) * 2 ^ k.toNat)
  have htr := Fl.near_trunc (s := Fl.ng p) hu hb
  have hneq := Fl.near_ne (s := Fl.ng p) hu (Nat.lt_of_le_of_lt hb (Fl.pow_lt_bound (by omega))) (Fl.rep_whole hb) (Fl.whole_le hb)
  by_cases hm : Fl.un (Fl.rg p) * 2 ^ k.toNat % 2 ^ Fl.W ≠ 0
  · have ht : Fl.tk p k = (0, 53) := by unfold Fl.tk; rw [if_neg hk, if_neg hn, if_neg hi, if_neg hs, if_neg ho, if_pos hm]
    rw [ht]; clear ht hk
    rw [decide_eq_true ((Fl.mod_ne _).2 hm), ← htr] at hneq
    clear hs hn hi hf hu ho hz hb hm htr
    generalize Ieee.double.nearest (Fl.ng p) (Fl.un (Fl.rg p) * 2 ^ k.toNat) (-1074) = x at *
    go_enter Try.func21, Try.ntmps21
    go_wp2_with (first
      | (go_at_call 34; refine (isInf_calls _ _ false hp HV.out).mono ?_; rintro e w' ⟨rfl, rfl⟩)
      | (go_at_call 35; refine (trunc_calls _ hnn).mono ?_; rintro e w' ⟨rfl, rfl⟩))
    go_ret2
    exact ⟨rfl, 0, rfl⟩
  · have ht : Fl.tk p k = (((Fl.un (Fl.rg p) * 2 ^ k.toNat / 2 ^ Fl.W : Nat) : Int), 0) := by unfold Fl.tk; rw [if_neg hk, if_neg hn, if_neg hi, if_neg hs, if_neg ho, if_neg hm]
    rw [ht]; clear ht hk
    rw [decide_eq_false (fun h => hm ((Fl.mod_ne _).1 h)), ← htr] at hneq
    have hc := fun w => conv_run (Fl.near_int hu hz hb) w
    clear hs hn hi hf hu ho hz hb hm htr
    generalize Ieee.double.nearest (Fl.ng p) (Fl.un (Fl.rg p) * 2 ^ k.toNat) (-1074) = x at *
    generalize Fl.un (Fl.rg p) * 2 ^ k.toNat / 2 ^ Fl.W = m at *
    go_enter Try.func21, Try.ntmps21
    go_wp2_with (first
      | (go_at_call 34; refine (isInf_calls _ _ false hp HV.out).mono ?_; rintro e w' ⟨rfl, rfl⟩)
      | (go_at_call 35; refine (trunc_calls _ hnn).mono ?_; rintro e w' ⟨rfl, rfl⟩))
    go_ret2
    exact ⟨rfl, 0, rfl⟩
end Go.Proofs.Ytgppjajkhdhcaaa
