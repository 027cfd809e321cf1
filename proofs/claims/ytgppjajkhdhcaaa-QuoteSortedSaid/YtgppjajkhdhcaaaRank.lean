/- The contracts of Rank, Less and the reference's Below: floats have one order. -/
import Derived.Test.YtgppjajkhdhcaaaPrice
namespace Go.Proofs.Ytgppjajkhdhcaaa
open Go.RowKit
namespace Fl
/-- A float's place among all. -/
def rk (b : Nat) : Nat := if Nan b then 18446744073709551615 else if ng b = true then 18446744073709551615 - b else b + 9223372036854775808
/-- Does a float stand ahead of another one? -/
def bl (a b : Nat) : Bool := decide (rk a < rk b)
theorem ng_iff {b : Nat} (h : b < 18446744073709551616) : ng b = true ↔ 9223372036854775808 ≤ b := by
  unfold ng; rw [beq_iff_eq]; omega
theorem ng_false {b : Nat} (h : b < 18446744073709551616) : ng b = false ↔ b < 9223372036854775808 := by
  rw [← Bool.not_eq_true, ng_iff h]; omega
theorem rk_neg {b : Nat} (h : b < 18446744073709551616) (hn : ¬ Nan b) (h1 : 9223372036854775808 ≤ b) : rk b = 18446744073709551615 - b := by
  unfold rk; rw [if_neg hn, if_pos ((ng_iff h).2 h1)]
theorem rk_pos {b : Nat} (hn : ¬ Nan b) (h1 : b < 9223372036854775808) : rk b = b + 9223372036854775808 := by
  unfold rk; rw [if_neg hn, if_neg (by rw [(ng_false (by omega)).2 h1]; decide)]
theorem rk_nan {b : Nat} (hn : Nan b) : rk b = 18446744073709551615 := by unfold rk; rw [if_pos hn]
theorem rk_lt {b : Nat} : rk b < 18446744073709551616 ∨ 18446744073709551616 ≤ b := by
  by_cases h : Nan b
  · rw [rk_nan h]; omega
  · by_cases hb : b < 18446744073709551616
    · by_cases h1 : 9223372036854775808 ≤ b
      · rw [rk_neg hb h h1]; omega
      · rw [rk_pos h (by omega)]; omega
    · exact .inr (by omega)
theorem sr_neg {b : Nat} (h : b < 18446744073709551616) (h1 : 9223372036854775808 ≤ b) : sr b = -((b - 9223372036854775808 : Nat) : Int) := by
  unfold sr sg; rw [if_pos ((ng_iff h).2 h1)]; unfold rg
  rw [show b % 9223372036854775808 = b - 9223372036854775808 from by omega]
theorem nan_neg {b : Nat} (h : b < 18446744073709551616) (h1 : 9223372036854775808 ≤ b) : Nan b ↔ 18442240474082181120 < b := by
  unfold Nan rg; omega
theorem nan_pos {b : Nat} (h1 : b < 9223372036854775808) : Nan b ↔ 9218868437227405312 < b := by
  unfold Nan rg; omega
/-- The order by ranks is the one by values, -0 ahead of 0, what is no number behind all. -/
theorem bl_eq {a b : Nat} (ha : a < 18446744073709551616) (hb : b < 18446744073709551616) :
    bl a b = if Nan a then false else if Nan b then true else if sr a = 0 ∧ sr b = 0 then decide (a ≠ 0 ∧ b = 0) else decide (sr a < sr b) := by
  unfold bl
  by_cases na : Nan a
  · rw [if_pos na, rk_nan na]
    apply decide_eq_false
    rcases rk_lt (b := b) with h | h <;> omega
  rw [if_neg na]
  have hra : rk a < 18446744073709551615 := by
    by_cases h1 : 9223372036854775808 ≤ a
    · rw [rk_neg ha na h1]; omega
    · rw [nan_pos (by omega)] at na; rw [rk_pos (by rw [nan_pos (by omega)]; exact na) (by omega)]; omega
  by_cases nb : Nan b
  · rw [if_pos nb, rk_nan nb]; exact decide_eq_true hra
  rw [if_neg nb]
  by_cases h1 : 9223372036854775808 ≤ a <;> by_cases h2 : 9223372036854775808 ≤ b
  · rw [rk_neg ha na h1, rk_neg hb nb h2, sr_neg ha h1, sr_neg hb h2]
    split
    · rw [decide_eq_decide]; omega
    · rw [decide_eq_decide]; omega
  · rw [rk_neg ha na h1, rk_pos nb (by omega), sr_neg ha h1, sr_pos (c := b) (by omega)]
    split
    · rw [decide_eq_decide]; omega
    · rw [decide_eq_decide]; omega
  · rw [rk_pos na (by omega), rk_neg hb nb h2, sr_pos (c := a) (by omega), sr_neg hb h2]
    split
    · rw [decide_eq_decide]; omega
    · rw [decide_eq_decide]; omega
  · rw [rk_pos na (by omega), rk_pos nb (by omega), sr_pos (c := a) (by omega), sr_pos (c := b) (by omega)]
    split
    · rw [decide_eq_decide]; omega
    · rw [decide_eq_decide]; omega
theorem rk_same {a b : Nat} (ha : a < 18446744073709551616) (hb : b < 18446744073709551616) : rk a = rk b ↔ a = b ∨ Nan a ∧ Nan b := by
  by_cases na : Nan a
  · rw [rk_nan na]
    by_cases nb : Nan b
    · rw [rk_nan nb]; exact ⟨fun _ => .inr ⟨na, nb⟩, fun _ => rfl⟩
    · constructor
      · intro h
        by_cases h2 : 9223372036854775808 ≤ b
        · rw [rk_neg hb nb h2] at h; omega
        · rw [rk_pos nb (by omega)] at h; rw [nan_pos (by omega)] at nb; omega
      · rintro (rfl | ⟨_, h⟩)
        · exact absurd na nb
        · exact absurd h nb
  · constructor
    · intro h
      left
      by_cases h1 : 9223372036854775808 ≤ a <;> by_cases nb : Nan b
      · rw [rk_neg ha na h1, rk_nan nb] at h; omega
      · by_cases h2 : 9223372036854775808 ≤ b
        · rw [rk_neg ha na h1, rk_neg hb nb h2] at h; omega
        · rw [rk_neg ha na h1, rk_pos nb (by omega)] at h; omega
      · rw [rk_pos na (by omega), rk_nan nb] at h; rw [nan_pos (by omega)] at na; omega
      · by_cases h2 : 9223372036854775808 ≤ b
        · rw [rk_pos na (by omega), rk_neg hb nb h2] at h; omega
        · rw [rk_pos na (by omega), rk_pos nb (by omega)] at h; omega
    · rintro (rfl | ⟨h, _⟩)
      · rfl
      · exact absurd h na
theorem not_u64 {b : Nat} (h : b < 18446744073709551616) : bits .xor .u64 IntKind.u64.max (b : Int) = ((18446744073709551615 - b : Nat) : Int) := by
  have e : IntKind.u64.max = ((18446744073709551615 : Nat) : Int) := by decide
  rw [e, u64_xor_nat _ _ (by omega) h]
  congr 1
  apply Nat.eq_of_testBit_eq
  intro i
  have h1 := Nat.testBit_two_pow_sub_succ (n := 64) h i
  rw [show 2 ^ 64 - (b + 1) = 18446744073709551615 - b from by omega] at h1
  have h2 := Nat.testBit_two_pow_sub_one 64 i
  rw [show 2 ^ 64 - 1 = 18446744073709551615 from by omega] at h2
  rw [Nat.testBit_xor, h1, h2]
  by_cases hi : i < 64
  · simp [hi]
  · have : b.testBit i = false := Nat.testBit_lt_two_pow (Nat.lt_of_lt_of_le h (show 18446744073709551616 ≤ 2 ^ i from (Nat.pow_le_pow_right (by omega) (Nat.le_of_not_lt hi) : 2 ^ 64 ≤ 2 ^ i)))
    simp [hi, this]
theorem or_u64 {b : Nat} (h : b < 9223372036854775808) : bits .or .u64 (b : Int) 9223372036854775808 = ((b + 9223372036854775808 : Nat) : Int) := by
  have e := u64_or_nat b 9223372036854775808 (by omega) (by omega)
  rw [show ((9223372036854775808 : Nat) : Int) = 9223372036854775808 from rfl] at e
  rw [e, Nat.or_comm, nat_join 63 _ _ (by omega) (by omega), Nat.add_comm]
end Fl

theorem rank_calls (b : Nat) (w : World) (hb : b < 18446744073709551616) :
    Calls Try.prog 33 #[.float .f64 b] w fun e w' => e = .returned (.int .u64 (Fl.rk b)) ∧ w = w' := by
  have hr := fun (b : Nat) (w : World) => bits_run b w
  by_cases hn : Fl.Nan b
  · have hne : (FloatKind.f64.format.order b b != some .eq) = true := by rw [Fl.neq_self]; exact decide_eq_true hn
    rw [Fl.rk_nan hn]
    clear hn
    go_enter Try.func33, Try.ntmps33
    go_wp2
    go_ret
    exact ⟨rfl, rfl⟩
  have hne : (FloatKind.f64.format.order b b != some .eq) = false := by rw [Fl.neq_self]; exact decide_eq_false hn
  by_cases h1 : 9223372036854775808 ≤ b
  · rw [Fl.rk_neg hb hn h1]
    have hd : ((b : Int) / 9223372036854775808 == 1) = true := by rw [beq_iff_eq]; omega
    clear hn
    go_enter Try.func33, Try.ntmps33
    go_wp2
    go_ret
    exact ⟨by rw [← Fl.not_u64 hb]; rfl, rfl⟩
  · rw [Fl.rk_pos hn (by omega)]
    have hd : ((b : Int) / 9223372036854775808 == 1) = false := by rw [beq_eq_false_iff_ne]; omega
    clear hn
    go_enter Try.func33, Try.ntmps33
    go_wp2
    go_ret
    exact ⟨by rw [← Fl.or_u64 (b := b) (by omega)]; rfl, rfl⟩
/-- Less, its answer by cases ahead. -/
theorem less_calls (a b : Nat) (w : World) (v : Bool) (ha : a < 18446744073709551616) (hb : b < 18446744073709551616) (hv : Hid (Fl.bl a b = v)) :
    Calls Try.prog 17 #[.float .f64 a, .float .f64 b] w fun e w' => e = .returned (.bool v) ∧ w = w' := by
  go_enter Try.func17, Try.ntmps17
  go_wp2_with (go_at_call 33; first | ((with_reducible refine (rank_calls a _ ha).mono ?_); rintro e w' ⟨rfl, rfl⟩) | ((with_reducible refine (rank_calls b _ hb).mono ?_); rintro e w' ⟨rfl, rfl⟩))
  go_ret
  exact ⟨by rw [← hv.out]; rfl, rfl⟩

set_option maxHeartbeats 400000 in
theorem below_calls (a b : Nat) (w : World) (v : Bool) (ha : a < 18446744073709551616) (hb : b < 18446744073709551616) (hv : Hid (Fl.bl a b = v)) :
    Calls Try.prog 19 #[.float .f64 a, .float .f64 b] w fun e w' => e = .returned (.bool v) ∧ w = w' := by
  have hr := fun (b : Nat) (w : World) => bits_run b w
  have e := hv.out
  rw [Fl.bl_eq ha hb] at e
  clear hv
  by_cases na : Fl.Nan a
  · rw [if_pos na] at e
    have NA := Lib.hid (decide_eq_true na)
    subst e
    clear na
    go_enter Try.func19, Try.ntmps19
    go_wp2_with (go_at_call 25; (with_reducible refine (none_calls a _ true NA.out).mono ?_); rintro e w' ⟨rfl, rfl⟩)
    go_ret
    exact ⟨rfl, rfl⟩
  rw [if_neg na] at e
  have NA := Lib.hid (decide_eq_false na)
  by_cases nb : Fl.Nan b
  · rw [if_pos nb] at e
    have NB := Lib.hid (decide_eq_true nb)
    subst e
    clear na nb
    go_enter Try.func19, Try.ntmps19
    go_wp2_with (go_at_call 25; first | ((with_reducible refine (none_calls a _ false NA.out).mono ?_); rintro e w' ⟨rfl, rfl⟩) | ((with_reducible refine (none_calls b _ true NB.out).mono ?_); rintro e w' ⟨rfl, rfl⟩))
    go_ret
    exact ⟨rfl, rfl⟩
  rw [if_neg nb] at e
  have NB := Lib.hid (decide_eq_false nb)
  have z0 : ¬ Fl.Nan 0 := by decide
  have s0 : Fl.sr 0 = 0 := by decide
  have ea := Fl.order_eqb a 0
  have eb := Fl.order_eqb b 0
  rw [s0] at ea eb
  have el := Fl.order_lt a b
  simp only [na, nb, z0, not_false_eq_true, true_and] at ea eb el
  clear z0 s0
  by_cases h1 : Fl.sr a = 0
  · rw [decide_eq_true h1] at ea
    by_cases h2 : Fl.sr b = 0
    · rw [decide_eq_true h2] at eb
      rw [if_pos ⟨h1, h2⟩] at e
      clear na nb h1 h2 el
      by_cases ha0 : a = 0
      · subst ha0
        have e1 : v = false := by rw [← e]; rfl
        subst e1
        clear e
        go_enter Try.func19, Try.ntmps19
        go_wp2_with (go_at_call 25; first | ((with_reducible refine (none_calls 0 _ false NA.out).mono ?_); rintro e w' ⟨rfl, rfl⟩) | ((with_reducible refine (none_calls b _ false NB.out).mono ?_); rintro e w' ⟨rfl, rfl⟩))
        go_ret
        exact ⟨rfl, rfl⟩
      · have ha1 : ((a : Int) != 0) = true := by rw [bne_iff_ne]; omega
        have hb1 : ((b : Int) == 0) = v := by rw [← e, Bool.eq_iff_iff, beq_iff_eq, decide_eq_true_eq]; omega
        clear e ha0
        go_enter Try.func19, Try.ntmps19
        go_wp2_with (go_at_call 25; first | ((with_reducible refine (none_calls a _ false NA.out).mono ?_); rintro e w' ⟨rfl, rfl⟩) | ((with_reducible refine (none_calls b _ false NB.out).mono ?_); rintro e w' ⟨rfl, rfl⟩))
        go_ret
        exact ⟨rfl, rfl⟩
    · rw [decide_eq_false h2] at eb
      rw [if_neg (fun h => h2 h.2)] at e
      have el' := el.trans e
      clear na nb h1 h2 el e
      go_enter Try.func19, Try.ntmps19
      go_wp2_with (go_at_call 25; first | ((with_reducible refine (none_calls a _ false NA.out).mono ?_); rintro e w' ⟨rfl, rfl⟩) | ((with_reducible refine (none_calls b _ false NB.out).mono ?_); rintro e w' ⟨rfl, rfl⟩))
      go_ret
      exact ⟨rfl, rfl⟩
  · rw [decide_eq_false h1] at ea
    rw [if_neg (fun h => h1 h.1)] at e
    have el' := el.trans e
    clear na nb h1 el e
    go_enter Try.func19, Try.ntmps19
    go_wp2_with (go_at_call 25; first | ((with_reducible refine (none_calls a _ false NA.out).mono ?_); rintro e w' ⟨rfl, rfl⟩) | ((with_reducible refine (none_calls b _ false NB.out).mono ?_); rintro e w' ⟨rfl, rfl⟩))
    go_ret
    exact ⟨rfl, rfl⟩

theorem tk_a : Fl.tk 4609434218613702656 6 = (96, 0) := by decide +kernel
theorem tk_b : Fl.tk 4599075939470750515 6 = (0, 53) := by decide +kernel
theorem pr_a : Fl.pr 96 6 = 4609434218613702656 := by decide +kernel
theorem bl_a : Fl.bl 9223372036854775808 0 = true := by decide +kernel
theorem copysign_calls (w : World) : Calls Try.prog 23 #[.float .f64 0, .float .f64 13830554455654793216] w fun e w' => e = .returned (.float .f64 9223372036854775808) ∧ w = w' := by
  have hr := fun (b : Nat) (w : World) => bits_run b w
  have hf := fun (n : Int) (w : World) => from_run n w
  go_enter Try.func23, Try.ntmps23
  go_wp2
  go_ret
  exact ⟨rfl, rfl⟩
set_option maxHeartbeats 400000 in
theorem awake_calls (w : World) : Calls Try.prog 9 #[] w fun e w' => e = .returned (.bool true) ∧ ∃ n, w' = w.drewN n := by
  have h1 := ticks_calls 4609434218613702656 6
  rw [tk_a] at h1
  have h2 := ticks_calls 4599075939470750515 6
  rw [tk_b] at h2
  have hp : Hid (((4609434218613702656 : Nat), (0 : Int)) = if (0 : Int) ≤ 96 ∧ (96 : Int) ≤ 1099511627776 ∧ (0 : Int) ≤ 6 ∧ (6 : Int) ≤ 20 then (Fl.pr (96 : Int).toNat (6 : Int).toNat, (0 : Int)) else (0, 1)) := by
    rw [if_pos (by omega)]; show _ = (Fl.pr 96 6, _); rw [pr_a]
  have H1 := fun w => Lib.hid (h1 w (by omega))
  have H2 := fun w => Lib.hid (h2 w (by omega))
  clear h1 h2
  have he : (FloatKind.f64.format.order 4609434218613702656 4609434218613702656 == some .eq) = true := by decide +kernel
  go_enter Try.func9, Try.ntmps9
  go_wp2_with (first
    | (go_at_call 21; first | ((with_reducible refine (H1 _).out.mono ?_); rintro e w' ⟨rfl, n1, rfl⟩) | ((with_reducible refine (H2 _).out.mono ?_); rintro e w' ⟨rfl, n2, rfl⟩))
    | (go_at_call 22; (with_reducible refine (price_calls 96 6 _ _ _ hp).mono ?_); rintro e w' ⟨rfl, rfl⟩)
    | (go_at_call 23; (with_reducible refine (copysign_calls _).mono ?_); rintro e w' ⟨rfl, rfl⟩)
    | (go_at_call 17; (with_reducible refine (less_calls 9223372036854775808 0 _ true (by omega) (by omega) (Lib.hid bl_a)).mono ?_); rintro e w' ⟨rfl, rfl⟩))
  go_ret
  exact ⟨rfl, _, rfl⟩
end Go.Proofs.Ytgppjajkhdhcaaa
