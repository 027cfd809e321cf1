/- The contracts of one, Mid and Spread, the program's and the reference's: the same words, what is no number as the one NaN. -/
import Derived.Test.YtgppjajkhdhcaaaRank
namespace Go.Proofs.Ytgppjajkhdhcaaa
open Go.RowKit
namespace Fl
/-- A float, each that is no number as the one. -/
def on (x : Nat) : Nat := if Nan x then 9221120237041090561 else x
/-- A float operation, no number as the one. -/
def fo (op : BinOp) (x y : Nat) : Nat := (floatBits op .f64 x y).getD 9221120237041090561
def hf (x : Nat) : Nat := (floatBits .quo .f64 x 4611686018427387904).getD 0
def md (a b : Nat) : Nat := if Nan a then on b else if Nan b then a else fo .add (hf a) (hf b)
theorem hf_some {x : Nat} (h : ¬ Nan x) : floatBits .quo .f64 x 4611686018427387904 = some (hf x) := by
  have e : pw 1 = 4611686018427387904 := by decide
  unfold hf
  rcases kinds x with hx | hx | hx
  · have := div_pw (k := 1) hx (by omega)
    rw [e] at this
    have h2 : floatBits .quo .f64 x 4611686018427387904 = some _ := this
    rw [h2]; rfl
  · have : floatBits .quo .f64 x 4611686018427387904 = some (Ieee.double.write (.infinity (ng x ^^ false))) := by
      show Ieee.double.div x 4611686018427387904 = _
      unfold Ieee.Format.div
      rw [← e, read_inf hx, read_pw (by omega)]; rfl
    rw [this]; rfl
  · exact absurd hx h
theorem write_not_nan (d : Ieee.Datum) (h : d.isNaN = false) : ¬ Nan (Ieee.double.write d) := by
  cases d with
  | number s m p =>
    show ¬ Nan (Ieee.double.nearest s m p)
    by_cases hm : m = 0
    · subst hm; rw [nearest_zero]; unfold Nan; rw [rg_word s (by omega)]; omega
    · rw [nearest_eq s m p hm]; unfold Nan; rw [rg_word s (by omega)]; omega
  | infinity s =>
    show ¬ Nan (Ieee.double.word s Ieee.double.infRung)
    rw [ir]; unfold Nan; rw [rg_word s (by omega)]; omega
  | nan s t => cases h
theorem sum_not_nan {a b d : Ieee.Datum} (h : a.sum b = some d) : d.isNaN = false := by
  cases a <;> cases b <;> simp only [Ieee.Datum.sum] at h <;> first | (cases h; done) | (cases h; rfl) | skip
  split at h
  · cases h; rfl
  · cases h
theorem product_not_nan {a b d : Ieee.Datum} (h : a.product b = some d) : d.isNaN = false := by
  cases a <;> cases b <;> simp only [Ieee.Datum.product] at h <;> first | (cases h; done) | (cases h; rfl) | skip
  all_goals
    split at h
    · cases h
    · cases h; rfl
theorem quotient_not_nan {n : Nat} {a b d : Ieee.Datum} (h : a.quotient n b = some d) : d.isNaN = false := by
  cases a <;> cases b <;> simp only [Ieee.Datum.quotient] at h <;> first | (cases h; done) | (cases h; rfl) | skip
  split at h
  · split at h
    · cases h
    · cases h; rfl
  · cases h; rfl
/-- No operation that has an answer answers what is no number. -/
theorem fb_not_nan {op : BinOp} {x y r : Nat} (h : floatBits op .f64 x y = some r) : ¬ Nan r := by
  have key : ∀ (o : Option Ieee.Datum), (∀ d, o = some d → d.isNaN = false) → o.map Ieee.double.write = some r → ¬ Nan r := by
    intro o ho hr
    cases o with
    | none => cases hr
    | some d =>
      simp only [Option.map_some, Option.some.injEq] at hr
      rw [← hr]; exact write_not_nan d (ho d rfl)
  unfold floatBits at h
  split at h
  · exact key _ (fun d => sum_not_nan) h
  · exact key _ (fun d => sum_not_nan) h
  · exact key _ (fun d => product_not_nan) h
  · exact key _ (fun d => quotient_not_nan) h
  · cases h
theorem on_of_not {x : Nat} (h : ¬ Nan x) : on x = x := by unfold on; rw [if_neg h]
theorem on_nan {x : Nat} (h : Nan x) : on x = 9221120237041090561 := by unfold on; rw [if_pos h]
theorem fo_some {op : BinOp} {x y r : Nat} (h : floatBits op .f64 x y = some r) : on r = fo op x y := by
  unfold fo; rw [h, on_of_not (fb_not_nan h)]; rfl
theorem fo_none {op : BinOp} {x y r : Nat} (h : floatBits op .f64 x y = none) (hr : Nan r) : on r = fo op x y := by
  unfold fo; rw [h, on_nan hr]; rfl
end Fl

theorem one_calls (x : Nat) (w : World) (v : Nat) (hv : Hid (Fl.on x = v)) :
    Calls Try.prog 14 #[.float .f64 x] w fun e w' => e = .returned (.float .f64 v) ∧ w = w' := by
  have hf := fun (n : Int) (w : World) => from_run n w
  have e := hv.out
  clear hv
  by_cases hn : Fl.Nan x
  · rw [Fl.on_nan hn] at e
    subst e
    have hne : (FloatKind.f64.format.order x x != some .eq) = true := by rw [Fl.neq_self]; exact decide_eq_true hn
    clear hn
    go_enter Try.func14, Try.ntmps14
    go_wp2
    go_ret
    exact ⟨rfl, rfl⟩
  · rw [Fl.on_of_not hn] at e
    subst e
    have hne : (FloatKind.f64.format.order x x != some .eq) = false := by rw [Fl.neq_self]; exact decide_eq_false hn
    clear hn
    go_enter Try.func14, Try.ntmps14
    go_wp2
    go_ret
    exact ⟨rfl, rfl⟩

theorem refOne_calls (x : Nat) (w : World) (v : Nat) (hv : Hid (Fl.on x = v)) :
    Calls Try.prog 18 #[.float .f64 x] w fun e w' => e = .returned (.float .f64 v) ∧ w = w' := by
  have hf := fun (n : Int) (w : World) => from_run n w
  have e := hv.out
  clear hv
  by_cases hn : Fl.Nan x
  · rw [Fl.on_nan hn] at e
    subst e
    have HN := Lib.hid (decide_eq_true hn)
    clear hn
    go_enter Try.func18, Try.ntmps18
    go_wp2_with (first | (go_at_call 25; (with_reducible refine (none_calls _ _ _ HN.out).mono ?_); rintro e w' ⟨rfl, rfl⟩) | (go_at_call 28; go_in))
    go_ret
    exact ⟨rfl, rfl⟩
  · rw [Fl.on_of_not hn] at e
    subst e
    have HN := Lib.hid (decide_eq_false hn)
    clear hn
    go_enter Try.func18, Try.ntmps18
    go_wp2_with (go_at_call 25; (with_reducible refine (none_calls _ _ _ HN.out).mono ?_); rintro e w' ⟨rfl, rfl⟩)
    go_ret
    exact ⟨rfl, rfl⟩

theorem mid_calls (a b : Nat) (w : World) (v : Nat) (hv : Hid (Fl.md a b = v)) :
    Calls Try.prog 27 #[.float .f64 a, .float .f64 b] w fun e w' => e = .returned (.float .f64 v) ∧ ∃ n, w' = w.drewN n := by
  have e := hv.out
  unfold Fl.md at e
  clear hv
  by_cases na : Fl.Nan a
  · rw [if_pos na] at e
    have E := Lib.hid e
    have hne : (FloatKind.f64.format.order a a != some .eq) = true := by rw [Fl.neq_self]; exact decide_eq_true na
    clear e na
    go_enter Try.func27, Try.ntmps27
    go_wp2_with (go_at_call 14; (with_reducible refine (one_calls _ _ _ E).mono ?_); rintro e w' ⟨rfl, rfl⟩)
    go_ret
    exact ⟨rfl, 0, rfl⟩
  rw [if_neg na] at e
  have hne : (FloatKind.f64.format.order a a != some .eq) = false := by rw [Fl.neq_self]; exact decide_eq_false na
  by_cases nb : Fl.Nan b
  · rw [if_pos nb] at e
    subst e
    have hnb : (FloatKind.f64.format.order b b != some .eq) = true := by rw [Fl.neq_self]; exact decide_eq_true nb
    clear na nb
    go_enter Try.func27, Try.ntmps27
    go_wp2
    go_ret
    exact ⟨rfl, 0, rfl⟩
  rw [if_neg nb] at e
  have hnb : (FloatKind.f64.format.order b b != some .eq) = false := by rw [Fl.neq_self]; exact decide_eq_false nb
  have ha := fun w => run_float_arith (P := Try.prog) w .quo 25 .f64 _ _ _ (Fl.hf_some na)
  have hb := fun w => run_float_arith (P := Try.prog) w .quo 25 .f64 _ _ _ (Fl.hf_some nb)
  rcases float_any .add (Or.inl rfl) 25 (Fl.hf a) (Fl.hf b) with ⟨r, hr⟩ | ⟨hr, g, hgn, hg⟩
  · have hs := fun w => run_float_arith (P := Try.prog) w .add 25 .f64 _ _ _ hr
    have E := Lib.hid ((Fl.fo_some hr).trans e)
    clear e hr na nb
    generalize Fl.hf a = x at *
    generalize Fl.hf b = y at *
    go_enter Try.func27, Try.ntmps27
    go_wp2_with (go_at_call 14; (with_reducible refine (one_calls _ _ _ E).mono ?_); rintro e w' ⟨rfl, rfl⟩)
    go_ret
    exact ⟨rfl, 0, rfl⟩
  · have E := fun w => Lib.hid ((Fl.fo_none hr (hgn w).1).trans e)
    clear e hr na nb hgn
    generalize Fl.hf a = x at *
    generalize Fl.hf b = y at *
    go_enter Try.func27, Try.ntmps27
    go_wp2_with (go_at_call 14; (with_reducible refine (one_calls _ _ _ (E _)).mono ?_); rintro e w' ⟨rfl, rfl⟩)
    go_ret
    exact ⟨rfl, 1, rfl⟩

theorem refMid_calls (a b : Nat) (w : World) (v : Nat) (hv : Hid (Fl.md a b = v)) :
    Calls Try.prog 29 #[.float .f64 a, .float .f64 b] w fun e w' => e = .returned (.float .f64 v) ∧ ∃ n, w' = w.drewN n := by
  have e := hv.out
  unfold Fl.md at e
  clear hv
  by_cases na : Fl.Nan a
  · rw [if_pos na] at e
    have E := Lib.hid e
    have NA := Lib.hid (decide_eq_true na)
    clear e na
    go_enter Try.func29, Try.ntmps29
    go_wp2_with (first | (go_at_call 18; (with_reducible refine (refOne_calls _ _ _ E).mono ?_); rintro e w' ⟨rfl, rfl⟩) | (go_at_call 25; (with_reducible refine (none_calls a _ _ NA.out).mono ?_); rintro e w' ⟨rfl, rfl⟩))
    go_ret
    exact ⟨rfl, 0, rfl⟩
  rw [if_neg na] at e
  have NA := Lib.hid (decide_eq_false na)
  by_cases nb : Fl.Nan b
  · rw [if_pos nb] at e
    subst e
    have NB := Lib.hid (decide_eq_true nb)
    clear na nb
    go_enter Try.func29, Try.ntmps29
    go_wp2_with (go_at_call 25; first | ((with_reducible refine (none_calls a _ _ NA.out).mono ?_); rintro e w' ⟨rfl, rfl⟩) | ((with_reducible refine (none_calls b _ _ NB.out).mono ?_); rintro e w' ⟨rfl, rfl⟩))
    go_ret
    exact ⟨rfl, 0, rfl⟩
  rw [if_neg nb] at e
  have NB := Lib.hid (decide_eq_false nb)
  have ha := fun w => run_float_arith (P := Try.prog) w .quo 25 .f64 _ _ _ (Fl.hf_some na)
  have hb := fun w => run_float_arith (P := Try.prog) w .quo 25 .f64 _ _ _ (Fl.hf_some nb)
  rcases float_any .add (Or.inl rfl) 25 (Fl.hf a) (Fl.hf b) with ⟨r, hr⟩ | ⟨hr, g, hgn, hg⟩
  · have hs := fun w => run_float_arith (P := Try.prog) w .add 25 .f64 _ _ _ hr
    have E := Lib.hid ((Fl.fo_some hr).trans e)
    clear e hr na nb
    generalize Fl.hf a = x at *
    generalize Fl.hf b = y at *
    go_enter Try.func29, Try.ntmps29
    go_wp2_with (first | (go_at_call 18; (with_reducible refine (refOne_calls _ _ _ E).mono ?_); rintro e w' ⟨rfl, rfl⟩) | (go_at_call 25; first | ((with_reducible refine (none_calls a _ _ NA.out).mono ?_); rintro e w' ⟨rfl, rfl⟩) | ((with_reducible refine (none_calls b _ _ NB.out).mono ?_); rintro e w' ⟨rfl, rfl⟩)))
    go_ret
    exact ⟨rfl, 0, rfl⟩
  · have E := fun w => Lib.hid ((Fl.fo_none hr (hgn w).1).trans e)
    clear e hr na nb hgn
    generalize Fl.hf a = x at *
    generalize Fl.hf b = y at *
    go_enter Try.func29, Try.ntmps29
    go_wp2_with (first | (go_at_call 18; (with_reducible refine (refOne_calls _ _ _ (E _)).mono ?_); rintro e w' ⟨rfl, rfl⟩) | (go_at_call 25; first | ((with_reducible refine (none_calls a _ _ NA.out).mono ?_); rintro e w' ⟨rfl, rfl⟩) | ((with_reducible refine (none_calls b _ _ NB.out).mono ?_); rintro e w' ⟨rfl, rfl⟩)))
    go_ret
    exact ⟨rfl, 1, rfl⟩

end Go.Proofs.Ytgppjajkhdhcaaa
