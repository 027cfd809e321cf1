/- The walk of QuoteClamps: both Clamps are Fl.cl, and once more changes nothing. -/
import Derived.Test.YtpdkjjhcpaoioaaMid
namespace Go.Proofs.Ytpdkjjhcpaoioaa
open Go.RowKit
namespace Fl
def cl (x lo hi : Nat) : Nat × Int :=
  if Nan lo then (0, 1) else if Nan hi then (0, 1) else if bl hi lo = true then (0, 1)
  else if Nan x then (9221120237041090561, 0) else if bl x lo = true then (lo, 0) else if bl hi x = true then (hi, 0) else (x, 0)
theorem bl_self (x : Nat) : bl x x = false := decide_eq_false (by omega)
theorem nan_cn : Nan 9221120237041090561 := by decide
theorem on_cn {x : Nat} (h : Nan x) : on x = 9221120237041090561 := on_nan h
/-- What is taken, once more. -/
theorem cl_again {x lo hi a : Nat} (h : cl x lo hi = (a, 0)) : cl a lo hi = (a, 0) ∧ (Nan a ∨ ¬ Nan a ∧ bl a lo = false ∧ bl hi a = false) := by
  unfold cl at h ⊢
  split at h
  · cases h
  rename_i h1
  split at h
  · cases h
  rename_i h2
  split at h
  · cases h
  rename_i h3
  rw [if_neg h1, if_neg h2, if_neg h3]
  split at h
  · injection h with h _
    subst h
    rw [if_pos nan_cn]; exact ⟨rfl, .inl nan_cn⟩
  rename_i h4
  split at h
  · injection h with h _
    subst h
    have e : bl hi lo = false := by simpa using h3
    rw [if_neg h1, bl_self, e]
    exact ⟨rfl, .inr ⟨h1, rfl, rfl⟩⟩
  rename_i h5
  split at h
  · injection h with h _
    subst h
    have e : bl hi lo = false := by simpa using h3
    rw [if_neg h2, e, bl_self]
    exact ⟨rfl, .inr ⟨h2, rfl, rfl⟩⟩
  rename_i h6
  injection h with h _
  subst h
  rw [if_neg h4, if_neg h5, if_neg h6]
  exact ⟨rfl, .inr ⟨h4, by simpa using h5, by simpa using h6⟩⟩
theorem cl_lt {x lo hi a : Nat} {e : Int} (hx : x < 18446744073709551616) (hl : lo < 18446744073709551616) (hh : hi < 18446744073709551616) (h : cl x lo hi = (a, e)) : a < 18446744073709551616 := by
  unfold cl at h
  repeat' split at h
  all_goals (injection h with h _; omega)
theorem cl_err {x lo hi a : Nat} {e : Int} (h : cl x lo hi = (a, e)) : e = 0 ∨ e = 1 ∧ a = 0 := by
  unfold cl at h
  repeat' split at h
  all_goals (injection h with h1 h2; omega)
end Fl

set_option maxHeartbeats 1000000 in
theorem clamp_calls (x lo hi : Nat) (w : World) (a : Nat) (f : Int) (hx : x < 18446744073709551616) (hl : lo < 18446744073709551616) (hh : hi < 18446744073709551616) (hv : Hid (Fl.cl x lo hi = (a, f))) :
    Calls Try.prog 29 #[.float .f64 x, .float .f64 lo, .float .f64 hi] w fun e w' => e = .returned (.tuple #[.float .f64 a, .int .i64 f]) ∧ w = w' := by
  have e := hv.out
  unfold Fl.cl at e
  clear hv
  split at e
  · rename_i h1
    injection e with e1 e2
    subst e1; subst e2
    have hne : (FloatKind.f64.format.order lo lo != some .eq) = true := by rw [Fl.neq_self]; exact decide_eq_true h1
    clear h1
    go_enter Try.func29, Try.ntmps29
    go_wp2
    go_ret2
    exact ⟨rfl, rfl⟩
  rename_i h1
  have hne : (FloatKind.f64.format.order lo lo != some .eq) = false := by rw [Fl.neq_self]; exact decide_eq_false h1
  clear h1
  split at e
  · rename_i h1
    injection e with e1 e2
    subst e1; subst e2
    have hne2 : (FloatKind.f64.format.order hi hi != some .eq) = true := by rw [Fl.neq_self]; exact decide_eq_true h1
    clear h1
    go_enter Try.func29, Try.ntmps29
    go_wp2
    go_ret2
    exact ⟨rfl, rfl⟩
  rename_i h1
  have hne2 : (FloatKind.f64.format.order hi hi != some .eq) = false := by rw [Fl.neq_self]; exact decide_eq_false h1
  clear h1
  split at e
  · rename_i h1
    injection e with e1 e2
    subst e1; subst e2
    have HL := Lib.hid h1
    clear h1
    go_enter Try.func29, Try.ntmps29
    go_wp2_with (go_at_call 19; (with_reducible refine (less_calls _ _ _ _ hh hl HL).mono ?_); rintro e w' ⟨rfl, rfl⟩)
    go_ret2
    exact ⟨rfl, rfl⟩
  rename_i h1
  have HL : Hid (Fl.bl hi lo = false) := Lib.hid (by simpa using h1)
  clear h1
  split at e
  · rename_i h1
    injection e with e1 e2
    subst e1; subst e2
    have hne3 : (FloatKind.f64.format.order x x != some .eq) = true := by rw [Fl.neq_self]; exact decide_eq_true h1
    have HO := Lib.hid (Fl.on_cn h1)
    clear h1
    go_enter Try.func29, Try.ntmps29
    go_wp2_with (first
      | (go_at_call 19; (with_reducible refine (less_calls _ _ _ _ hh hl HL).mono ?_); rintro e w' ⟨rfl, rfl⟩)
      | (go_at_call 41; (with_reducible refine (one_calls _ _ _ HO).mono ?_); rintro e w' ⟨rfl, rfl⟩))
    go_ret2
    exact ⟨rfl, rfl⟩
  rename_i h1
  have hne3 : (FloatKind.f64.format.order x x != some .eq) = false := by rw [Fl.neq_self]; exact decide_eq_false h1
  clear h1
  obtain ⟨u, hu⟩ : ∃ u, Fl.bl x lo = u := ⟨_, rfl⟩
  obtain ⟨v, hv⟩ : ∃ v, Fl.bl hi x = v := ⟨_, rfl⟩
  have HU := Lib.hid hu
  have HV := Lib.hid hv
  rw [hu, hv] at e
  clear hu hv
  cases u
  · rw [if_neg (by decide)] at e
    cases v
    · rw [if_neg (by decide)] at e
      injection e with e1 e2
      subst e1; subst e2
      go_enter Try.func29, Try.ntmps29
      go_wp2_with (go_at_call 19; first | ((with_reducible refine (less_calls hi lo _ _ hh hl HL).mono ?_); rintro e w' ⟨rfl, rfl⟩) | ((with_reducible refine (less_calls x lo _ _ hx hl HU).mono ?_); rintro e w' ⟨rfl, rfl⟩) | ((with_reducible refine (less_calls hi x _ _ hh hx HV).mono ?_); rintro e w' ⟨rfl, rfl⟩))
      go_ret2
      exact ⟨rfl, rfl⟩
    · rw [if_pos rfl] at e
      injection e with e1 e2
      subst e1; subst e2
      go_enter Try.func29, Try.ntmps29
      go_wp2_with (go_at_call 19; first | ((with_reducible refine (less_calls hi lo _ _ hh hl HL).mono ?_); rintro e w' ⟨rfl, rfl⟩) | ((with_reducible refine (less_calls x lo _ _ hx hl HU).mono ?_); rintro e w' ⟨rfl, rfl⟩) | ((with_reducible refine (less_calls hi x _ _ hh hx HV).mono ?_); rintro e w' ⟨rfl, rfl⟩))
      go_ret2
      exact ⟨rfl, rfl⟩
  · rw [if_pos rfl] at e
    injection e with e1 e2
    subst e1; subst e2
    go_enter Try.func29, Try.ntmps29
    go_wp2_with (go_at_call 19; first | ((with_reducible refine (less_calls hi lo _ _ hh hl HL).mono ?_); rintro e w' ⟨rfl, rfl⟩) | ((with_reducible refine (less_calls x lo _ _ hx hl HU).mono ?_); rintro e w' ⟨rfl, rfl⟩))
    go_ret2
    exact ⟨rfl, rfl⟩

set_option maxHeartbeats 1000000 in
theorem refClamp_calls (x lo hi : Nat) (w : World) (a : Nat) (f : Int) (hx : x < 18446744073709551616) (hl : lo < 18446744073709551616) (hh : hi < 18446744073709551616) (hv : Hid (Fl.cl x lo hi = (a, f))) :
    Calls Try.prog 30 #[.float .f64 x, .float .f64 lo, .float .f64 hi] w fun e w' => e = .returned (.tuple #[.float .f64 a, .int .i64 f]) ∧ w = w' := by
  have e := hv.out
  unfold Fl.cl at e
  clear hv
  have hf := fun (n : Int) (w : World) => from_run n w
  obtain ⟨n1, N1⟩ : ∃ v, Hid (decide (Fl.Nan lo) = v) := ⟨_, rfl⟩
  obtain ⟨n2, N2⟩ : ∃ v, Hid (decide (Fl.Nan hi) = v) := ⟨_, rfl⟩
  obtain ⟨n3, N3⟩ : ∃ v, Hid (decide (Fl.Nan x) = v) := ⟨_, rfl⟩
  obtain ⟨b1, B1⟩ : ∃ v, Hid (Fl.bl hi lo = v) := ⟨_, rfl⟩
  obtain ⟨b2, B2⟩ : ∃ v, Hid (Fl.bl x lo = v) := ⟨_, rfl⟩
  obtain ⟨b3, B3⟩ : ∃ v, Hid (Fl.bl hi x = v) := ⟨_, rfl⟩
  have c1 : Fl.Nan lo ↔ n1 = true := by rw [← N1.out, decide_eq_true_eq]
  have c2 : Fl.Nan hi ↔ n2 = true := by rw [← N2.out, decide_eq_true_eq]
  have c3 : Fl.Nan x ↔ n3 = true := by rw [← N3.out, decide_eq_true_eq]
  simp only [c1, c2, c3, B1.out, B2.out, B3.out] at e
  clear c1 c2 c3
  cases n1 <;> cases n2 <;> cases n3 <;> cases b1 <;> cases b2 <;> cases b3 <;> simp only [Bool.false_eq_true, if_true, if_false] at e
  all_goals
    injection e with e1 e2
    subst e1; subst e2
    go_enter Try.func30, Try.ntmps30
    go_wp2_with (first
      | (go_at_call 21; first | ((with_reducible refine (none_calls lo _ _ N1.out).mono ?_); rintro e w' ⟨rfl, rfl⟩) | ((with_reducible refine (none_calls hi _ _ N2.out).mono ?_); rintro e w' ⟨rfl, rfl⟩) | ((with_reducible refine (none_calls x _ _ N3.out).mono ?_); rintro e w' ⟨rfl, rfl⟩))
      | (go_at_call 20; first | ((with_reducible refine (below_calls hi lo _ _ hh hl B1).mono ?_); rintro e w' ⟨rfl, rfl⟩) | ((with_reducible refine (below_calls x lo _ _ hx hl B2).mono ?_); rintro e w' ⟨rfl, rfl⟩) | ((with_reducible refine (below_calls hi x _ _ hh hx B3).mono ?_); rintro e w' ⟨rfl, rfl⟩))
      | (go_at_call 42; go_in))
    go_ret2
    exact ⟨rfl, rfl⟩

set_option maxHeartbeats 1000000 in
theorem QuoteClamps_walk (x : Nat) (hx : (Lit.float .f64 x).wf = true) (lo : Nat) (hl : (Lit.float .f64 lo).wf = true) (hi : Nat) (hh : (Lit.float .f64 hi).wf = true) (w : World) :
    Calls Try.prog 10 #[.float .f64 x, .float .f64 lo, .float .f64 hi] w fun e w' => e = .returned (.bool true) ∧ Below w.heap.size w w' := by
  replace hx := float_lt hx
  replace hl := float_lt hl
  replace hh := float_lt hh
  obtain ⟨a, f, hv⟩ : ∃ a f, Fl.cl x lo hi = (a, f) := ⟨_, _, rfl⟩
  have ha := Fl.cl_lt hx hl hh hv
  have HA := fun (z : Nat) => Lib.hid (beq_self_eq_true (z : Int))
  rcases Fl.cl_err hv with rfl | ⟨rfl, rfl⟩
  · obtain ⟨hg, hc⟩ := Fl.cl_again hv
    have HV := Lib.hid hv
    have HG := Lib.hid hg
    clear hv hg
    rcases hc with hn | ⟨hn, h1, h2⟩
    · have N1 := Lib.hid (decide_eq_true hn)
      clear hn
      go_enter Try.func10, Try.ntmps10
      go_wp2_with (first
        | (go_at_call 29; first | ((with_reducible refine (clamp_calls x lo hi _ _ _ hx hl hh HV).mono ?_); rintro e w' ⟨rfl, rfl⟩) | ((with_reducible refine (clamp_calls a lo hi _ _ _ ha hl hh HG).mono ?_); rintro e w' ⟨rfl, rfl⟩))
        | (go_at_call 30; (with_reducible refine (refClamp_calls x lo hi _ _ _ hx hl hh HV).mono ?_); rintro e w' ⟨rfl, rfl⟩)
        | (go_at_call 18; (with_reducible refine (alike_calls _ _ _ _ (HA _)).mono ?_); rintro e w' ⟨rfl, rfl⟩)
        | (go_at_call 21; (with_reducible refine (none_calls _ _ _ N1.out).mono ?_); rintro e w' ⟨rfl, rfl⟩)
        | (go_at_call 15; (with_reducible refine (awake_calls _).mono ?_); rintro e w' ⟨rfl, n4, rfl⟩))
      go_ret
      exact ⟨rfl, below_drewN _ _⟩
    · have N1 := Lib.hid (decide_eq_false hn)
      have H1 := Lib.hid h1
      have H2 := Lib.hid h2
      clear hn h1 h2
      go_enter Try.func10, Try.ntmps10
      go_wp2_with (first
        | (go_at_call 29; first | ((with_reducible refine (clamp_calls x lo hi _ _ _ hx hl hh HV).mono ?_); rintro e w' ⟨rfl, rfl⟩) | ((with_reducible refine (clamp_calls a lo hi _ _ _ ha hl hh HG).mono ?_); rintro e w' ⟨rfl, rfl⟩))
        | (go_at_call 30; (with_reducible refine (refClamp_calls x lo hi _ _ _ hx hl hh HV).mono ?_); rintro e w' ⟨rfl, rfl⟩)
        | (go_at_call 18; (with_reducible refine (alike_calls _ _ _ _ (HA _)).mono ?_); rintro e w' ⟨rfl, rfl⟩)
        | (go_at_call 21; (with_reducible refine (none_calls _ _ _ N1.out).mono ?_); rintro e w' ⟨rfl, rfl⟩)
        | (go_at_call 19; first | ((with_reducible refine (less_calls a lo _ _ ha hl H1).mono ?_); rintro e w' ⟨rfl, rfl⟩) | ((with_reducible refine (less_calls hi a _ _ hh ha H2).mono ?_); rintro e w' ⟨rfl, rfl⟩))
        | (go_at_call 15; (with_reducible refine (awake_calls _).mono ?_); rintro e w' ⟨rfl, n4, rfl⟩))
      go_ret
      exact ⟨rfl, below_drewN _ _⟩
  · have HV := Lib.hid hv
    clear hv
    go_enter Try.func10, Try.ntmps10
    go_wp2_with (first
      | (go_at_call 29; (with_reducible refine (clamp_calls x lo hi _ _ _ hx hl hh HV).mono ?_); rintro e w' ⟨rfl, rfl⟩)
      | (go_at_call 30; (with_reducible refine (refClamp_calls x lo hi _ _ _ hx hl hh HV).mono ?_); rintro e w' ⟨rfl, rfl⟩)
      | (go_at_call 18; (with_reducible refine (alike_calls _ _ _ _ (HA _)).mono ?_); rintro e w' ⟨rfl, rfl⟩)
      | (go_at_call 15; (with_reducible refine (awake_calls _).mono ?_); rintro e w' ⟨rfl, n4, rfl⟩))
    go_ret
    exact ⟨rfl, below_drewN _ _⟩
end Go.Proofs.Ytpdkjjhcpaoioaa
