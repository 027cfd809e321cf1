/- The walk of QuoteOrder: floats have one order, by their ranks. -/
import Derived.Test.YtpdkjjhcpaoioaaQuoteExactW
namespace Go.Proofs.Ytpdkjjhcpaoioaa
open Go.RowKit
set_option maxHeartbeats 1000000 in
theorem QuoteOrder_walk (a : Nat) (ha : (Lit.float .f64 a).wf = true) (b : Nat) (hb : (Lit.float .f64 b).wf = true) (c : Nat) (hc : (Lit.float .f64 c).wf = true) (w : World) :
    Calls Try.prog 6 #[.float .f64 a, .float .f64 b, .float .f64 c] w fun e w' => e = .returned (.bool true) ∧ Below w.heap.size w w' := by
  replace ha := float_lt ha
  replace hb := float_lt hb
  replace hc := float_lt hc
  have hs := Fl.rk_same ha hb
  obtain ⟨z, hz⟩ : ∃ z, Fl.bl b c = z := ⟨_, rfl⟩
  obtain ⟨t, ht⟩ : ∃ t, Fl.bl a c = t := ⟨_, rfl⟩
  have HZ := Lib.hid hz
  have HT := Lib.hid ht
  rcases Nat.lt_trichotomy (Fl.rk a) (Fl.rk b) with h | h | h
  · have HX : Hid (Fl.bl a b = true) := Lib.hid (decide_eq_true h)
    have HY : Hid (Fl.bl b a = false) := Lib.hid (decide_eq_false (by omega))
    have hne : ¬ (a = b ∨ Fl.Nan a ∧ Fl.Nan b) := fun g => by have := hs.2 g; omega
    have na : ¬ Fl.Nan a := fun g => by have := Fl.rk_nan g; have := Fl.rk_lt (b := b); omega
    have NA := Lib.hid (decide_eq_false na)
    obtain ⟨nb, NB⟩ : ∃ v, Hid (decide (Fl.Nan b) = v) := ⟨_, rfl⟩
    have HA : Hid (((a : Int) == (b : Int)) = false) := Lib.hid (by rw [beq_eq_false_iff_ne]; intro g; exact hne (.inl (by omega)))
    have hlt : (Fl.rk a) < (Fl.rk b) := h
    have heq : (((Fl.rk a : Nat) : Int) == ((Fl.rk b : Nat) : Int)) = false := by rw [beq_eq_false_iff_ne]; omega
    have hzt : z = true → t = true := by
      intro g; rw [← ht]; rw [← hz] at g; unfold Fl.bl at g ⊢
      exact decide_eq_true (Nat.lt_trans h (of_decide_eq_true g))
    clear hs hz ht hne na h
    cases z <;> cases t
    · clear hzt
      go_enter Try.func6, Try.ntmps6
      go_wp2_with (first
        | (go_at_call 19; first | ((with_reducible refine (less_calls a b _ _ ha hb HX).mono ?_); rintro e w' ⟨rfl, rfl⟩) | ((with_reducible refine (less_calls b a _ _ hb ha HY).mono ?_); rintro e w' ⟨rfl, rfl⟩) | ((with_reducible refine (less_calls b c _ _ hb hc HZ).mono ?_); rintro e w' ⟨rfl, rfl⟩) | ((with_reducible refine (less_calls a c _ _ ha hc HT).mono ?_); rintro e w' ⟨rfl, rfl⟩))
        | (go_at_call 20; first | ((with_reducible refine (below_calls a b _ _ ha hb HX).mono ?_); rintro e w' ⟨rfl, rfl⟩) | ((with_reducible refine (below_calls b a _ _ hb ha HY).mono ?_); rintro e w' ⟨rfl, rfl⟩))
        | (go_at_call 22; first | ((with_reducible refine (rank_calls a _ ha).mono ?_); rintro e w' ⟨rfl, rfl⟩) | ((with_reducible refine (rank_calls b _ hb).mono ?_); rintro e w' ⟨rfl, rfl⟩))
        | (go_at_call 18; (with_reducible refine (alike_calls a b _ _ HA).mono ?_); rintro e w' ⟨rfl, rfl⟩)
        | (go_at_call 21; first | ((with_reducible refine (none_calls a _ _ NA.out).mono ?_); rintro e w' ⟨rfl, rfl⟩) | ((with_reducible refine (none_calls b _ _ NB.out).mono ?_); rintro e w' ⟨rfl, rfl⟩))
        | (go_at_call 15; (with_reducible refine (awake_calls _).mono ?_); rintro e w' ⟨rfl, n3, rfl⟩))
      go_ret
      exact ⟨rfl, below_drewN _ _⟩
    · clear hzt
      go_enter Try.func6, Try.ntmps6
      go_wp2_with (first
        | (go_at_call 19; first | ((with_reducible refine (less_calls a b _ _ ha hb HX).mono ?_); rintro e w' ⟨rfl, rfl⟩) | ((with_reducible refine (less_calls b a _ _ hb ha HY).mono ?_); rintro e w' ⟨rfl, rfl⟩) | ((with_reducible refine (less_calls b c _ _ hb hc HZ).mono ?_); rintro e w' ⟨rfl, rfl⟩) | ((with_reducible refine (less_calls a c _ _ ha hc HT).mono ?_); rintro e w' ⟨rfl, rfl⟩))
        | (go_at_call 20; first | ((with_reducible refine (below_calls a b _ _ ha hb HX).mono ?_); rintro e w' ⟨rfl, rfl⟩) | ((with_reducible refine (below_calls b a _ _ hb ha HY).mono ?_); rintro e w' ⟨rfl, rfl⟩))
        | (go_at_call 22; first | ((with_reducible refine (rank_calls a _ ha).mono ?_); rintro e w' ⟨rfl, rfl⟩) | ((with_reducible refine (rank_calls b _ hb).mono ?_); rintro e w' ⟨rfl, rfl⟩))
        | (go_at_call 18; (with_reducible refine (alike_calls a b _ _ HA).mono ?_); rintro e w' ⟨rfl, rfl⟩)
        | (go_at_call 21; first | ((with_reducible refine (none_calls a _ _ NA.out).mono ?_); rintro e w' ⟨rfl, rfl⟩) | ((with_reducible refine (none_calls b _ _ NB.out).mono ?_); rintro e w' ⟨rfl, rfl⟩))
        | (go_at_call 15; (with_reducible refine (awake_calls _).mono ?_); rintro e w' ⟨rfl, n3, rfl⟩))
      go_ret
      exact ⟨rfl, below_drewN _ _⟩
    · exact absurd (hzt rfl) (by decide)
    · clear hzt
      go_enter Try.func6, Try.ntmps6
      go_wp2_with (first
        | (go_at_call 19; first | ((with_reducible refine (less_calls a b _ _ ha hb HX).mono ?_); rintro e w' ⟨rfl, rfl⟩) | ((with_reducible refine (less_calls b a _ _ hb ha HY).mono ?_); rintro e w' ⟨rfl, rfl⟩) | ((with_reducible refine (less_calls b c _ _ hb hc HZ).mono ?_); rintro e w' ⟨rfl, rfl⟩) | ((with_reducible refine (less_calls a c _ _ ha hc HT).mono ?_); rintro e w' ⟨rfl, rfl⟩))
        | (go_at_call 20; first | ((with_reducible refine (below_calls a b _ _ ha hb HX).mono ?_); rintro e w' ⟨rfl, rfl⟩) | ((with_reducible refine (below_calls b a _ _ hb ha HY).mono ?_); rintro e w' ⟨rfl, rfl⟩))
        | (go_at_call 22; first | ((with_reducible refine (rank_calls a _ ha).mono ?_); rintro e w' ⟨rfl, rfl⟩) | ((with_reducible refine (rank_calls b _ hb).mono ?_); rintro e w' ⟨rfl, rfl⟩))
        | (go_at_call 18; (with_reducible refine (alike_calls a b _ _ HA).mono ?_); rintro e w' ⟨rfl, rfl⟩)
        | (go_at_call 21; first | ((with_reducible refine (none_calls a _ _ NA.out).mono ?_); rintro e w' ⟨rfl, rfl⟩) | ((with_reducible refine (none_calls b _ _ NB.out).mono ?_); rintro e w' ⟨rfl, rfl⟩))
        | (go_at_call 15; (with_reducible refine (awake_calls _).mono ?_); rintro e w' ⟨rfl, n3, rfl⟩))
      go_ret
      exact ⟨rfl, below_drewN _ _⟩
  · have HX : Hid (Fl.bl a b = false) := Lib.hid (decide_eq_false (by omega))
    have HY : Hid (Fl.bl b a = false) := Lib.hid (decide_eq_false (by omega))
    have hlt : ¬ (Fl.rk a) < (Fl.rk b) := by omega
    have heq : (((Fl.rk a : Nat) : Int) == ((Fl.rk b : Nat) : Int)) = true := by rw [beq_iff_eq]; omega
    by_cases hab : a = b
    · have HA : Hid (((a : Int) == (b : Int)) = true) := Lib.hid (by rw [beq_iff_eq]; omega)
      clear hs hz ht h hab
      go_enter Try.func6, Try.ntmps6
      go_wp2_with (first
        | (go_at_call 19; first | ((with_reducible refine (less_calls a b _ _ ha hb HX).mono ?_); rintro e w' ⟨rfl, rfl⟩) | ((with_reducible refine (less_calls b a _ _ hb ha HY).mono ?_); rintro e w' ⟨rfl, rfl⟩) | ((with_reducible refine (less_calls b c _ _ hb hc HZ).mono ?_); rintro e w' ⟨rfl, rfl⟩) | ((with_reducible refine (less_calls a c _ _ ha hc HT).mono ?_); rintro e w' ⟨rfl, rfl⟩))
        | (go_at_call 20; first | ((with_reducible refine (below_calls a b _ _ ha hb HX).mono ?_); rintro e w' ⟨rfl, rfl⟩) | ((with_reducible refine (below_calls b a _ _ hb ha HY).mono ?_); rintro e w' ⟨rfl, rfl⟩))
        | (go_at_call 22; first | ((with_reducible refine (rank_calls a _ ha).mono ?_); rintro e w' ⟨rfl, rfl⟩) | ((with_reducible refine (rank_calls b _ hb).mono ?_); rintro e w' ⟨rfl, rfl⟩))
        | (go_at_call 18; (with_reducible refine (alike_calls a b _ _ HA).mono ?_); rintro e w' ⟨rfl, rfl⟩)
        | (go_at_call 21; first | ((with_reducible refine (none_calls a _ _ NA.out).mono ?_); rintro e w' ⟨rfl, rfl⟩) | ((with_reducible refine (none_calls b _ _ NB.out).mono ?_); rintro e w' ⟨rfl, rfl⟩))
        | (go_at_call 15; (with_reducible refine (awake_calls _).mono ?_); rintro e w' ⟨rfl, n3, rfl⟩))
      go_ret
      exact ⟨rfl, below_drewN _ _⟩
    · have HA : Hid (((a : Int) == (b : Int)) = false) := Lib.hid (by rw [beq_eq_false_iff_ne]; omega)
      rcases hs.1 h with g | ⟨g1, g2⟩
      · exact absurd g hab
      have NA := Lib.hid (decide_eq_true g1)
      have NB := Lib.hid (decide_eq_true g2)
      clear hs hz ht h hab g1 g2
      go_enter Try.func6, Try.ntmps6
      go_wp2_with (first
        | (go_at_call 19; first | ((with_reducible refine (less_calls a b _ _ ha hb HX).mono ?_); rintro e w' ⟨rfl, rfl⟩) | ((with_reducible refine (less_calls b a _ _ hb ha HY).mono ?_); rintro e w' ⟨rfl, rfl⟩) | ((with_reducible refine (less_calls b c _ _ hb hc HZ).mono ?_); rintro e w' ⟨rfl, rfl⟩) | ((with_reducible refine (less_calls a c _ _ ha hc HT).mono ?_); rintro e w' ⟨rfl, rfl⟩))
        | (go_at_call 20; first | ((with_reducible refine (below_calls a b _ _ ha hb HX).mono ?_); rintro e w' ⟨rfl, rfl⟩) | ((with_reducible refine (below_calls b a _ _ hb ha HY).mono ?_); rintro e w' ⟨rfl, rfl⟩))
        | (go_at_call 22; first | ((with_reducible refine (rank_calls a _ ha).mono ?_); rintro e w' ⟨rfl, rfl⟩) | ((with_reducible refine (rank_calls b _ hb).mono ?_); rintro e w' ⟨rfl, rfl⟩))
        | (go_at_call 18; (with_reducible refine (alike_calls a b _ _ HA).mono ?_); rintro e w' ⟨rfl, rfl⟩)
        | (go_at_call 21; first | ((with_reducible refine (none_calls a _ _ NA.out).mono ?_); rintro e w' ⟨rfl, rfl⟩) | ((with_reducible refine (none_calls b _ _ NB.out).mono ?_); rintro e w' ⟨rfl, rfl⟩))
        | (go_at_call 15; (with_reducible refine (awake_calls _).mono ?_); rintro e w' ⟨rfl, n3, rfl⟩))
      go_ret
      exact ⟨rfl, below_drewN _ _⟩
  · have HX : Hid (Fl.bl a b = false) := Lib.hid (decide_eq_false (by omega))
    have HY : Hid (Fl.bl b a = true) := Lib.hid (decide_eq_true h)
    have hne : ¬ (a = b ∨ Fl.Nan a ∧ Fl.Nan b) := fun g => by have := hs.2 g; omega
    have nb : ¬ Fl.Nan b := fun g => by have := Fl.rk_nan g; have := Fl.rk_lt (b := a); omega
    have NB := Lib.hid (decide_eq_false nb)
    have HA : Hid (((a : Int) == (b : Int)) = false) := Lib.hid (by rw [beq_eq_false_iff_ne]; intro g; exact hne (.inl (by omega)))
    have hlt : ¬ (Fl.rk a) < (Fl.rk b) := by omega
    have heq : (((Fl.rk a : Nat) : Int) == ((Fl.rk b : Nat) : Int)) = false := by rw [beq_eq_false_iff_ne]; omega
    clear hs hz ht hne nb h
    by_cases na : Fl.Nan a
    · have NA := Lib.hid (decide_eq_true na)
      clear na
      go_enter Try.func6, Try.ntmps6
      go_wp2_with (first
        | (go_at_call 19; first | ((with_reducible refine (less_calls a b _ _ ha hb HX).mono ?_); rintro e w' ⟨rfl, rfl⟩) | ((with_reducible refine (less_calls b a _ _ hb ha HY).mono ?_); rintro e w' ⟨rfl, rfl⟩) | ((with_reducible refine (less_calls b c _ _ hb hc HZ).mono ?_); rintro e w' ⟨rfl, rfl⟩) | ((with_reducible refine (less_calls a c _ _ ha hc HT).mono ?_); rintro e w' ⟨rfl, rfl⟩))
        | (go_at_call 20; first | ((with_reducible refine (below_calls a b _ _ ha hb HX).mono ?_); rintro e w' ⟨rfl, rfl⟩) | ((with_reducible refine (below_calls b a _ _ hb ha HY).mono ?_); rintro e w' ⟨rfl, rfl⟩))
        | (go_at_call 22; first | ((with_reducible refine (rank_calls a _ ha).mono ?_); rintro e w' ⟨rfl, rfl⟩) | ((with_reducible refine (rank_calls b _ hb).mono ?_); rintro e w' ⟨rfl, rfl⟩))
        | (go_at_call 18; (with_reducible refine (alike_calls a b _ _ HA).mono ?_); rintro e w' ⟨rfl, rfl⟩)
        | (go_at_call 21; first | ((with_reducible refine (none_calls a _ _ NA.out).mono ?_); rintro e w' ⟨rfl, rfl⟩) | ((with_reducible refine (none_calls b _ _ NB.out).mono ?_); rintro e w' ⟨rfl, rfl⟩))
        | (go_at_call 15; (with_reducible refine (awake_calls _).mono ?_); rintro e w' ⟨rfl, n3, rfl⟩))
      go_ret
      exact ⟨rfl, below_drewN _ _⟩
    · have NA := Lib.hid (decide_eq_false na)
      clear na
      go_enter Try.func6, Try.ntmps6
      go_wp2_with (first
        | (go_at_call 19; first | ((with_reducible refine (less_calls a b _ _ ha hb HX).mono ?_); rintro e w' ⟨rfl, rfl⟩) | ((with_reducible refine (less_calls b a _ _ hb ha HY).mono ?_); rintro e w' ⟨rfl, rfl⟩) | ((with_reducible refine (less_calls b c _ _ hb hc HZ).mono ?_); rintro e w' ⟨rfl, rfl⟩) | ((with_reducible refine (less_calls a c _ _ ha hc HT).mono ?_); rintro e w' ⟨rfl, rfl⟩))
        | (go_at_call 20; first | ((with_reducible refine (below_calls a b _ _ ha hb HX).mono ?_); rintro e w' ⟨rfl, rfl⟩) | ((with_reducible refine (below_calls b a _ _ hb ha HY).mono ?_); rintro e w' ⟨rfl, rfl⟩))
        | (go_at_call 22; first | ((with_reducible refine (rank_calls a _ ha).mono ?_); rintro e w' ⟨rfl, rfl⟩) | ((with_reducible refine (rank_calls b _ hb).mono ?_); rintro e w' ⟨rfl, rfl⟩))
        | (go_at_call 18; (with_reducible refine (alike_calls a b _ _ HA).mono ?_); rintro e w' ⟨rfl, rfl⟩)
        | (go_at_call 21; first | ((with_reducible refine (none_calls a _ _ NA.out).mono ?_); rintro e w' ⟨rfl, rfl⟩) | ((with_reducible refine (none_calls b _ _ NB.out).mono ?_); rintro e w' ⟨rfl, rfl⟩))
        | (go_at_call 15; (with_reducible refine (awake_calls _).mono ?_); rintro e w' ⟨rfl, n3, rfl⟩))
      go_ret
      exact ⟨rfl, below_drewN _ _⟩
end Go.Proofs.Ytpdkjjhcpaoioaa
