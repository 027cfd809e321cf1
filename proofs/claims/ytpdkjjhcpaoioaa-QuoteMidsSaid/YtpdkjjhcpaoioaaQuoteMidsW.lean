/- The walk of QuoteMids: the middle and the spread are the reference's, bit by bit. -/
import Derived.Test.YtpdkjjhcpaoioaaMid
namespace Go.Proofs.Ytpdkjjhcpaoioaa
open Go.RowKit
set_option maxHeartbeats 400000 in
theorem QuoteMids_walk (a : Nat) (_ha : (Lit.float .f64 a).wf = true) (b : Nat) (_hb : (Lit.float .f64 b).wf = true) (w : World) :
    Calls Try.prog 8 #[.float .f64 a, .float .f64 b] w fun e w' => e = .returned (.bool true) ∧ Below w.heap.size w w' := by
  obtain ⟨v, hv⟩ : ∃ v, Hid (Fl.md a b = v) := ⟨_, rfl⟩
  obtain ⟨s, hs⟩ : ∃ s, Hid (Fl.fo .sub b a = s) := ⟨_, rfl⟩
  have hA := fun (x : Nat) => Lib.hid (beq_self_eq_true (x : Int))
  rcases float_any .sub (Or.inr (Or.inl rfl)) 22 b a with ⟨r, hr⟩ | ⟨hr, g, hgn, hg⟩
  · have hx := fun w => run_float_arith (P := Try.prog) w .sub 22 .f64 _ _ _ hr
    have E := Lib.hid ((Fl.fo_some hr).trans hs.out)
    clear hr
    go_enter Try.func8, Try.ntmps8
    go_wp2_with (first
      | (go_at_call 23; (with_reducible refine (mid_calls _ _ _ _ hv).mono ?_); rintro e w' ⟨rfl, n1, rfl⟩)
      | (go_at_call 24; (with_reducible refine (refMid_calls _ _ _ _ hv).mono ?_); rintro e w' ⟨rfl, n2, rfl⟩)
      | (go_at_call 18; (with_reducible refine (alike_calls _ _ _ _ (hA _)).mono ?_); rintro e w' ⟨rfl, rfl⟩)
      | (go_at_call 25; (with_reducible refine (spread_calls _ _ _ _ hs).mono ?_); rintro e w' ⟨rfl, n3, rfl⟩)
      | (go_at_call 26; (with_reducible refine (refOne_calls _ _ _ E).mono ?_); rintro e w' ⟨rfl, rfl⟩)
      | (go_at_call 15; (with_reducible refine (awake_calls _).mono ?_); rintro e w' ⟨rfl, n4, rfl⟩))
    go_ret
    exact ⟨rfl, below_drewN _ _⟩
  · have E := fun w => Lib.hid ((Fl.fo_none hr (hgn w).1).trans hs.out)
    clear hr hgn
    go_enter Try.func8, Try.ntmps8
    go_wp2_with (first
      | (go_at_call 23; (with_reducible refine (mid_calls _ _ _ _ hv).mono ?_); rintro e w' ⟨rfl, n1, rfl⟩)
      | (go_at_call 24; (with_reducible refine (refMid_calls _ _ _ _ hv).mono ?_); rintro e w' ⟨rfl, n2, rfl⟩)
      | (go_at_call 18; (with_reducible refine (alike_calls _ _ _ _ (hA _)).mono ?_); rintro e w' ⟨rfl, rfl⟩)
      | (go_at_call 25; (with_reducible refine (spread_calls _ _ _ _ hs).mono ?_); rintro e w' ⟨rfl, n3, rfl⟩)
      | (go_at_call 26; (with_reducible refine (refOne_calls _ _ _ (E _)).mono ?_); rintro e w' ⟨rfl, rfl⟩)
      | (go_at_call 15; (with_reducible refine (awake_calls _).mono ?_); rintro e w' ⟨rfl, n4, rfl⟩))
    go_ret
    exact ⟨rfl, below_drewN _ _⟩
end Go.Proofs.Ytpdkjjhcpaoioaa
