/- The walk of QuoteVwaps: the mean price by volumes is the reference's, bit by bit; what is handed in stays. -/
import Derived.Test.YtpdkjjhcpaoioaaVwap
namespace Go.Proofs.Ytpdkjjhcpaoioaa
open Go.RowKit
theorem float_info : (Try.prog.info? 22).map (fun i => (i.zero, i.size, i.bytes)) = some (some (.float .f64 0), 1, 8) := by kernel_rfl
theorem alike_quiet (x : Nat) (w : World) {n : Nat} :
    Calls Try.prog 18 #[.float .f64 x, .float .f64 x] (w.drewN n) fun e w'' => e = .returned (.bool true) ∧ ∃ m, w'' = w.drewN m :=
  (alike_calls x x _ true (Lib.hid (beq_self_eq_true (x : Int)))).mono fun _ _ h => ⟨h.1, n, h.2.symm⟩
theorem alike_quiet_add (x : Nat) (w : World) {a n : Nat} :
    Calls Try.prog 18 #[.float .f64 x, .float .f64 x] (w.drewN (a + n)) fun e w'' => e = .returned (.bool true) ∧ ∃ m, w'' = w.drewN (a + m) :=
  (alike_calls x x _ true (Lib.hid (beq_self_eq_true (x : Int)))).mono fun _ _ h => ⟨h.1, n, h.2.symm⟩
set_option maxHeartbeats 2000000 in
theorem QuoteVwaps_walk (w : World) (A : Option Addr) (n c : Nat) (Z : Nat → Nat) (_hz : ∀ j, j < n → Z j < 18446744073709551616) (hc : n ≤ c) (_hc : c ≤ maxLen) (hA : Row w A n fun j => .float .f64 (Z j)) (B : Option Addr) (m d : Nat) (Y : Nat → Nat) (_hy : ∀ j, j < m → Y j < 18446744073709551616) (_ : m ≤ d) (_ : d ≤ maxLen) (hB : Row w B m fun j => .float .f64 (Y j)) :
    Calls Try.prog 9 #[.slice A n c, .slice B m d] w fun e w' => e = .returned (.bool true) ∧ Below w.heap.size w w' := by
  by_cases h1 : 1000 < n
  · go_enter Try.func9, Try.ntmps9
    go_wp2_with (go_at_call 15; (with_reducible refine (awake_calls _).mono ?_); rintro e w' ⟨rfl, n4, rfl⟩)
    go_ret
    exact ⟨rfl, below_self _ _⟩
  by_cases h2 : 1000 < m
  · have h1' : ¬ (1000 : Int) < (n : Int) := by omega
    go_enter Try.func9, Try.ntmps9
    go_wp2_with (go_at_call 15; (with_reducible refine (awake_calls _).mono ?_); rintro e w' ⟨rfl, n4, rfl⟩)
    go_ret
    exact ⟨rfl, below_self _ _⟩
  have h3 : n ≤ 1000 := by omega
  have h4 : m ≤ 1000 := by omega
  obtain ⟨i0, hi0, hz0, hz1, hz2⟩ := info_parts float_info
  obtain ⟨v, f, hv⟩ : ∃ v f, Hid ((v, f) = if n = m then (Fl.vw Z Y n, (0 : Int)) else (0, 1)) := ⟨_, _, rfl⟩
  have HA := Lib.hid (beq_self_eq_true (v : Int))
  clear h1 h2
  go_enter Try.func9, Try.ntmps9
  go_wp2_with (at_builtin; refine wpList_append_row _ rfl (.tmp 20) (.tmp 21) _ rfl w.heap.size 22 i0 _ 1 8 Try.underlying38 hi0 hz0 hz1 hz2 rfl (by omega) (.slice none 0 0) 0 [] rfl ⟨by simp, .inl ⟨rfl, rfl⟩⟩ A n c (fun j => .float .f64 (Z j)) rfl (by rw [Nat.mul_one]; exact hA) (fun _ _ => rfl) (by simp only [maxLen]; omega) (by omega) (Nat.le_refl _) ?_; intro v1 w1 hown1 hg1 _; rw [Nat.zero_add] at hown1; obtain ⟨A1, c1, rfl, hc1, hR1⟩ := own_form hown1)
  have hb1 : Below w.heap.size w w1 := below_grown (Below.refl _ _) hg1 (by simp [Value.ownBlock])
  have hA1 := hA.below hb1
  have hB1 := hB.below hb1
  have hP1 : Row w1 A1 n fun j => .float .f64 (Z j) := by
    rw [Nat.mul_one, List.nil_append] at hR1
    refine hR1.of_eq fun j hj => ?_
    rw [List.getD_eq_getElem?_getD, List.getElem?_map, List.getElem?_range (by omega)]; rfl
  have hle : n ≤ c1 := hc1
  clear hown1 hg1 hR1 hA hB hi0 hz0 hz1 hz2 hc1
  go_wp2_with (first
    | (go_at_call 27; (with_reducible refine (vwap_calls _ _ _ _ _ _ _ _ _ _ _ h3 h4 hP1 hB1 hv).mono ?_); rintro e w' ⟨rfl, k1, rfl⟩)
    | (go_at_call 28; (with_reducible refine (refVwap_calls _ _ _ _ _ _ _ _ _ _ _ h3 h4 (hA1.drewN _) (hB1.drewN _) hv).mono ?_); rintro e w' ⟨rfl, k2, rfl⟩))
  go_loopw [10] (fun i wr => ∃ k : Nat, k ≤ n ∧ i = .int .i64 k ∧ ∃ q, wr = w1.drewN q) (fun i _ => n - (intOf i).toNat)
  case atStart => exact ⟨0, Nat.zero_le _, rfl, _, rfl⟩
  case round =>
    obtain ⟨k, hk, rfl, q, rfl⟩ := hrel
    by_cases hlt : k < n
    · obtain ⟨ba, oa, rfl, _, ca⟩ := hA1.at_ hlt
      obtain ⟨bp, op, rfl, _, cp⟩ := hP1.at_ hlt
      go_wp2
      go_quiet ((go_at_call 18; first | exact alike_quiet_add _ _ | exact alike_quiet _ _))
      go_wp2
      go_roundw
      case rel => exact ⟨k + 1, by omega, by go_num, _, rfl⟩
      case measure => simp [intOf]; omega
    · obtain rfl : k = n := by omega
      go_wp2_with (first
        | (go_at_call 18; (with_reducible refine (alike_calls _ _ _ _ HA).mono ?_); rintro e w' ⟨rfl, rfl⟩)
        | (go_at_call 15; (with_reducible refine (awake_calls _).mono ?_); rintro e w' ⟨rfl, n4, rfl⟩))
      go_ret
      exact ⟨rfl, below_draw hb1 _⟩
end Go.Proofs.Ytpdkjjhcpaoioaa
