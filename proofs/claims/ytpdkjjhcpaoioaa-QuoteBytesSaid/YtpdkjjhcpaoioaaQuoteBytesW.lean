/- The walk of QuoteBytes: eight bytes and back, and what other bytes are refused. -/
import Derived.Test.YtpdkjjhcpaoioaaBytes
import Derived.WideShapes
namespace Go.Proofs.Ytpdkjjhcpaoioaa
open Go.RowKit
namespace Fl
theorem on_lt {x : Nat} (h : x < 18446744073709551616) : on x < 18446744073709551616 := by unfold on; split <;> omega
theorem of_bytes {x : Nat} (h : x < 18446744073709551616) : of_ (strOfNums (b8 (on x))) = (on x, 0) := by
  unfold of_
  have hs : (strOfNums (b8 (on x))).size = 8 := by rw [strOfNums_size, b8_length]
  rw [hs, if_neg (by omega), if_neg (by omega), dk_b8 (on_lt h), if_neg]
  rintro ⟨h1, h2⟩
  unfold on at h1 h2
  split at h2
  · exact h2 rfl
  · rename_i hn; rw [if_neg hn] at h1; exact hn h1
theorem nan_high {s : ByteArray} (h : Nan (dk s 8)) : bits .and .u8 (by_ s 7 : Int) 127 = 127 ∧ (by_ s 6 : Int) / 16 = 15 := by
  have hd := dk_lt s 8
  have h7 := dk_digit s 8 7 (by omega)
  have h6 := dk_digit s 8 6 (by omega)
  have hb7 := by_lt s 7
  have hb6 := by_lt s 6
  have hand := u8_and_nat (by_ s 7) 127 hb7 (by omega)
  rw [show ((127 : Nat) : Int) = 127 from rfl, nat_mask7] at hand
  rw [hand]
  clear hand
  generalize dk s 8 = d at *
  unfold Nan rg at h
  constructor
  · have : by_ s 7 % 128 = 127 := by omega
    rw [this]; rfl
  · omega
end Fl

theorem nan_calls (w : World) : Calls Try.prog 33 #[] w fun e w' => e = .returned (.float .f64 9221120237041090561) ∧ w = w' := by
  have hf := fun (n : Int) (w : World) => from_run n w
  go_enter Try.func33, Try.ntmps33
  go_wp2
  go_ret
  exact ⟨rfl, rfl⟩

theorem below_then {w w1 w2 : World} (h1 : Below w.heap.size w w1) (h2 : Below w1.heap.size w1 w2) : Below w.heap.size w w2 := h1.trans (h2.mono h1.size)
theorem below_drew {w w1 : World} (h1 : Below w.heap.size w w1) (n : Nat) : Below w.heap.size w (w1.drewN n) := below_then h1 (below_drewN _ _)

set_option maxHeartbeats 2000000 in
theorem QuoteBytes_walk (x : Nat) (hx : (Lit.float .f64 x).wf = true) (s : ByteArray) (_hs : s.size ≤ 140737488351232) (w : World) :
    Calls Try.prog 11 #[.float .f64 x, .string s] w fun e w' => e = .returned (.bool true) ∧ Below w.heap.size w w' := by
  replace hx := float_lt hx
  have hof := Lib.hid (Fl.of_bytes hx)
  have hsz : (strOfNums (Fl.b8 (Fl.on x))).size = 8 := by rw [strOfNums_size, Fl.b8_length]
  have HS := Lib.hid hsz
  obtain ⟨v, hv⟩ : ∃ v, Hid (Fl.on x = v) := ⟨_, rfl⟩
  rw [hv.out] at hof HS
  have HA := Lib.hid (beq_self_eq_true (v : Int))
  clear hsz hx
  obtain ⟨b, HB⟩ : ∃ b, Hid (b = strOfNums (Fl.b8 v)) := ⟨_, rfl⟩
  have hb := fun w => bytes_calls x w v hv
  rw [← HB.out] at hof HS hb
  obtain ⟨z, f, hz⟩ : ∃ z f, Fl.of_ s = (z, f) := ⟨_, _, rfl⟩
  have HZ := Lib.hid hz
  unfold Fl.of_ at hz
  have e8 : (b.size : Int) = 8 := by rw [HS.out]; rfl
  split at hz
  · rename_i h1
    injection hz with e1 e2
    subst e1; subst e2
    have z0 : (FloatKind.f64.format.order 0 0 == some .eq) = true := by decide +kernel
    go_enter Try.func11, Try.ntmps11
    go_wp2_with (first
      | (go_at_call 31; first | ((with_reducible refine (hb _).mono ?_); rintro e w1 ⟨rfl, hb1⟩))
      | (go_at_call 32; first | ((with_reducible refine (of_calls b _ _ _ hof).mono ?_); rintro e w' ⟨rfl, rfl⟩) | ((with_reducible refine (of_calls s _ _ _ HZ).mono ?_); rintro e w' ⟨rfl, rfl⟩))
      | (go_at_call 26; (with_reducible refine (refOne_calls _ _ _ hv).mono ?_); rintro e w' ⟨rfl, rfl⟩)
      | (go_at_call 18; (with_reducible refine (alike_calls _ _ _ _ HA).mono ?_); rintro e w' ⟨rfl, rfl⟩)
      | (go_at_call 33; (with_reducible refine (nan_calls _).mono ?_); rintro e w' ⟨rfl, rfl⟩)
      | (go_at_call 15; (with_reducible refine (awake_calls _).mono ?_); rintro e w' ⟨rfl, n4, rfl⟩))
    go_ret
    exact ⟨rfl, below_drew hb1 _⟩
  rename_i h1
  split at hz
  · rename_i h2
    injection hz with e1 e2
    subst e1; subst e2
    have z0 : (FloatKind.f64.format.order 0 0 == some .eq) = true := by decide +kernel
    go_enter Try.func11, Try.ntmps11
    go_wp2_with (first
      | (go_at_call 31; first | ((with_reducible refine (hb _).mono ?_); rintro e w1 ⟨rfl, hb1⟩))
      | (go_at_call 32; first | ((with_reducible refine (of_calls b _ _ _ hof).mono ?_); rintro e w' ⟨rfl, rfl⟩) | ((with_reducible refine (of_calls s _ _ _ HZ).mono ?_); rintro e w' ⟨rfl, rfl⟩))
      | (go_at_call 26; (with_reducible refine (refOne_calls _ _ _ hv).mono ?_); rintro e w' ⟨rfl, rfl⟩)
      | (go_at_call 18; (with_reducible refine (alike_calls _ _ _ _ HA).mono ?_); rintro e w' ⟨rfl, rfl⟩)
      | (go_at_call 33; (with_reducible refine (nan_calls _).mono ?_); rintro e w' ⟨rfl, rfl⟩)
      | (go_at_call 15; (with_reducible refine (awake_calls _).mono ?_); rintro e w' ⟨rfl, n4, rfl⟩))
    go_ret
    exact ⟨rfl, below_drew hb1 _⟩
  rename_i h2
  have h3 : s.size = 8 := by omega
  split at hz
  · rename_i h4
    injection hz with e1 e2
    subst e1; subst e2
    have z0 : (FloatKind.f64.format.order 0 0 == some .eq) = true := by decide +kernel
    have hc := fun w => bytes_calls 9221120237041090561 w 9221120237041090561 (Lib.hid (Fl.on_nan (by decide : Fl.Nan 9221120237041090561)))
    obtain ⟨c, HC⟩ : ∃ c, Hid (c = strOfNums (Fl.b8 9221120237041090561)) := ⟨_, rfl⟩
    rw [← HC.out] at hc
    have hne : s ≠ c := by
      rintro rfl
      apply h4.2
      have := Fl.dk_b8 (v := 9221120237041090561) (by omega)
      rwa [← HC.out] at this
    have hsc : (s.toList == c.toList) = false := by
      rw [beq_eq_false_iff_ne, ByteArray.toList_eq, ByteArray.toList_eq]
      exact fun g => hne (WideShapes.bytes_inj g)
    obtain ⟨n1, n2⟩ := Fl.nan_high h4.1
    have i7 : 7 < s.size := by omega
    have i6 : 6 < s.size := by omega
    have g7 : Fl.by_ s 7 = s[7].toNat := by
      unfold Fl.by_; rw [List.getD_eq_getElem?_getD, List.getElem?_eq_getElem (show 7 < s.data.toList.length from i7)]; rfl
    have g6 : Fl.by_ s 6 = s[6].toNat := by
      unfold Fl.by_; rw [List.getD_eq_getElem?_getD, List.getElem?_eq_getElem (show 6 < s.data.toList.length from i6)]; rfl
    rw [g7] at n1
    rw [g6] at n2
    have l7 : ¬ s.size < 8 := by omega
    have l8 : ¬ 8 < s.size := by omega
    clear h4 hne g7 g6 h3
    go_enter Try.func11, Try.ntmps11
    go_wp2_with (first
      | (go_at_call 31; first | ((with_reducible refine (hb _).mono ?_); rintro e w1 ⟨rfl, hb1⟩) | ((with_reducible refine (hc _).mono ?_); rintro e w2 ⟨rfl, hb2⟩))
      | (go_at_call 32; first | ((with_reducible refine (of_calls b _ _ _ hof).mono ?_); rintro e w' ⟨rfl, rfl⟩) | ((with_reducible refine (of_calls s _ _ _ HZ).mono ?_); rintro e w' ⟨rfl, rfl⟩))
      | (go_at_call 26; (with_reducible refine (refOne_calls _ _ _ hv).mono ?_); rintro e w' ⟨rfl, rfl⟩)
      | (go_at_call 18; (with_reducible refine (alike_calls _ _ _ _ HA).mono ?_); rintro e w' ⟨rfl, rfl⟩)
      | (go_at_call 33; (with_reducible refine (nan_calls _).mono ?_); rintro e w' ⟨rfl, rfl⟩)
      | (go_at_call 15; (with_reducible refine (awake_calls _).mono ?_); rintro e w' ⟨rfl, n4, rfl⟩))
    go_ret
    exact ⟨rfl, below_drew (below_then hb1 hb2) _⟩
  · rename_i h4
    injection hz with e1 e2
    subst e1; subst e2
    have hon : Fl.on (Fl.dk s 8) = Fl.dk s 8 := by
      unfold Fl.on
      by_cases hn : Fl.Nan (Fl.dk s 8)
      · rw [if_pos hn]
        exact (Classical.not_not.1 (fun g => h4 ⟨hn, g⟩)).symm
      · rw [if_neg hn]
    have hc := fun w => bytes_calls (Fl.dk s 8) w (Fl.dk s 8) (Lib.hid hon)
    rw [Fl.b8_dk h3] at hc
    have hss : (s.toList == s.toList) = true := beq_self_eq_true _
    have l7 : ¬ s.size < 8 := by omega
    have l8 : ¬ 8 < s.size := by omega
    clear h4 hon h3
    generalize Fl.dk s 8 = d at *
    go_enter Try.func11, Try.ntmps11
    go_wp2_with (first
      | (go_at_call 31; first | ((with_reducible refine (hb _).mono ?_); rintro e w1 ⟨rfl, hb1⟩) | ((with_reducible refine (hc _).mono ?_); rintro e w2 ⟨rfl, hb2⟩))
      | (go_at_call 32; first | ((with_reducible refine (of_calls b _ _ _ hof).mono ?_); rintro e w' ⟨rfl, rfl⟩) | ((with_reducible refine (of_calls s _ _ _ HZ).mono ?_); rintro e w' ⟨rfl, rfl⟩))
      | (go_at_call 26; (with_reducible refine (refOne_calls _ _ _ hv).mono ?_); rintro e w' ⟨rfl, rfl⟩)
      | (go_at_call 18; (with_reducible refine (alike_calls _ _ _ _ HA).mono ?_); rintro e w' ⟨rfl, rfl⟩)
      | (go_at_call 33; (with_reducible refine (nan_calls _).mono ?_); rintro e w' ⟨rfl, rfl⟩)
      | (go_at_call 15; (with_reducible refine (awake_calls _).mono ?_); rintro e w' ⟨rfl, n4, rfl⟩))
    go_ret
    exact ⟨rfl, below_drew (below_then hb1 hb2) _⟩
end Go.Proofs.Ytpdkjjhcpaoioaa
