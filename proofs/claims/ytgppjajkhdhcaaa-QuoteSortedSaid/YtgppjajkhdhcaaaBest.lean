/- Best and Median of the program. -/
import Derived.Test.YtgppjajkhdhcaaaNumb
namespace Go.Proofs.Ytgppjajkhdhcaaa
open Go.RowKit
set_option maxHeartbeats 2000000 in
theorem best_none (w : World) (A : Option Addr) (c n : Nat) (L : List Nat) (hn : L.length = n) (hm : n ≤ 300) (hb : ∀ x ∈ L, x < 18446744073709551616) (hA : FRow w A L) (h0 : (Fl.nums L).length = 0) (high : Bool) :
    Calls Try.prog 10 #[.slice A n c, .bool high] w fun e w' => e = .returned (.tuple #[.float .f64 0, .bool false]) ∧ Below w.heap.size w w' := by
  have HC := Lib.hid (qnumbers_calls w A c n L hn hm hb hA)
  rw [h0] at HC
  clear hn hm hb hA h0
  go_enter Try.func10, Try.ntmps10
  go_wp2_with (first | (go_at_call 24; (with_reducible refine HC.out.mono ?_); rintro e w1 ⟨B, d, rfl, h1, h2⟩; have h3 := Lib.hid h2; clear h1 h2))
  go_ret2
  exact ⟨rfl, h3.out⟩
set_option maxHeartbeats 2000000 in
theorem best_some (w : World) (A : Option Addr) (c n : Nat) (L : List Nat) (hn : L.length = n) (hm : n ≤ 300) (hb : ∀ x ∈ L, x < 18446744073709551616) (hA : FRow w A L) (h0 : (Fl.nums L).length ≠ 0) (high : Bool) :
    Calls Try.prog 10 #[.slice A n c, .bool high] w fun e w' => e = .returned (.tuple #[.float .f64 (if high then (Fl.srt (Fl.nums L)).getD ((Fl.nums L).length - 1) 0 else (Fl.srt (Fl.nums L)).getD 0 0), .bool true]) ∧ Below w.heap.size w w' := by
  have HC := Lib.hid (qnumbers_calls w A c n L hn hm hb hA)
  have hpl : (Fl.srt (Fl.nums L)).length = (Fl.nums L).length := Fl.srt_length _
  have hml := Fl.nums_length L
  rw [hn] at hml
  obtain ⟨S, hS⟩ : ∃ S, Fl.srt (Fl.nums L) = S := ⟨_, rfl⟩
  obtain ⟨m, hmm⟩ : ∃ m, (Fl.nums L).length = m := ⟨_, rfl⟩
  rw [hS, hmm] at HC hpl ⊢
  rw [hmm] at h0 hml
  have HL := Lib.hid hpl
  have hmI : ((m : Int) == 0) = false := by simpa using h0
  have hm2 : ¬ ((m : Int) = 0) := by omega
  clear hS hmm hpl hn hb hA
  cases high with
  | true =>
    have hp : (0 : Int) ≤ (m : Int) - 1 := by omega
    have hp2 : (m : Int) - 1 < (m : Int) := by omega
    have hp3 : ((m : Int) - 1).toNat = m - 1 := by omega
    have hp4 : IntKind.i64.wrap ((m : Int) - 1) = (m : Int) - 1 := by rw [IntKind.wrap_i64]; omega
    have hp5 : (1 : Int) ≤ (m : Int) := by omega
    have hcell : Hid (∀ w1 B, FRow w1 B S → ∃ b o, B = some ⟨b, o, none⟩ ∧ w1.cell? ⟨b, o + (m - 1), none⟩ = some (.float .f64 (S.getD (m - 1) 0))) := Lib.hid fun w1 B h => by
      obtain ⟨b, o, rfl⟩ := h.some (i := m - 1) (by rw [HL.out]; omega)
      exact ⟨b, o, rfl, h.cell (by rw [HL.out]; omega)⟩
    go_enter Try.func10, Try.ntmps10
    go_upto_region 2 with (first | (go_at_call 24; (with_reducible refine HC.out.mono ?_); rintro e w1 ⟨B, d, rfl, h1, h2⟩; have h3 := Lib.hid h2; have h4 := Lib.hid h1; clear h1 h2))
    obtain ⟨b, o, rfl, c1⟩ := hcell.out _ _ h4.out
    obtain ⟨y, hy⟩ : ∃ y, Hid (S.getD (m - 1) 0 = y) := ⟨_, Lib.hid rfl⟩
    rw [hy.out] at c1
    clear hcell
    go_wp2
    go_ret2
    exact ⟨congrArg (fun z => Ending.returned (.tuple #[.float .f64 z, .bool true])) hy.out.symm, h3.out⟩
  | false =>
    have hcell : Hid (∀ w1 B, FRow w1 B S → ∃ b o, B = some ⟨b, o, none⟩ ∧ w1.cell? ⟨b, o, none⟩ = some (.float .f64 (S.getD 0 0))) := Lib.hid fun w1 B h => by
      obtain ⟨b, o, rfl⟩ := h.some (i := 0) (by rw [HL.out]; omega)
      exact ⟨b, o, rfl, h.cell (i := 0) (by rw [HL.out]; omega)⟩
    have hp2 : (0 : Int) < (m : Int) := by omega
    go_enter Try.func10, Try.ntmps10
    go_upto_region 2 with (first | (go_at_call 24; (with_reducible refine HC.out.mono ?_); rintro e w1 ⟨B, d, rfl, h1, h2⟩; have h3 := Lib.hid h2; have h4 := Lib.hid h1; clear h1 h2))
    obtain ⟨b, o, rfl, c1⟩ := hcell.out _ _ h4.out
    obtain ⟨y, hy⟩ : ∃ y, Hid (S.getD 0 0 = y) := ⟨_, Lib.hid rfl⟩
    rw [hy.out] at c1
    clear hcell
    go_wp2
    go_ret2
    exact ⟨congrArg (fun z => Ending.returned (.tuple #[.float .f64 z, .bool true])) hy.out.symm, h3.out⟩
theorem mathNaN_calls (w : World) : Calls Try.prog 26 #[] w fun e w' => e = .returned (.float .f64 Fl.N1) ∧ w = w' := by
  have hf := fun (n : Int) (w : World) => from_run n w
  go_enter Try.func26, Try.ntmps26
  go_wp2
  go_ret
  exact ⟨rfl, rfl⟩
set_option maxHeartbeats 2000000 in
theorem median_calls (w : World) (A : Option Addr) (c n : Nat) (L : List Nat) (hn : L.length = n) (hm : n ≤ 300) (hb : ∀ x ∈ L, x < 18446744073709551616) (hA : FRow w A L) :
    Calls Try.prog 12 #[.slice A n c] w fun e w' => e = .returned (.float .f64 (Fl.med (Fl.srt (Fl.nums L)))) ∧ Below w.heap.size w w' := by
  have hSl : (Fl.nums L).length ≤ 300 := by have := Fl.nums_length L; omega
  have HC := Lib.hid (qnumbers_calls w A c n L hn hm hb hA)
  have hlen : (Fl.srt (Fl.nums L)).length = (Fl.nums L).length := Fl.srt_length _
  obtain ⟨S, hS⟩ : ∃ S, Fl.srt (Fl.nums L) = S := ⟨_, rfl⟩
  rw [hS] at hlen HC ⊢
  rw [← hlen] at HC hSl
  obtain ⟨m, hmm⟩ : ∃ m, S.length = m := ⟨_, rfl⟩
  rw [hmm] at HC hSl
  have e0 := fun h0 : S.length = 0 => show Fl.med S = Fl.N1 by unfold Fl.med; rw [if_pos h0]
  have e1 := Fl.md_val S
  have e2 := Fl.md_two S
  rw [hmm] at e0 e1 e2
  have HM := Lib.hid hmm
  clear hS hlen hmm hA hb hn hm
  by_cases hm0 : m = 0
  · have E := Lib.hid (e0 hm0)
    subst hm0
    rw [E.out]
    clear e0 e1 e2
    have HO := Lib.hid (fun w => one_calls Fl.N1 w Fl.N1 (Lib.hid (Fl.on_nan Fl.N1_nan)))
    go_enter Try.func12, Try.ntmps12
    go_wp2_with (first
      | (go_at_call 24; (with_reducible refine HC.out.mono ?_); rintro e w1 ⟨B, d, rfl, h1, h2⟩; have h3 := Lib.hid h2; clear h1 h2)
      | (go_at_call 14; (with_reducible refine (HO.out _).mono ?_); rintro e w2 ⟨rfl, rfl⟩)
      | (go_at_call 26; (with_reducible refine (mathNaN_calls _).mono ?_); rintro e w2 ⟨rfl, rfl⟩))
    go_ret
    exact ⟨rfl, h3.out⟩
  · have hmI : ¬ ((m : Int) = 0) := by omega
    have hmb : ((m : Int) == 0) = false := by simpa using hmI
    have hq : (m : Int).tdiv 2 = ((m / 2 : Nat) : Int) := rfl
    have hr : (m : Int).tmod 2 = ((m % 2 : Nat) : Int) := rfl
    obtain ⟨q, hqq⟩ : ∃ q, m / 2 = q := ⟨_, rfl⟩
    obtain ⟨r, hrr⟩ : ∃ r, m % 2 = r := ⟨_, rfl⟩
    rw [hqq] at hq e1 e2
    rw [hrr] at hr e1 e2
    have hql : q < m := by omega
    have hqI : (q : Int) < (m : Int) := by omega
    have q0 : (0 : Int) ≤ (q : Int) := by omega
    have hcell : Hid (∀ w1 B, FRow w1 B S → ∃ b o, B = some ⟨b, o, none⟩ ∧ w1.cell? ⟨b, o + q, none⟩ = some (.float .f64 (S.getD q 0))) := Lib.hid fun w1 B h => by
      obtain ⟨b, o, rfl⟩ := h.some (i := q) (by rw [HM.out]; exact hql)
      exact ⟨b, o, rfl, h.cell (by rw [HM.out]; exact hql)⟩
    by_cases hr1 : r = 1
    · have E := Lib.hid (e1 hm0 hr1)
      rw [E.out]
      have hrI : ((r : Int) == 1) = true := by simp; omega
      have hrJ : (r : Int) = 1 := by omega
      clear e0 e1 e2 hqq hrr
      go_enter Try.func12, Try.ntmps12
      go_upto_region 2 with (first
        | (go_at_call 24; (with_reducible refine HC.out.mono ?_); rintro e w1 ⟨B, d, rfl, h1, h2⟩; have h3 := Lib.hid h2; have h4 := Lib.hid h1; clear h1 h2))
      obtain ⟨b, o, rfl, c1⟩ := hcell.out _ _ h4.out
      obtain ⟨y, hy⟩ : ∃ y, Hid (S.getD q 0 = y) := ⟨_, Lib.hid rfl⟩
      rw [hy.out] at c1
      clear hcell E
      go_wp2
      go_ret
      rw [hy.out]
      exact ⟨rfl, h3.out⟩
    · have E := Lib.hid (e2 hm0 hr1)
      rw [E.out]
      have hr0 : r = 0 := by omega
      subst hr0
      have hp : (0 : Int) ≤ (q : Int) - 1 := by omega
      have hp2 : (q : Int) - 1 < (m : Int) := by omega
      have hp3 : ((q : Int) - 1).toNat = q - 1 := by omega
      have hp4 : IntKind.i64.wrap ((q : Int) - 1) = (q : Int) - 1 := by rw [IntKind.wrap_i64]; omega
      have hp5 : (1 : Int) ≤ (q : Int) := by omega
      have hcell2 : Hid (∀ w1 b o, FRow w1 (some ⟨b, o, none⟩) S → w1.cell? ⟨b, o + (q - 1), none⟩ = some (.float .f64 (S.getD (q - 1) 0))) := Lib.hid fun w1 b o h => h.cell (by rw [HM.out]; omega)
      have HMd := Lib.hid (fun w => mid_calls (S.getD (q - 1) 0) (S.getD q 0) w _ (Lib.hid rfl))
      clear e0 e1 e2 hqq hrr hr1
      go_enter Try.func12, Try.ntmps12
      go_upto_region 2 with (first
        | (go_at_call 24; (with_reducible refine HC.out.mono ?_); rintro e w1 ⟨B, d, rfl, h1, h2⟩; have h3 := Lib.hid h2; have h4 := Lib.hid h1; clear h1 h2))
      obtain ⟨b, o, rfl, c1⟩ := hcell.out _ _ h4.out
      have c2 := hcell2.out _ _ _ h4.out
      obtain ⟨v, hmv⟩ : ∃ v, Hid (Fl.md (S.getD (q - 1) 0) (S.getD q 0) = v) := ⟨_, Lib.hid rfl⟩
      rw [hmv.out] at HMd
      have hmv2 : Hid (∀ u : Nat, u = v → Fl.md (S.getD (q - 1) 0) (S.getD q 0) = u) := Lib.hid fun u hu => hmv.out.trans hu.symm
      generalize S.getD q 0 = y at c1 HMd
      generalize S.getD (q - 1) 0 = x at c2 HMd
      clear hcell hcell2 E hmv
      go_upto_region 7 with (fail)
      go_quiet ((go_at_call 27; (with_reducible refine (HMd.out _).mono ?_); rintro e w' ⟨rfl, nd, rfl⟩; first | exact ⟨rfl, _, World.drewN_drewN _ _ _⟩ | exact ⟨rfl, _, rfl⟩))
      go_wp2
      go_ret
      rw [hmv2.out v rfl]
      exact ⟨rfl, below_draw h3.out _⟩
end Go.Proofs.Ytgppjajkhdhcaaa
