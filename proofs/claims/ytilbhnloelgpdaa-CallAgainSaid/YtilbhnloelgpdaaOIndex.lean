/- slices.IndexFunc at orders and rights' own function. -/
import Derived.Test.YtilbhnloelgpdaaORights1
namespace Go.Proofs.Ytilbhnloelgpdaa
open Go.RowKit
set_option linter.unusedVariables false
set_option linter.unusedSimpArgs false
/-- So many orders in front are right. -/
def lead (L : List Ord) : Nat := (L.takeWhile Ord.right).length
theorem lead_le (L : List Ord) : lead L ≤ L.length := (List.takeWhile_sublist _).length_le
theorem lead_stop : ∀ (L : List Ord) (i : Nat), i < L.length → (∀ j, j < i → (L.getD j ord0).right = true) → (L.getD i ord0).right = false → lead L = i
  | [], i, h, _, _ => by simp at h
  | o :: l, 0, _, _, h2 => by
    unfold lead
    rw [List.takeWhile_cons_of_neg (by simpa using h2)]; rfl
  | o :: l, i + 1, h, h1, h2 => by
    have h0 : o.right = true := h1 0 (by omega)
    have := lead_stop l i (by simpa using h) (fun j hj => h1 (j + 1) (by omega)) (by simpa using h2)
    unfold lead at *
    rw [List.takeWhile_cons_of_pos h0, List.length_cons, this]
theorem lead_all : ∀ (L : List Ord), (∀ j, j < L.length → (L.getD j ord0).right = true) → lead L = L.length
  | [], _ => rfl
  | o :: l, h => by
    have h0 : o.right = true := h 0 (by simp)
    have := lead_all l fun j hj => h (j + 1) (by simpa using hj)
    unfold lead at *
    rw [List.takeWhile_cons_of_pos h0, List.length_cons, this, List.length_cons]
set_option maxHeartbeats 2000000 in
theorem index_calls (w : World) (A : Option Addr) (L : List Ord) (c : Nat) (h : ORow w A L) (hl : L.length ≤ 64) :
    Calls Try.prog 62 #[.slice A L.length c, .func (.func 58) #[] #[]] w (Told w (.int .i64 (if lead L = L.length then -1 else (lead L : Int)))) := by
  have H := Lib.hid h
  obtain ⟨m, hm⟩ : ∃ m, Hid (L.length = m) := ⟨_, Lib.hid rfl⟩
  have HR := Lib.hid (fun wx o => wrong_calls wx o)
  have HS := Lib.hid (lead_stop L)
  have HA := Lib.hid (lead_all L)
  obtain ⟨d, hd⟩ : ∃ d, Hid (lead L = d) := ⟨_, Lib.hid rfl⟩
  rw [hm.out] at hl HS HA ⊢
  rw [hd.out] at HS HA ⊢
  obtain ⟨R, hR⟩ : ∃ R, Hid ((if d = m then -1 else (d : Int)) = R) := ⟨_, Lib.hid rfl⟩
  rw [hR.out]
  clear h
  go_enter Try.func62, Try.ntmps62
  go_wp2
  go_loopg [5, 8] (m + 1) (fun gk s5 s8 wr => ∃ i : Nat, gk = m + 1 - i ∧ i ≤ m ∧ s8 = .int .i64 (i : Int) ∧ Hid (∀ j, j < i → (L.getD j ord0).right = true) ∧ Hid (Below w.heap.size w wr))
  case atStart => exact ⟨0, rfl, Nat.zero_le _, rfl, Lib.hid fun j hj => absurd hj (Nat.not_lt_zero _), Lib.hid (Below.refl _ _)⟩
  case round =>
    obtain ⟨i, rfl, hi, rfl, hal, hb⟩ := hrel
    have i0 : (0 : Int) ≤ (i : Int) := by omega
    by_cases hlt : i < m
    · have hltI : (i : Int) < (m : Int) := by omega
      have hlL : Hid (i < L.length) := Lib.hid (by rw [hm.out]; exact hlt)
      obtain ⟨b, o, rfl⟩ : ∃ b o, A = some ⟨b, o, none⟩ := by
        obtain ⟨b, o, e, _⟩ := H.out.cells hlL.out
        exact ⟨b, o, e⟩
      have HC := Lib.hid (fun wx hh => ORow.six H.out hlL.out (w' := wx) hh)
      have HRr := Lib.hid (fun wx => HR.out wx (L.getD i ord0))
      have HSt := Lib.hid (HS.out i hlt hal.out)
      have HNx : Hid ((L.getD i ord0).right = true → ∀ j, j < i + 1 → (L.getD j ord0).right = true) := Lib.hid fun hr j hj => by
        rcases Nat.lt_or_eq_of_le (Nat.le_of_lt_succ hj) with h | h
        · exact hal.out j h
        · rw [h]; exact hr
      have HM := Lib.hid (show m + 1 - (i + 1) < m + 1 - i by omega)
      generalize L.getD i ord0 = q at HC HRr HSt HNx
      obtain ⟨qi, qo, qp, qa, qpl, qb⟩ := q
      unfold oval at HRr
      simp only at HC HRr
      generalize Ord.right ⟨qi, qo, qp, qa, qpl, qb⟩ = r at HRr HSt HNx
      obtain ⟨c0, c1, c2, c3, c4, c5⟩ := HC.out wr hb.out
      cases r with
      | false =>
        have e1 := HSt.out rfl
        subst e1
        have hne : d ≠ m := by omega
        have hR' := hR.out
        rw [if_neg hne] at hR'
        subst hR'
        go_wp2_with (go_at_call 58; (with_reducible refine (HRr.out _).mono ?_); rintro e w1 ⟨rfl, hh⟩; have hb1 := Lib.hid (below_next hb.out hh); clear hh)
        refine bodyPost_ret (by simp [results, Try.results62, asAddr, go_sem]; rfl) rfl ?_
        exact ⟨rfl, hb1.out⟩
      | true =>
        have hn := HNx.out rfl
        have HN := Lib.hid hn
        clear hn
        go_wp2_with (go_at_call 58; (with_reducible refine (HRr.out _).mono ?_); rintro e w1 ⟨rfl, hh⟩; have hb1 := Lib.hid (below_next hb.out hh); clear hh)
        go_roundg (m + 1 - (i + 1))
        case measure => exact HM.out
        case rel => exact ⟨i + 1, rfl, by omega, by go_num, HN, hb1⟩
    · obtain rfl : m = i := by omega
      have e1 := HA.out hal.out
      subst e1
      have hR' := hR.out
      rw [if_pos rfl] at hR'
      subst hR'
      go_wp2
      refine bodyPost_ret (by simp [results, Try.results62, asAddr, go_sem]; rfl) rfl ?_
      exact ⟨rfl, hb.out⟩
end Go.Proofs.Ytilbhnloelgpdaa
