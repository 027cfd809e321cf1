/- The reference's Traded: what is traded at a price. -/
import Derived.Test.YtilbhnloelgpdaaORight
import Derived.Test.YtilbhnloelgpdaaCrs
namespace Go.Proofs.Ytilbhnloelgpdaa
open Go.RowKit
set_option linter.unusedVariables false
set_option linter.unusedSimpArgs false
namespace Ca
def up (l : List Ord) (p : Int) (k : Nat) : Int := bought ((l.take k).filter Ord.right) p
def dn (l : List Ord) (p : Int) (k : Nat) : Int := sold ((l.take k).filter Ord.right) p
theorem take_at (l : List Ord) {k : Nat} (h : k < l.length) : l.take (k + 1) = l.take k ++ [l.getD k ord0] := by
  rw [List.take_succ_eq_append_getElem h, List.getD_eq_getElem?_getD, List.getElem?_eq_getElem h]; rfl
theorem bought_one (o : Ord) (p : Int) : bought [o] p = if o.buys = true ∧ p ≤ o.price then o.amount else 0 := by
  rw [bought_cons]; simp [bought]
theorem sold_one (o : Ord) (p : Int) : sold [o] p = if o.buys = false ∧ o.price ≤ p then o.amount else 0 := by
  rw [sold_cons]; simp [sold]
theorem filter_one (o : Ord) : [o].filter Ord.right = if o.right = true then [o] else [] := by
  by_cases h : o.right = true <;> simp [h]
theorem up_bad (l : List Ord) (p : Int) {k : Nat} (h : k < l.length) (hr : (l.getD k ord0).right = false) : up l p (k + 1) = up l p k ∧ dn l p (k + 1) = dn l p k := by
  unfold up dn
  rw [take_at l h, List.filter_append, filter_one, hr, if_neg (by simp), List.append_nil]
  exact ⟨rfl, rfl⟩
theorem up_next (l : List Ord) (p : Int) {k : Nat} (h : k < l.length) (hr : (l.getD k ord0).right = true) : up l p (k + 1) = up l p k + (if (l.getD k ord0).buys = true ∧ p ≤ (l.getD k ord0).price then (l.getD k ord0).amount else 0) := by
  unfold up
  rw [take_at l h, List.filter_append, filter_one, if_pos hr, bought_append, bought_one]
theorem dn_next (l : List Ord) (p : Int) {k : Nat} (h : k < l.length) (hr : (l.getD k ord0).right = true) : dn l p (k + 1) = dn l p k + (if (l.getD k ord0).buys = false ∧ (l.getD k ord0).price ≤ p then (l.getD k ord0).amount else 0) := by
  unfold dn
  rw [take_at l h, List.filter_append, filter_one, if_pos hr, sold_append, sold_one]
theorem right_amount {l : List Ord} : ∀ o ∈ l.filter Ord.right, 1 ≤ o.amount ∧ o.amount ≤ 1048576 := fun o ho => by
  have := (Ord.right_iff o).1 (List.mem_filter.1 ho).2
  omega
theorem up_bound (l : List Ord) (p : Int) (k : Nat) : 0 ≤ up l p k ∧ up l p k ≤ 1048576 * k ∧ 0 ≤ dn l p k ∧ dn l p k ≤ 1048576 * k := by
  have h1 := bought_bound (l := (l.take k).filter Ord.right) right_amount p
  have h2 := sold_bound (l := (l.take k).filter Ord.right) right_amount p
  have h3 := List.length_filter_le Ord.right (l.take k)
  rw [List.length_take] at h3
  have h4 : (((l.take k).filter Ord.right).length : Int) ≤ k := by omega
  exact ⟨bought_nonneg (fun o ho => (right_amount o ho).1) p, by unfold up; omega, sold_nonneg (fun o ho => (right_amount o ho).1) p, by unfold dn; omega⟩
theorem up_all (l : List Ord) (p : Int) : min (up l p l.length) (dn l p l.length) = traded (l.filter Ord.right) p := by
  unfold up dn traded
  rw [List.take_length]
theorem up_zero (l : List Ord) (p : Int) : up l p 0 = 0 ∧ dn l p 0 = 0 := by unfold up dn; simp [bought, sold]
end Ca
set_option maxHeartbeats 4000000 in
theorem rtraded_calls (w : World) (A : Option Addr) (L : List Ord) (c : Nat) (p : Int) (h : ORow w A L) (hl : L.length ≤ 64) :
    Calls Try.prog 21 #[.slice A L.length c, .int .i64 p] w (Told w (.int .i64 (Ca.traded (L.filter Ord.right) p))) := by
  have H := Lib.hid h
  obtain ⟨m, hm⟩ : ∃ m, Hid (L.length = m) := ⟨_, Lib.hid rfl⟩
  have HR := Lib.hid (fun wx o => rright_calls wx o)
  have HT := Lib.hid (Ca.up_all L p)
  obtain ⟨T, hT⟩ : ∃ T, Hid (Ca.traded (L.filter Ord.right) p = T) := ⟨_, Lib.hid rfl⟩
  rw [hm.out] at hl HT ⊢
  rw [hT.out] at HT ⊢
  clear h
  go_enter Try.func21, Try.ntmps21
  go_upto_region 3 with (fail)
  go_loopg [5, 6, 7] (m + 1) (fun gk s5 s6 s7 wr => ∃ i : Nat, gk = m + 1 - i ∧ i ≤ m ∧ s7 = .int .i64 (i : Int) ∧ s5 = .int .i64 (Ca.up L p i) ∧ s6 = .int .i64 (Ca.dn L p i) ∧ Hid (Below w.heap.size w wr))
  case atStart => exact ⟨0, rfl, Nat.zero_le _, rfl, by rw [(Ca.up_zero L p).1], by rw [(Ca.up_zero L p).2], Lib.hid (Below.refl _ _)⟩
  case round =>
    obtain ⟨i, rfl, hi, rfl, rfl, rfl, hb⟩ := hrel
    have i0 : (0 : Int) ≤ (i : Int) := by omega
    obtain ⟨u0, u1, d0, d1⟩ := Ca.up_bound L p i
    by_cases hlt : i < m
    · have hltI : (i : Int) < (m : Int) := by omega
      have hlL : Hid (i < L.length) := Lib.hid (by rw [hm.out]; exact hlt)
      obtain ⟨b, o, rfl⟩ : ∃ b o, A = some ⟨b, o, none⟩ := by
        obtain ⟨b, o, e, _⟩ := H.out.cells hlL.out
        exact ⟨b, o, e⟩
      have HC := Lib.hid (fun wx hh => ORow.six H.out hlL.out (w' := wx) hh)
      have hBad := Lib.hid (Ca.up_bad L p hlL.out)
      have hUp := Lib.hid (Ca.up_next L p hlL.out)
      have hDn := Lib.hid (Ca.dn_next L p hlL.out)
      have hRi := Lib.hid ((Ord.right_iff (L.getD i ord0)).1)
      have HRr := Lib.hid (fun wx => HR.out wx (L.getD i ord0))
      generalize L.getD i ord0 = q at HC hBad hUp hDn hRi HRr
      obtain ⟨qi, qo, qp, qa, qpl, qb⟩ := q
      unfold oval at HRr
      simp only at HC hUp hDn hRi HRr
      generalize Ord.right ⟨qi, qo, qp, qa, qpl, qb⟩ = r at hBad hUp hDn hRi HRr
      obtain ⟨c0, c1, c2, c3, c4, c5⟩ := HC.out wr hb.out
      generalize Ca.up L p i = U at hBad hUp u0 u1 ⊢
      generalize Ca.dn L p i = D at hBad hDn d0 d1 ⊢
      cases r with
      | false =>
        obtain ⟨e1, e2⟩ := hBad.out rfl
        clear hUp hDn hRi hBad
        go_upto_region 4 with (go_at_call 37; (with_reducible refine (HRr.out _).mono ?_); rintro e w1 ⟨rfl, hh⟩; have hb1 := Lib.hid (below_next hb.out hh); clear hh)
        clear c0 c1 c2 c3 c4 c5
        go_wp2
        go_roundg (m + 1 - (i + 1))
        case measure => omega
        case rel => exact ⟨i + 1, rfl, by omega, by go_num, by rw [e1], by rw [e2], hb1⟩
      | true =>
        have hU := hUp.out rfl
        have hD := hDn.out rfl
        obtain ⟨_, _, _, _, _, _, a0, a1⟩ := hRi.out rfl
        clear hUp hDn hRi hBad
        have qU : IntKind.i64.wrap (U + qa) = U + qa := by rw [IntKind.wrap_i64]; omega
        have qD : IntKind.i64.wrap (D + qa) = D + qa := by rw [IntKind.wrap_i64]; omega
        go_upto_region 6 with (go_at_call 37; (with_reducible refine (HRr.out _).mono ?_); rintro e w1 ⟨rfl, hh⟩; have hb1 := Lib.hid (below_next hb.out hh); clear hh)
        clear c0 c1 c2 c3 c4 c5
        obtain ⟨c0, c1, c2, c3, c4, c5⟩ := HC.out w1 hb1.out
        have HM := Lib.hid (show m + 1 - (i + 1) < m + 1 - i by omega)
        clear u0 u1 d0 d1 a0 a1
        cases qb with
        | true =>
          have hD' : Ca.dn L p (i + 1) = D := by rw [hD, if_neg (by simp)]; omega
          by_cases hp : p ≤ qp
          · have hU' : Ca.up L p (i + 1) = U + qa := by rw [hU, if_pos ⟨rfl, hp⟩]
            go_wp2
            go_roundg (m + 1 - (i + 1))
            case measure => exact HM.out
            case rel => exact ⟨i + 1, rfl, by omega, by go_num, by rw [hU'], by rw [hD'], hb1⟩
          · have hU' : Ca.up L p (i + 1) = U := by rw [hU, if_neg fun hh => hp hh.2]; omega
            go_wp2
            go_roundg (m + 1 - (i + 1))
            case measure => exact HM.out
            case rel => exact ⟨i + 1, rfl, by omega, by go_num, by rw [hU'], by rw [hD'], hb1⟩
        | false =>
          have hU' : Ca.up L p (i + 1) = U := by rw [hU, if_neg (by simp)]; omega
          by_cases hp : qp ≤ p
          · have hD' : Ca.dn L p (i + 1) = D + qa := by rw [hD, if_pos ⟨rfl, hp⟩]
            go_wp2
            go_roundg (m + 1 - (i + 1))
            case measure => exact HM.out
            case rel => exact ⟨i + 1, rfl, by omega, by go_num, by rw [hU'], by rw [hD'], hb1⟩
          · have hD' : Ca.dn L p (i + 1) = D := by rw [hD, if_neg fun hh => hp hh.2]; omega
            go_wp2
            go_roundg (m + 1 - (i + 1))
            case measure => exact HM.out
            case rel => exact ⟨i + 1, rfl, by omega, by go_num, by rw [hU'], by rw [hD'], hb1⟩
    · obtain rfl : m = i := by omega
      generalize Ca.up L p m = U at HT u0 u1 ⊢
      generalize Ca.dn L p m = D at HT d0 d1 ⊢
      by_cases hUD : U ≤ D
      · have hT' := HT.out
        rw [Int.min_eq_left hUD] at hT'
        go_wp2
        all_goals
          refine bodyPost_ret (by simp [results, Try.results21, asAddr, go_sem]; rfl) rfl ?_
          exact ⟨rfl, hb.out⟩
      · have hT' := HT.out
        rw [Int.min_eq_right (by omega)] at hT'
        go_wp2
        all_goals
          refine bodyPost_ret (by simp [results, Try.results21, asAddr, go_sem]; rfl) rfl ?_
          exact ⟨rfl, hb.out⟩
end Go.Proofs.Ytilbhnloelgpdaa
