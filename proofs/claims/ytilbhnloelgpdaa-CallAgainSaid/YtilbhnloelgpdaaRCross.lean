/- The reference's Cross. -/
import Derived.Test.YtilbhnloelgpdaaRTraded
namespace Go.Proofs.Ytilbhnloelgpdaa
open Go.RowKit
set_option linter.unusedVariables false
set_option linter.unusedSimpArgs false
namespace Ca
def cx (l : List Ord) (k : Nat) : Int × Int := ((l.take k).filter Ord.right).foldl (crossStep (l.filter Ord.right)) (0, 0)
theorem cx_zero (l : List Ord) : cx l 0 = (0, 0) := by unfold cx; simp
theorem cx_bad (l : List Ord) {k : Nat} (h : k < l.length) (hr : (l.getD k ord0).right = false) : cx l (k + 1) = cx l k := by
  unfold cx
  rw [take_at l h, List.filter_append, filter_one, hr, if_neg (by simp), List.append_nil]
theorem cx_next (l : List Ord) {k : Nat} (h : k < l.length) (hr : (l.getD k ord0).right = true) : cx l (k + 1) = crossStep (l.filter Ord.right) (cx l k) (l.getD k ord0) := by
  unfold cx
  rw [take_at l h, List.filter_append, filter_one, if_pos hr, List.foldl_append]; rfl
theorem cx_all (l : List Ord) (h : l.length ≤ 64) : cx l l.length = cross l := by
  unfold cx cross crossOf rights
  rw [List.take_length, if_neg (by omega)]
theorem cross_many (l : List Ord) (h : 64 < l.length) : cross l = (0, 0) := by
  unfold cross crossOf rights
  rw [if_pos h]; rfl
end Ca
set_option maxHeartbeats 4000000 in
theorem rcross_calls (w : World) (A : Option Addr) (L : List Ord) (c : Nat) (h : ORow w A L) :
    Calls Try.prog 15 #[.slice A L.length c] w (Told w (.tuple #[.int .i64 (Ca.cross L).1, .int .i64 (Ca.cross L).2])) := by
  have H := Lib.hid h
  obtain ⟨m, hm⟩ : ∃ m, Hid (L.length = m) := ⟨_, Lib.hid rfl⟩
  by_cases hl : 64 < m
  · have E : Hid (Ca.cross L = (0, 0)) := Lib.hid (Ca.cross_many L (by rw [hm.out]; exact hl))
    rw [E.out, hm.out]
    have hlI : (64 : Int) < (m : Int) := by omega
    clear h
    go_enter Try.func15, Try.ntmps15
    go_wp2
    refine bodyPost_ret (by simp [results, Try.results15, asAddr, go_sem]; rfl) rfl ?_
    exact ⟨rfl, Below.refl _ _⟩
  have HR := Lib.hid (fun wx o => rright_calls wx o)
  have HTr : Hid (∀ wx, Below w.heap.size w wx → ∀ p, Calls Try.prog 21 #[.slice A m c, .int .i64 p] wx (Told wx (.int .i64 (Ca.traded (L.filter Ord.right) p)))) := Lib.hid fun wx hb p => by
    have := rtraded_calls wx A L c p (H.out.below hb) (by rw [hm.out]; omega)
    rwa [hm.out] at this
  have HE := Lib.hid (Ca.cx_all L (by rw [hm.out]; omega))
  obtain ⟨T, hT⟩ : ∃ T, Hid (Ca.cross L = T) := ⟨_, Lib.hid rfl⟩
  rw [hT.out, hm.out] at HE
  rw [hm.out, hT.out]
  have hlI : ¬ (64 : Int) < (m : Int) := by omega
  clear h
  go_enter Try.func15, Try.ntmps15
  go_upto_region 5 with (fail)
  go_loopg [4, 5, 6] (m + 1) (fun gk s4 s5 s6 wr => ∃ i : Nat, gk = m + 1 - i ∧ i ≤ m ∧ s6 = .int .i64 (i : Int) ∧ s4 = .int .i64 (Ca.cx L i).1 ∧ s5 = .int .i64 (Ca.cx L i).2 ∧ Hid (Below w.heap.size w wr))
  case atStart => exact ⟨0, rfl, Nat.zero_le _, rfl, by rw [Ca.cx_zero L], by rw [Ca.cx_zero L], Lib.hid (Below.refl _ _)⟩
  case round =>
    obtain ⟨i, rfl, hi, rfl, rfl, rfl, hb⟩ := hrel
    have i0 : (0 : Int) ≤ (i : Int) := by omega
    by_cases hlt : i < m
    · have hltI : (i : Int) < (m : Int) := by omega
      have hlL : Hid (i < L.length) := Lib.hid (by rw [hm.out]; exact hlt)
      obtain ⟨b, o, rfl⟩ : ∃ b o, A = some ⟨b, o, none⟩ := by
        obtain ⟨b, o, e, _⟩ := H.out.cells hlL.out
        exact ⟨b, o, e⟩
      have HC := Lib.hid (fun wx hh => ORow.six H.out hlL.out (w' := wx) hh)
      have hBad := Lib.hid (Ca.cx_bad L hlL.out)
      have hNx := Lib.hid (Ca.cx_next L hlL.out)
      have HRr := Lib.hid (fun wx => HR.out wx (L.getD i ord0))
      have HM := Lib.hid (show m + 1 - (i + 1) < m + 1 - i by omega)
      generalize L.getD i ord0 = q at HC hBad hNx HRr
      obtain ⟨qi, qo, qp, qa, qpl, qb⟩ := q
      unfold oval at HRr
      unfold Ca.crossStep at hNx
      simp only at HC hNx HRr
      generalize Ord.right ⟨qi, qo, qp, qa, qpl, qb⟩ = r at hBad hNx HRr
      obtain ⟨c0, c1, c2, c3, c4, c5⟩ := HC.out wr hb.out
      generalize Ca.cx L i = acc at hBad hNx ⊢
      obtain ⟨P, B⟩ := acc
      simp only at hNx ⊢
      cases r with
      | false =>
        have e1 := hBad.out rfl
        clear hNx hBad
        go_upto_region 6 with (go_at_call 37; (with_reducible refine (HRr.out _).mono ?_); rintro e w1 ⟨rfl, hh⟩; have hb1 := Lib.hid (below_next hb.out hh); clear hh)
        clear c0 c1 c2 c3 c4 c5
        go_wp2
        go_roundg (m + 1 - (i + 1))
        case measure => exact HM.out
        case rel => exact ⟨i + 1, rfl, by omega, by go_num, by rw [e1], by rw [e1], hb1⟩
      | true =>
        have hN := hNx.out rfl
        have HTq := Lib.hid (fun wx hh => HTr.out wx hh qp)
        clear hNx hBad
        generalize Ca.traded (L.filter Ord.right) qp = t at hN HTq
        go_upto_region 8 with (go_at_call 37; (with_reducible refine (HRr.out _).mono ?_); rintro e w1 ⟨rfl, hh⟩; have hb1 := Lib.hid (below_next hb.out hh); clear hh)
        clear c0 c1 c2 c3 c4 c5
        obtain ⟨c0, c1, c2, c3, c4, c5⟩ := HC.out w1 hb1.out
        go_upto_region 9 with (go_at_call 21; (with_reducible refine (HTq.out _ hb1.out).mono ?_); rintro e w2 ⟨rfl, hh⟩; have hb2 := Lib.hid (below_next hb1.out hh); clear hh)
        clear c0 c1 c2 c3 c4 c5
        obtain ⟨c0, c1, c2, c3, c4, c5⟩ := HC.out w2 hb2.out
        by_cases h1 : B < t
        · rw [if_pos (.inl h1)] at hN
          go_wp2
          go_roundg (m + 1 - (i + 1))
          case measure => exact HM.out
          case rel => exact ⟨i + 1, rfl, by omega, by go_num, by rw [hN], by rw [hN], hb2⟩
        · by_cases h2 : t = B
          · by_cases h3 : 0 < t
            · by_cases h4 : qp < P
              · rw [if_pos (.inr ⟨h2, h3, h4⟩)] at hN
                subst h2
                go_wp2
                go_roundg (m + 1 - (i + 1))
                case measure => exact HM.out
                case rel => exact ⟨i + 1, rfl, by omega, by go_num, by rw [hN], by rw [hN], hb2⟩
              · rw [if_neg (by omega)] at hN
                subst h2
                go_wp2
                go_roundg (m + 1 - (i + 1))
                case measure => exact HM.out
                case rel => exact ⟨i + 1, rfl, by omega, by go_num, by rw [hN], by rw [hN], hb2⟩
            · rw [if_neg (by omega)] at hN
              subst h2
              go_wp2
              go_roundg (m + 1 - (i + 1))
              case measure => exact HM.out
              case rel => exact ⟨i + 1, rfl, by omega, by go_num, by rw [hN], by rw [hN], hb2⟩
          · rw [if_neg (by omega)] at hN
            have h2B : (t == B) = false := by simpa using h2
            go_wp2
            go_roundg (m + 1 - (i + 1))
            case measure => exact HM.out
            case rel => exact ⟨i + 1, rfl, by omega, by go_num, by rw [hN], by rw [hN], hb2⟩
    · obtain rfl : m = i := by omega
      go_wp2
      refine bodyPost_ret (by simp [results, Try.results15, asAddr, go_sem]; rfl) rfl ?_
      exact ⟨by rw [HE.out], hb.out⟩
end Go.Proofs.Ytilbhnloelgpdaa
