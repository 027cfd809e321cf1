/- The walk of CallTurned: Cross of the orders turned round is Cross of the orders. -/
import Derived.Test.YtilbhnloelgpdaaOrdr
namespace Go.Proofs.Ytilbhnloelgpdaa
open Go.RowKit
set_option linter.unusedVariables false
set_option linter.unusedSimpArgs false
theorem rev_at (L : List Ord) {t : Nat} (h : t < L.length) : L.reverse.getD t ord0 = L.getD (L.length - 1 - t) ord0 := by
  rw [List.getD_eq_getElem?_getD, List.getD_eq_getElem?_getD, List.getElem?_reverse h]
set_option maxHeartbeats 8000000 in
set_option maxRecDepth 100000 in
theorem CallTurned_walk (W : World) (A : Option Addr) (len c : Nat) (L : List Ord) (hlen : L.length = len) (hby : len * 48 ≤ 140737488351232) (h : ORow W A L) :
    Calls Try.prog 5 #[.slice A len c] W fun e w' => e = .returned (.bool true) ∧ Below W.heap.size W w' := by
  have H := Lib.hid h
  have HL := Lib.hid hlen
  have HCr := Lib.hid (fun wx (hb : Below W.heap.size W wx) => by
    have := cross_calls wx A L c (h.below hb)
    rwa [hlen] at this)
  have hRv := Lib.hid (Ca.cross_reverse L)
  have HCb : Hid (∀ wx A2 c2, ORow wx A2 L.reverse → Calls Try.prog 14 #[.slice A2 len c2] wx (Told wx (.tuple #[.int .i64 (Ca.cross L).1, .int .i64 (Ca.cross L).2]))) := Lib.hid fun wx A2 c2 h2 => by
    have := cross_calls wx A2 L.reverse c2 h2
    rwa [List.length_reverse, hlen, hRv.out] at this
  have HAw := Lib.hid (fun wx => awake_calls wx)
  obtain ⟨i1, hi1, hy0, hy1, hy2⟩ := info_parts info_order
  have HI1 := Lib.hid hi1
  have HY0 := Lib.hid hy0
  have HY1 := Lib.hid hy1
  have HY2 := Lib.hid hy2
  generalize (Ca.cross L).1 = p at HCr HCb
  generalize (Ca.cross L).2 = n at HCr HCb
  have hl46 : len ≤ 2932031007318 := by omega
  have q1 : IntKind.i64.wrap ((len : Int) - 1) = (len : Int) - 1 := by rw [IntKind.wrap_i64]; omega
  clear h hlen hi1 hy0 hy1 hy2 hby
  go_enter Try.func5, Try.ntmps5
  go_upto_region 3 with (fail)
  go_loopg [3, 4] (len + 1) (fun gk s3 s4 wr => ∃ (t : Nat) (v : Int) (A2 : Option Addr) (c2 : Nat), gk = len + 1 - t ∧ t ≤ len ∧ s4 = .int .i64 v ∧ Hid (v = (len : Int) - 1 - t) ∧ s3 = .slice A2 t c2 ∧ Hid (Mine W wr 6 (.slice A2 t c2) t (ocells (L.reverse.take t))) ∧ Hid (Below W.heap.size W wr))
  case atStart => exact ⟨0, (len : Int) - 1, none, 0, rfl, Nat.zero_le _, rfl, Lib.hid (by omega), rfl, Lib.hid (by rw [List.take_zero]; exact Mine.empty _ _ _ _), Lib.hid (Below.refl _ _)⟩
  case round =>
    obtain ⟨t, v, A2, c2, rfl, ht, rfl, hv, rfl, HM, hb⟩ := hrel
    by_cases htl : t < len
    · obtain ⟨i, hi⟩ : ∃ i : Nat, v = (i : Int) := ⟨len - 1 - t, by have := hv.out; omega⟩
      subst hi
      have hie : Hid (i = len - 1 - t ∧ i < len) := Lib.hid (by have := hv.out; omega)
      have i0 : (0 : Int) ≤ (i : Int) := by omega
      have i1' : (i : Int) < (len : Int) := by have := hie.out; omega
      have q2 : IntKind.i64.wrap ((i : Int) - 1) = (i : Int) - 1 := by rw [IntKind.wrap_i64]; omega
      have hiL : Hid (i < L.length) := Lib.hid (by rw [HL.out]; exact hie.out.2)
      obtain ⟨b, o, rfl⟩ : ∃ b o, A = some ⟨b, o, none⟩ := by
        obtain ⟨b, o, e, _⟩ := H.out.cells hiL.out
        exact ⟨b, o, e⟩
      obtain ⟨c0, c1, c2', c3, c4, c5⟩ := ORow.six H.out hiL.out hb.out
      have HT := Lib.hid (Ca.take_at L.reverse (k := t) (by rw [List.length_reverse, HL.out]; exact htl))
      rw [rev_at L (by rw [HL.out]; exact htl), HL.out, ← hie.out.1] at HT
      have HMs := Lib.hid (show len + 1 - (t + 1) < len + 1 - t by omega)
      have hA1 : Hid (t + 1 ≤ maxLen) := Lib.hid (by unfold maxLen; omega)
      have hA2 : Hid ((t + 1) * 48 ≤ 140737488355328) := Lib.hid (by omega)
      generalize L.getD i ord0 = q at c0 c1 c2' c3 c4 c5 HT
      obtain ⟨qi, qo, qp, qa, qpl, qb⟩ := q
      simp only at c0 c1 c2' c3 c4 c5
      have hS1 : Hid (∀ wx : World, Src Try.prog 6 22 (.slice (some ⟨wx.heap.size, 0, none⟩) 1 1) 1 (ocell ⟨qi, qo, qp, qa, qpl, qb⟩) (wx.alloc (.cells (ocell ⟨qi, qo, qp, qa, qpl, qb⟩).toArray 33))) := Lib.hid fun wx => src_new Try.underlying22 wx _ _ 1 1 rfl (by simp [ocell, Value.oneCell'])
      go_wp2_with (first
        | (at_builtin; (refine wpList_append_mine rfl (.tmp 16) (.tmp 21) 22 22 rfl 33 i1 (.agg #[.int .i64 0, .int .i64 0, .int .i64 0, .int .i64 0, .int .i64 0, .bool false]) 48 Try.underlying22 HI1.out HY0.out HY1.out HY2.out rfl (by decide) rfl (HM.out.alloc _) (hb.out.alloc hb.out.size _) _ 1 (ocell ⟨qi, qo, qp, qa, qpl, qb⟩) rfl (hS1.out _) hA1.out hA2.out ?_); intro A3 c3 w3 hm3 hb3; have HM3 := Lib.hid hm3; have HB3 := Lib.hid hb3; clear hm3 hb3))
      go_roundg (len + 1 - (t + 1))
      case measure => exact HMs.out
      case rel => exact ⟨t + 1, (i : Int) - 1, A3, c3, rfl, by omega, by first | rfl | go_num, Lib.hid (by have := hie.out; omega), rfl, Lib.hid (by rw [HT.out, ocells_append]; exact HM3.out), HB3⟩
    · obtain rfl : len = t := by omega
      have hv0 : ¬ 0 ≤ v := by have := hv.out; omega
      have hrow : Hid (ORow wr A2 L.reverse) := Lib.hid (by
        have h1 := (HM.out.orow (by rw [List.length_take, List.length_reverse, HL.out]; omega)).2
        rwa [List.take_of_length_le (by rw [List.length_reverse, HL.out]; exact Nat.le_refl _)] at h1)
      go_wp2_with (first
        | (go_at_call 14; first
          | ((with_reducible refine (HCb.out _ _ _ hrow2.out).mono ?_); rintro e w5 ⟨rfl, hh⟩; have hb5 := Lib.hid (below_next hb4.out hh); clear hh)
          | ((with_reducible refine (HCr.out _ hb.out).mono ?_); rintro e w4 ⟨rfl, hh⟩; have hb4 := Lib.hid (below_next hb.out hh); have hrow2 := Lib.hid (hrow.out.below hh); clear hh))
        | (go_at_call 20; (with_reducible refine (HAw.out _).mono ?_); rintro e w6 ⟨rfl, hh⟩; have hb6 := Lib.hid (below_next hb5.out hh); clear hh))
      refine bodyPost_ret (by simp [results, Try.results5, asAddr, go_sem]; rfl) rfl ?_
      exact ⟨rfl, hb6.out⟩
end Go.Proofs.Ytilbhnloelgpdaa
