/- The contracts of Move and Hand. -/
import Derived.Test.YthhjockofihohaaLedC
namespace Go.Proofs.Ythhjockofihohaa
open Go.RowKit
set_option maxHeartbeats 2000000 in
set_option maxRecDepth 100000 in
theorem move_calls (w : World) (g gl : Nat) (x : Led) (h : AtL w g gl x) (src dst n : Int) :
    Calls Try.prog 27 #[.pointer (some ⟨g, 0, none⟩), .int .i64 src, .int .i64 dst, .int .i64 n] w fun e w' => e = .returned (.int .i64 (x.move src dst n).2) ∧ AtL w' g gl (x.move src dst n).1 ∧ Only (feetL gl) w w' := by
  have H := Lib.hid h
  by_cases hs : src < 0 ∨ x.n ≤ src
  · have HF := Lib.hid (find_bad w g gl x h src hs)
    have E : Hid (x.move src dst n = (x, 60)) := Lib.hid (by unfold Led.move; rw [if_pos hs])
    rw [E.out]
    clear h hs
    go_enter Try.func27, Try.ntmps27
    go_wp2_with (first
      | (go_at_call 29; (with_reducible refine HF.out.mono ?_); rintro e w1 ⟨rfl, rfl⟩)
      | fail)
    go_ret
    exact ⟨rfl, H.out, Only.refl _ _⟩
  obtain ⟨i, rfl⟩ : ∃ i : Nat, src = (i : Int) := ⟨src.toNat, by omega⟩
  have hi : i < x.n := by omega
  have HF := Lib.hid (find_ok w g gl x h i hi)
  have i0 : (0 : Int) ≤ (i : Int) := by omega
  by_cases he : x.err dst 0 n ≠ 0
  · have HP := Lib.hid (part_bad w g gl x h dst 0 n he)
    have E : Hid (x.move i dst n = (x, x.err dst 0 n)) := Lib.hid (by unfold Led.move; rw [if_neg hs, if_pos he])
    rw [E.out]
    generalize x.err dst 0 n = er at he HP ⊢
    have heb : (er != 0) = true := by simpa using he
    clear h hs
    go_enter Try.func27, Try.ntmps27
    go_wp2_with (first
      | (go_at_call 29; (with_reducible refine HF.out.mono ?_); rintro e w1 ⟨rfl, rfl⟩)
      | (go_at_call 39; (with_reducible refine HP.out.mono ?_); rintro e w1 ⟨⟨p, rfl⟩, rfl⟩))
    go_ret
    exact ⟨rfl, H.out, Only.refl _ _⟩
  · have he' : x.err dst 0 n = 0 := by omega
    obtain ⟨w0, w1, g0, g1, n0, n1⟩ := Led.err_ok he'
    obtain ⟨j, rfl⟩ : ∃ j : Nat, dst = (j : Int) := ⟨dst.toNat, by omega⟩
    have hj : j < x.n := by omega
    have hkd := h.ok.kinds
    obtain ⟨c0, c1⟩ := h.cells
    have hiI : (i : Int) < (x.n : Int) := by omega
    have HP := Lib.hid (part_ok w g gl x h j hj 0 n (by omega) (by omega) n0 n1)
    obtain ⟨z1, z2⟩ := h.ok.cash i hi
    have z3 := h.ok.cash_le hi
    have KA : Hid (∀ w1 (y : Led), AtL w1 g gl y → ∀ a, a < y.n → w1.cell? ⟨gl, a * 12, none⟩ = some (.int .i64 (y.z a 0)) ∧ w1.cell? ⟨gl, a * 12 + 1, none⟩ = some (.int .i64 (y.z a 1))) := Lib.hid fun w1 y h a ha => ⟨h.num ha (k := 0) (by omega), h.num ha (k := 1) (by omega)⟩
    have hmost := h.ok.most
    obtain ⟨k0, k1⟩ := KA.out w x h i hi
    by_cases hp : x.z i 1 < n
    · have E : Hid (x.move i j n = (x, 61)) := Lib.hid (by unfold Led.move; rw [if_neg hs, if_neg he, Int.toNat_natCast, if_pos hp])
      rw [E.out]
      clear h he he' hs g0 g1 hkd
      go_enter Try.func27, Try.ntmps27
      go_upto_region 7 with (first
      | (go_at_call 29; (with_reducible refine HF.out.mono ?_); rintro e w1 ⟨rfl, rfl⟩)
      | (go_at_call 39; (with_reducible refine HP.out.mono ?_); rintro e w1 ⟨rfl, rfl⟩))
      go_wp2
      go_ret
      exact ⟨rfl, H.out, Only.refl _ _⟩
    · have hp' : n ≤ x.z i 1 := by omega
      obtain ⟨x1, hx1⟩ : ∃ y, y = x.inc i 1 (-n) := ⟨_, rfl⟩
      obtain ⟨x2, hx2⟩ : ∃ y, y = x1.inc i 0 (-n) := ⟨_, rfl⟩
      obtain ⟨x3, hx3⟩ : ∃ y, y = x2.inc j 0 n := ⟨_, rfl⟩
      have E : Hid (x.move i j n = (x3, 0)) := Lib.hid (by unfold Led.move; rw [if_neg hs, if_neg he, Int.toNat_natCast, Int.toNat_natCast, if_neg hp, hx3, hx2, hx1])
      rw [E.out]
      have t1 : x1.tot 0 = x.tot 0 := by rw [hx1, Led.tot_inc x hi, if_neg (by omega)]
      have ok1 : x1.Ok := by rw [hx1]; exact h.ok.inc1 hi (-n) (by omega) (by omega)
      have t2 : x2.tot 0 = x.tot 0 - n := by rw [hx2, Led.tot_inc x1 (show i < x1.n by rw [hx1]; exact hi), if_pos rfl, t1]; omega
      have ok2 : x2.Ok := by rw [hx2]; exact ok1.inc0 (show i < x1.n by rw [hx1]; exact hi) (-n) (by rw [hx1, Led.inc_at, Led.inc_at, if_pos ⟨rfl, rfl⟩, if_neg (by omega)]; omega) (by rw [t1]; omega)
      have ok3 : x3.Ok := by rw [hx3]; exact ok2.inc0 (show j < x2.n by rw [hx2, hx1]; exact hj) n (by have := ok2.cash j (show j < x2.n by rw [hx2, hx1]; exact hj); omega) (by rw [t2]; omega)
      have b2 : x1.z i 0 = x.z i 0 := by rw [hx1, Led.inc_at, if_neg (by omega)]
      have b3 := ok2.cash j (show j < x2.n by rw [hx2, hx1]; exact hj)
      have b4 := ok2.cash_le (i := j) (show j < x2.n by rw [hx2, hx1]; exact hj)
      have OK1 : Hid ((x.inc i 1 (-n)).Ok) := Lib.hid (by rw [← hx1]; exact ok1)
      have OK2 : Hid ((x1.inc i 0 (-n)).Ok) := Lib.hid (by rw [← hx2]; exact ok2)
      have OK3 : Hid ((x2.inc j 0 n).Ok) := Lib.hid (by rw [← hx3]; exact ok3)
      have hN1 : Hid (∀ w1, AtL w1 g gl x → ∀ v, v = x.z i 1 + -n → AtL (w1.setCell ⟨gl, i * 12 + 1, none⟩ (.int .i64 v)) g gl x1) := Lib.hid fun w1 h v hv => by
        rw [hx1]
        exact h.inc (i := i) (k := 1) (by omega) (-n) v hv OK1.out
      have hN2 : Hid (∀ w1, AtL w1 g gl x1 → ∀ v, v = x1.z i 0 + -n → AtL (w1.setCell ⟨gl, i * 12, none⟩ (.int .i64 v)) g gl x2) := Lib.hid fun w1 h v hv => by
        rw [hx2]
        exact h.inc (i := i) (k := 0) (by omega) (-n) v hv OK2.out
      have hN3 : Hid (∀ w1, AtL w1 g gl x2 → ∀ v, v = x2.z j 0 + n → AtL (w1.setCell ⟨gl, j * 12, none⟩ (.int .i64 v)) g gl x3) := Lib.hid fun w1 h v hv => by
        rw [hx3]
        exact h.inc (i := j) (k := 0) (by omega) (n) v hv OK3.out
      have hl1 : i < x1.n := by rw [hx1]; exact hi
      have hl2 : j < x2.n := by rw [hx2, hx1]; exact hj
      have HL := Lib.hid (And.intro hl1 hl2)
      clear h he he' hp hs g0 g1 hkd hx1 hx2 hx3 t1 t2 ok1 ok2 ok3 hl1 hl2 hmost
      have Ow : Hid (Only (feetL gl) w w) := Lib.hid (Only.refl _ _)
      have f1 : w.frozen? ⟨gl, i * 12 + 1, none⟩ = false := H.out.list.frozen _
      go_enter Try.func27, Try.ntmps27
      go_upto_region 7 with (first
      | (go_at_call 29; (with_reducible refine HF.out.mono ?_); rintro e w1 ⟨rfl, rfl⟩)
      | (go_at_call 39; (with_reducible refine HP.out.mono ?_); rintro e w1 ⟨rfl, rfl⟩))
      go_upto_region 10 with (fail)
      go_upto_region 11 with (fail)
      generalize hwa : World.setCell _ _ _ = wa
      have Ha : Hid (AtL wa g gl x1) := Lib.hid (by rw [← hwa]; exact hN1.out _ H.out _ (by omega))
      have Oa : Hid (Only (feetL gl) w wa) := Lib.hid (by rw [← hwa]; exact only_put Ow.out _ _)
      obtain ⟨a0, -⟩ := KA.out wa x1 Ha.out i HL.out.1
      rw [b2] at a0
      have fa : wa.frozen? ⟨gl, i * 12, none⟩ = false := Ha.out.list.frozen _
      clear hwa k0 k1 f1 H Ow hN1
      go_upto_region 12 with (fail)
      generalize hwb : World.setCell _ _ _ = wb
      have Hb : Hid (AtL wb g gl x2) := Lib.hid (by rw [← hwb]; exact hN2.out _ Ha.out _ (by rw [b2]; omega))
      have Ob : Hid (Only (feetL gl) w wb) := Lib.hid (by rw [← hwb]; exact only_put Oa.out _ _)
      obtain ⟨d0, -⟩ := KA.out wb x2 Hb.out j HL.out.2
      have fb : wb.frozen? ⟨gl, j * 12, none⟩ = false := Hb.out.list.frozen _
      obtain ⟨b3a, b3b⟩ := b3
      generalize hy : x2.z j 0 = y at d0 b3b b4
      have HY := Lib.hid hy
      clear hwb a0 fa Ha Oa hN2 hy
      go_wp2
      go_ret
      exact ⟨rfl, hN3.out _ Hb.out _ (by rw [HY.out]), only_put Ob.out _ _⟩
set_option maxHeartbeats 2000000 in
set_option maxRecDepth 100000 in
theorem hand_calls (w : World) (g gl : Nat) (x : Led) (h : AtL w g gl x) (src dst good n : Int) :
    Calls Try.prog 28 #[.pointer (some ⟨g, 0, none⟩), .int .i64 src, .int .i64 dst, .int .i64 good, .int .i64 n] w fun e w' => e = .returned (.int .i64 (x.hand src dst good n).2) ∧ AtL w' g gl (x.hand src dst good n).1 ∧ Only (feetL gl) w w' := by
  have H := Lib.hid h
  by_cases hs : src < 0 ∨ x.n ≤ src
  · have HF := Lib.hid (find_bad w g gl x h src hs)
    have E : Hid (x.hand src dst good n = (x, 60)) := Lib.hid (by unfold Led.hand; rw [if_pos hs])
    rw [E.out]
    clear h hs
    go_enter Try.func28, Try.ntmps28
    go_wp2_with (first
      | (go_at_call 29; (with_reducible refine HF.out.mono ?_); rintro e w1 ⟨rfl, rfl⟩)
      | fail)
    go_ret
    exact ⟨rfl, H.out, Only.refl _ _⟩
  obtain ⟨i, rfl⟩ : ∃ i : Nat, src = (i : Int) := ⟨src.toNat, by omega⟩
  have hi : i < x.n := by omega
  have HF := Lib.hid (find_ok w g gl x h i hi)
  have i0 : (0 : Int) ≤ (i : Int) := by omega
  by_cases he : x.err dst good n ≠ 0
  · have HP := Lib.hid (part_bad w g gl x h dst good n he)
    have E : Hid (x.hand i dst good n = (x, x.err dst good n)) := Lib.hid (by unfold Led.hand; rw [if_neg hs, if_pos he])
    rw [E.out]
    generalize x.err dst good n = er at he HP ⊢
    have heb : (er != 0) = true := by simpa using he
    clear h hs
    go_enter Try.func28, Try.ntmps28
    go_wp2_with (first
      | (go_at_call 29; (with_reducible refine HF.out.mono ?_); rintro e w1 ⟨rfl, rfl⟩)
      | (go_at_call 39; (with_reducible refine HP.out.mono ?_); rintro e w1 ⟨⟨p, rfl⟩, rfl⟩))
    go_ret
    exact ⟨rfl, H.out, Only.refl _ _⟩
  · have he' : x.err dst good n = 0 := by omega
    obtain ⟨w0, w1, g0, g1, n0, n1⟩ := Led.err_ok he'
    obtain ⟨j, rfl⟩ : ∃ j : Nat, dst = (j : Int) := ⟨dst.toNat, by omega⟩
    have hj : j < x.n := by omega
    have hkd := h.ok.kinds
    obtain ⟨c0, c1⟩ := h.cells
    have hiI : (i : Int) < (x.n : Int) := by omega
    obtain ⟨q, rfl⟩ : ∃ q : Nat, good = (q : Int) := ⟨good.toNat, by omega⟩
    have hq : q < 4 := by omega
    have hqI : (q : Int) < 4 := by omega
    have hq0 : (0 : Int) ≤ (q : Int) := by omega
    have HP := Lib.hid (part_ok w g gl x h j hj q n (by omega) (by omega) n0 n1)
    obtain ⟨z1, z2⟩ := h.ok.good i q hi hq
    have z3 := h.ok.good_le hi hq
    have KA : Hid (∀ w1 (y : Led), AtL w1 g gl y → ∀ a, a < y.n → w1.cell? ⟨gl, a * 12 + 2 + q, none⟩ = some (.int .i64 (y.z a (2 + q))) ∧ w1.cell? ⟨gl, a * 12 + 6 + q, none⟩ = some (.int .i64 (y.z a (6 + q)))) := Lib.hid fun w1 y h a ha => by
      rw [Nat.add_assoc, Nat.add_assoc]; exact ⟨h.num ha (by omega), h.num ha (by omega)⟩
    have hmost := h.ok.mosts q hq
    obtain ⟨k0, k1⟩ := KA.out w x h i hi
    by_cases hp : x.z i (6 + q) < n
    · have E : Hid (x.hand i j q n = (x, 61)) := Lib.hid (by unfold Led.hand; rw [if_neg hs, if_neg he, Int.toNat_natCast, Int.toNat_natCast, if_pos hp])
      rw [E.out]
      clear h he he' hs g0 g1 hkd
      go_enter Try.func28, Try.ntmps28
      go_upto_region 7 with (first
      | (go_at_call 29; (with_reducible refine HF.out.mono ?_); rintro e w1 ⟨rfl, rfl⟩)
      | (go_at_call 39; (with_reducible refine HP.out.mono ?_); rintro e w1 ⟨rfl, rfl⟩))
      go_wp2
      go_ret
      exact ⟨rfl, H.out, Only.refl _ _⟩
    · have hp' : n ≤ x.z i (6 + q) := by omega
      obtain ⟨x1, hx1⟩ : ∃ y, y = x.inc i (6 + q) (-n) := ⟨_, rfl⟩
      obtain ⟨x2, hx2⟩ : ∃ y, y = x1.inc i (2 + q) (-n) := ⟨_, rfl⟩
      obtain ⟨x3, hx3⟩ : ∃ y, y = x2.inc j (2 + q) n := ⟨_, rfl⟩
      have E : Hid (x.hand i j q n = (x3, 0)) := Lib.hid (by unfold Led.hand; rw [if_neg hs, if_neg he, Int.toNat_natCast, Int.toNat_natCast, Int.toNat_natCast, if_neg hp, hx3, hx2, hx1])
      rw [E.out]
      have t1 : x1.tot (2 + q) = x.tot (2 + q) := by rw [hx1, Led.tot_inc x hi, if_neg (by omega)]
      have ok1 : x1.Ok := by rw [hx1]; exact h.ok.incl hi hq (-n) (by omega) (by omega)
      have t2 : x2.tot (2 + q) = x.tot (2 + q) - n := by rw [hx2, Led.tot_inc x1 (show i < x1.n by rw [hx1]; exact hi), if_pos rfl, t1]; omega
      have ok2 : x2.Ok := by rw [hx2]; exact ok1.incg (show i < x1.n by rw [hx1]; exact hi) hq (by rw [hx1]; exact g1) (-n) (by rw [hx1, Led.inc_at, Led.inc_at, if_pos ⟨rfl, rfl⟩, if_neg (by omega)]; omega) (by rw [t1]; omega)
      have ok3 : x3.Ok := by rw [hx3]; exact ok2.incg (show j < x2.n by rw [hx2, hx1]; exact hj) hq (by rw [hx2, hx1]; exact g1) n (by have := ok2.good j q (show j < x2.n by rw [hx2, hx1]; exact hj) hq; omega) (by rw [t2]; omega)
      have b2 : x1.z i (2 + q) = x.z i (2 + q) := by rw [hx1, Led.inc_at, if_neg (by omega)]
      have b3 := ok2.good j q (show j < x2.n by rw [hx2, hx1]; exact hj) hq
      have b4 := ok2.good_le (i := j) (show j < x2.n by rw [hx2, hx1]; exact hj) hq
      have OK1 : Hid ((x.inc i (6 + q) (-n)).Ok) := Lib.hid (by rw [← hx1]; exact ok1)
      have OK2 : Hid ((x1.inc i (2 + q) (-n)).Ok) := Lib.hid (by rw [← hx2]; exact ok2)
      have OK3 : Hid ((x2.inc j (2 + q) n).Ok) := Lib.hid (by rw [← hx3]; exact ok3)
      have hN1 : Hid (∀ w1, AtL w1 g gl x → ∀ v, v = x.z i (6 + q) + -n → AtL (w1.setCell ⟨gl, i * 12 + 6 + q, none⟩ (.int .i64 v)) g gl x1) := Lib.hid fun w1 h v hv => by
        rw [hx1]
        have := h.inc (i := i) (k := (6 + q)) (by omega) (-n) v hv OK1.out
        rwa [← Nat.add_assoc] at this
      have hN2 : Hid (∀ w1, AtL w1 g gl x1 → ∀ v, v = x1.z i (2 + q) + -n → AtL (w1.setCell ⟨gl, i * 12 + 2 + q, none⟩ (.int .i64 v)) g gl x2) := Lib.hid fun w1 h v hv => by
        rw [hx2]
        have := h.inc (i := i) (k := (2 + q)) (by omega) (-n) v hv OK2.out
        rwa [← Nat.add_assoc] at this
      have hN3 : Hid (∀ w1, AtL w1 g gl x2 → ∀ v, v = x2.z j (2 + q) + n → AtL (w1.setCell ⟨gl, j * 12 + 2 + q, none⟩ (.int .i64 v)) g gl x3) := Lib.hid fun w1 h v hv => by
        rw [hx3]
        have := h.inc (i := j) (k := (2 + q)) (by omega) (n) v hv OK3.out
        rwa [← Nat.add_assoc] at this
      have hl1 : i < x1.n := by rw [hx1]; exact hi
      have hl2 : j < x2.n := by rw [hx2, hx1]; exact hj
      have HL := Lib.hid (And.intro hl1 hl2)
      clear h he he' hp hs g0 g1 hkd hx1 hx2 hx3 t1 t2 ok1 ok2 ok3 hl1 hl2 hmost
      have Ow : Hid (Only (feetL gl) w w) := Lib.hid (Only.refl _ _)
      have f1 : w.frozen? ⟨gl, i * 12 + 6 + q, none⟩ = false := H.out.list.frozen _
      go_enter Try.func28, Try.ntmps28
      go_upto_region 7 with (first
      | (go_at_call 29; (with_reducible refine HF.out.mono ?_); rintro e w1 ⟨rfl, rfl⟩)
      | (go_at_call 39; (with_reducible refine HP.out.mono ?_); rintro e w1 ⟨rfl, rfl⟩))
      go_upto_region 10 with (fail)
      go_still_tail 13, (by kernel_rfl)
      change wpList _ _ _ _ _ w.drew
      go_upto_region 11 with (fail)
      generalize hwa : World.drew _ = wa
      have Ha : Hid (AtL wa g gl x1) := Lib.hid (by rw [← hwa]; exact (hN1.out _ H.out _ (by omega)).drewN 1)
      have Oa : Hid (Only (feetL gl) w wa) := Lib.hid (by rw [← hwa]; exact (only_put Ow.out _ _).drewN 1)
      obtain ⟨a0, -⟩ := KA.out wa x1 Ha.out i HL.out.1
      rw [b2] at a0
      have fa : wa.frozen? ⟨gl, i * 12 + 2 + q, none⟩ = false := Ha.out.list.frozen _
      clear hwa k0 k1 f1 H Ow hN1
      go_still_tail 13, (by kernel_rfl)
      change wpList _ _ _ _ _ wa.drew
      go_upto_region 12 with (fail)
      generalize hwb : World.drew _ = wb
      have Hb : Hid (AtL wb g gl x2) := Lib.hid (by rw [← hwb]; exact (hN2.out _ Ha.out _ (by rw [b2]; omega)).drewN 1)
      have Ob : Hid (Only (feetL gl) w wb) := Lib.hid (by rw [← hwb]; exact (only_put Oa.out _ _).drewN 1)
      obtain ⟨d0, -⟩ := KA.out wb x2 Hb.out j HL.out.2
      have fb : wb.frozen? ⟨gl, j * 12 + 2 + q, none⟩ = false := Hb.out.list.frozen _
      obtain ⟨b3a, b3b⟩ := b3
      generalize hy : x2.z j (2 + q) = y at d0 b3b b4
      have HY := Lib.hid hy
      clear hwb a0 fa Ha Oa hN2 hy
      go_still_tail 13, (by kernel_rfl)
      change wpList _ _ _ _ _ wb.drew
      go_wp2
      go_ret
      exact ⟨rfl, (hN3.out _ Hb.out _ (by rw [HY.out])).drewN 1, (only_put Ob.out _ _).drewN 1⟩
end Go.Proofs.Ythhjockofihohaa
