/- The contracts of Pay and Store. -/
import Derived.Test.YthhjockofihohaaTot
namespace Go.Proofs.Ythhjockofihohaa
open Go.RowKit
set_option maxHeartbeats 1000000 in
theorem pay_calls (w : World) (g gl : Nat) (x : Led) (h : AtL w g gl x) (who n : Int) :
    Calls Try.prog 19 #[.pointer (some ⟨g, 0, none⟩), .int .i64 who, .int .i64 n] w fun e w' => e = .returned (.int .i64 (x.pay who n).2) ∧ AtL w' g gl (x.pay who n).1 ∧ Only (feetL gl) w w' := by
  have H := Lib.hid h
  by_cases he : x.err who 0 n ≠ 0
  · have HP := Lib.hid (part_bad w g gl x h who 0 n he)
    have E : Hid (x.pay who n = (x, x.err who 0 n)) := Lib.hid (by unfold Led.pay; rw [if_pos he])
    rw [E.out]
    generalize x.err who 0 n = er at he HP ⊢
    have heb : (er != 0) = true := by simpa using he
    clear h
    go_enter Try.func19, Try.ntmps19
    go_wp2_with (first
      | (go_at_call 39; (with_reducible refine HP.out.mono ?_); rintro e w1 ⟨⟨p, rfl⟩, rfl⟩))
    go_ret
    exact ⟨rfl, H.out, Only.refl _ _⟩
  · have he' : x.err who 0 n = 0 := by omega
    obtain ⟨w0, w1, g0, g1, n0, n1⟩ := Led.err_ok he'
    obtain ⟨i, rfl⟩ : ∃ i : Nat, who = (i : Int) := ⟨who.toNat, by omega⟩
    have hi : i < x.n := by omega
    have hkd := h.ok.kinds
    have HP := Lib.hid (part_ok w g gl x h i hi 0 n (by omega) (by omega) n0 n1)
    have HT := Lib.hid (totals_calls w g gl x h)
    obtain ⟨z1, z2⟩ := h.ok.cash i hi
    have z3 := h.ok.cash_le hi
    have t0 : 0 ≤ x.tot 0 := sumTo_pos fun j hj => by have := h.ok.cash j hj; omega
    have t1 := h.ok.most
    clear g0 hkd
    by_cases hp : 1099511627776 < x.tot 0 + n
    · have E : Hid (x.pay i n = (x, 62)) := Lib.hid (by unfold Led.pay; rw [if_neg he, if_pos hp])
      rw [E.out]
      clear h he he'
      generalize x.tot 0 = t at t0 t1 hp HT
      go_enter Try.func19, Try.ntmps19
      go_wp2_with (first
        | (go_at_call 39; (with_reducible refine HP.out.mono ?_); rintro e w1 ⟨rfl, rfl⟩)
        | (go_at_call 8; (with_reducible refine HT.out.mono ?_); rintro e w2 ⟨rfl, hb⟩))
      go_ret
      exact ⟨rfl, (H.out.next hb).next ((Below.refl _ _).alloc (Nat.le_refl _) _), Only.of_below (hb.alloc hb.size _)⟩
    · have hp' : x.tot 0 + n ≤ 1099511627776 := by omega
      have E : Hid (x.pay i n = (x.inc i 0 n, 0)) := Lib.hid (by unfold Led.pay; rw [if_neg he, Int.toNat_natCast, if_neg hp])
      rw [E.out]
      have hok : Hid ((x.inc i 0 n).Ok) := Lib.hid (h.ok.inc0 hi n (by omega) (by omega))
      have hN : Hid (∀ w1, AtL w1 g gl x → ∀ v, v = x.z i 0 + n → AtL (w1.setCell ⟨gl, i * 12, none⟩ (.int .i64 v)) g gl (x.inc i 0 n)) := Lib.hid fun w1 h v hv => h.inc (i := i) (k := 0) (by omega) n v hv hok.out
      have HI := Lib.hid hi
      clear h he he' hp
      generalize x.tot 0 = t at t0 t1 hp' HT
      go_enter Try.func19, Try.ntmps19
      go_upto_region 5 with (first
        | (go_at_call 39; (with_reducible refine HP.out.mono ?_); rintro e w1 ⟨rfl, rfl⟩)
        | (go_at_call 8; (with_reducible refine HT.out.mono ?_); rintro e w2 ⟨rfl, hb⟩))
      generalize hwy : World.alloc w2 _ = wy
      have Hy : Hid (AtL wy g gl x) := Lib.hid (by rw [← hwy]; exact (H.out.next hb).next ((Below.refl _ _).alloc (Nat.le_refl _) _))
      have Oy : Hid (Only (feetL gl) w wy) := Lib.hid (by rw [← hwy]; exact Only.of_below (hb.alloc hb.size _))
      have k0 : wy.cell? ⟨gl, i * 12, none⟩ = some (.int .i64 (x.z i 0)) := Hy.out.num HI.out (k := 0) (by omega)
      have f0 := Hy.out.list.frozen (i * 12)
      clear hwy hb HT HP
      go_wp2
      go_ret
      exact ⟨rfl, hN.out _ Hy.out _ (by omega), only_put Oy.out _ _⟩
set_option maxHeartbeats 1000000 in
theorem store_calls (w : World) (g gl : Nat) (x : Led) (h : AtL w g gl x) (who good n : Int) :
    Calls Try.prog 21 #[.pointer (some ⟨g, 0, none⟩), .int .i64 who, .int .i64 good, .int .i64 n] w fun e w' => e = .returned (.int .i64 (x.store who good n).2) ∧ AtL w' g gl (x.store who good n).1 ∧ Only (feetL gl) w w' := by
  have H := Lib.hid h
  by_cases he : x.err who good n ≠ 0
  · have HP := Lib.hid (part_bad w g gl x h who good n he)
    have E : Hid (x.store who good n = (x, x.err who good n)) := Lib.hid (by unfold Led.store; rw [if_pos he])
    rw [E.out]
    generalize x.err who good n = er at he HP ⊢
    have heb : (er != 0) = true := by simpa using he
    clear h
    go_enter Try.func21, Try.ntmps21
    go_wp2_with (first
      | (go_at_call 39; (with_reducible refine HP.out.mono ?_); rintro e w1 ⟨⟨p, rfl⟩, rfl⟩))
    go_ret
    exact ⟨rfl, H.out, Only.refl _ _⟩
  · have he' : x.err who good n = 0 := by omega
    obtain ⟨w0, w1, g0, g1, n0, n1⟩ := Led.err_ok he'
    obtain ⟨i, rfl⟩ : ∃ i : Nat, who = (i : Int) := ⟨who.toNat, by omega⟩
    have hi : i < x.n := by omega
    have hkd := h.ok.kinds
    obtain ⟨q, rfl⟩ : ∃ q : Nat, good = (q : Int) := ⟨good.toNat, by omega⟩
    have hq : q < 4 := by omega
    have hqI : (q : Int) < 4 := by omega
    have hq0 : (0 : Int) ≤ (q : Int) := by omega
    have HP := Lib.hid (part_ok w g gl x h i hi q n (by omega) (by omega) n0 n1)
    have HT := Lib.hid (totals_calls w g gl x h)
    obtain ⟨z1, z2⟩ := h.ok.good i q hi hq
    have z3 := h.ok.good_le hi hq
    have t0 : 0 ≤ x.tot (2 + q) := sumTo_pos fun j hj => by have := h.ok.good j q hj hq; omega
    have t1 := h.ok.mosts q hq
    have hcell : Hid (∀ (w1 : World) (b : Nat), Blk w1 b 27 #[.int .i64 (x.tot 2), .int .i64 (x.tot 3), .int .i64 (x.tot 4), .int .i64 (x.tot 5)] → w1.cell? ⟨b, q, none⟩ = some (.int .i64 (x.tot (2 + q)))) := Lib.hid fun w1 b hB => by
      rcases (show q = 0 ∨ q = 1 ∨ q = 2 ∨ q = 3 by omega) with rfl | rfl | rfl | rfl <;> exact hB.cell _
    have HI := Lib.hid hi
    clear g0 hkd
    by_cases hp : 1099511627776 < x.tot (2 + q) + n
    · have E : Hid (x.store i q n = (x, 62)) := Lib.hid (by unfold Led.store; rw [if_neg he, Int.toNat_natCast, if_pos hp])
      rw [E.out]
      clear h he he'
      go_enter Try.func21, Try.ntmps21
      go_upto_region 5 with (first
        | (go_at_call 39; (with_reducible refine HP.out.mono ?_); rintro e w1 ⟨rfl, rfl⟩)
        | (go_at_call 8; (with_reducible refine HT.out.mono ?_); rintro e w2 ⟨rfl, hb⟩))
      obtain ⟨gb, hgb⟩ : ∃ gb, gb = w2.heap.size := ⟨_, rfl⟩
      have hBn : Hid (Blk (w2.alloc (.cells #[.int .i64 (x.tot 2), .int .i64 (x.tot 3), .int .i64 (x.tot 4), .int .i64 (x.tot 5)] 27)) gb 27 #[.int .i64 (x.tot 2), .int .i64 (x.tot 3), .int .i64 (x.tot 4), .int .i64 (x.tot 5)]) := Lib.hid (by rw [hgb]; exact Blk.new _ _ _)
      rw [← hgb]
      clear hgb
      generalize hwy : World.alloc w2 _ = wy at hBn ⊢
      have Hy : Hid (AtL wy g gl x) := Lib.hid (by rw [← hwy]; exact (H.out.next hb).next ((Below.refl _ _).alloc (Nat.le_refl _) _))
      have Oy : Hid (Only (feetL gl) w wy) := Lib.hid (by rw [← hwy]; exact Only.of_below (hb.alloc hb.size _))
      have k0 := hcell.out _ _ hBn.out
      generalize x.tot (2 + q) = t at t0 t1 hp k0
      clear hwy hb HT HP hBn hcell
      go_wp2
      go_ret
      exact ⟨rfl, Hy.out, Oy.out⟩
    · have hp' : x.tot (2 + q) + n ≤ 1099511627776 := by omega
      have E : Hid (x.store i q n = (x.inc i (2 + q) n, 0)) := Lib.hid (by unfold Led.store; rw [if_neg he, Int.toNat_natCast, Int.toNat_natCast, if_neg hp])
      rw [E.out]
      have hok : Hid ((x.inc i (2 + q) n).Ok) := Lib.hid (h.ok.incg hi hq (by omega) n (by omega) (by omega))
      have hN : Hid (∀ w1, AtL w1 g gl x → ∀ v, v = x.z i (2 + q) + n → AtL (w1.setCell ⟨gl, i * 12 + 2 + q, none⟩ (.int .i64 v)) g gl (x.inc i (2 + q) n)) := Lib.hid fun w1 h v hv => by
        have := h.inc (i := i) (k := 2 + q) (by omega) n v hv hok.out
        rwa [← Nat.add_assoc] at this
      have KA : Hid (∀ w1, AtL w1 g gl x → w1.cell? ⟨gl, i * 12 + 2 + q, none⟩ = some (.int .i64 (x.z i (2 + q)))) := Lib.hid fun w1 h => by
        rw [Nat.add_assoc]; exact h.num hi (by omega)
      clear h he he' hp
      go_enter Try.func21, Try.ntmps21
      go_upto_region 5 with (first
        | (go_at_call 39; (with_reducible refine HP.out.mono ?_); rintro e w1 ⟨rfl, rfl⟩)
        | (go_at_call 8; (with_reducible refine HT.out.mono ?_); rintro e w2 ⟨rfl, hb⟩))
      obtain ⟨gb, hgb⟩ : ∃ gb, gb = w2.heap.size := ⟨_, rfl⟩
      have hBn : Hid (Blk (w2.alloc (.cells #[.int .i64 (x.tot 2), .int .i64 (x.tot 3), .int .i64 (x.tot 4), .int .i64 (x.tot 5)] 27)) gb 27 #[.int .i64 (x.tot 2), .int .i64 (x.tot 3), .int .i64 (x.tot 4), .int .i64 (x.tot 5)]) := Lib.hid (by rw [hgb]; exact Blk.new _ _ _)
      rw [← hgb]
      clear hgb
      generalize hwy : World.alloc w2 _ = wy at hBn ⊢
      have Hy : Hid (AtL wy g gl x) := Lib.hid (by rw [← hwy]; exact (H.out.next hb).next ((Below.refl _ _).alloc (Nat.le_refl _) _))
      have Oy : Hid (Only (feetL gl) w wy) := Lib.hid (by rw [← hwy]; exact Only.of_below (hb.alloc hb.size _))
      have k0 := hcell.out _ _ hBn.out
      have k1 := KA.out wy Hy.out
      have f1 : wy.frozen? ⟨gl, i * 12 + 2 + q, none⟩ = false := Hy.out.list.frozen _
      generalize x.tot (2 + q) = t at t0 t1 hp' k0
      clear hwy hb HT HP hBn hcell
      go_upto_region 7 with (fail)
      go_still_tail 13, (by kernel_rfl)
      change wpList _ _ _ _ _ wy.drew
      have Hz : Hid (AtL wy.drew g gl x) := Lib.hid (Hy.out.drewN 1)
      have Oz : Hid (Only (feetL gl) w wy.drew) := Lib.hid (Oy.out.drewN 1)
      go_wp2
      go_ret
      exact ⟨rfl, hN.out _ Hz.out _ (by omega), only_put Oz.out _ _⟩
end Go.Proofs.Ythhjockofihohaa
