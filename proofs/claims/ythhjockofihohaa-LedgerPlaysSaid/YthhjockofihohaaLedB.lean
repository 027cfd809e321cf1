/- The contracts of Fetch, Lock and Unlock. -/
import Derived.Test.YthhjockofihohaaLedA
namespace Go.Proofs.Ythhjockofihohaa
open Go.RowKit
set_option maxHeartbeats 1000000 in
theorem fetch_calls (w : World) (g gl : Nat) (x : Led) (h : AtL w g gl x) (who good n : Int) :
    Calls Try.prog 22 #[.pointer (some ⟨g, 0, none⟩), .int .i64 who, .int .i64 good, .int .i64 n] w fun e w' => e = .returned (.int .i64 (x.fetch who good n).2) ∧ AtL w' g gl (x.fetch who good n).1 ∧ Only (feetL gl) w w' := by
  have H := Lib.hid h
  by_cases he : x.err who good n ≠ 0
  · have HP := Lib.hid (part_bad w g gl x h who good n he)
    have E : Hid (x.fetch who good n = (x, x.err who good n)) := Lib.hid (by unfold Led.fetch; rw [if_pos he])
    rw [E.out]
    generalize x.err who good n = er at he HP ⊢
    have heb : (er != 0) = true := by simpa using he
    clear h
    go_enter Try.func22, Try.ntmps22
    go_wp2_with (first
      | (go_at_call 39; (with_reducible refine HP.out.mono ?_); rintro e w1 ⟨⟨p, rfl⟩, rfl⟩))
    go_ret
    exact ⟨rfl, H.out, Only.refl _ _⟩
  · have he' : x.err who good n = 0 := by omega
    obtain ⟨w0, w1, g0, g1, n0, n1⟩ := Led.err_ok he'
    obtain ⟨i, rfl⟩ : ∃ i : Nat, who = (i : Int) := ⟨who.toNat, by omega⟩
    have hi : i < x.n := by omega
    have hkd := h.ok.kinds
    obtain ⟨q, rfl⟩ : ∃ q : Nat, good = (q : Int) := ⟨good.toNat, by omega⟩
    have hq : q < 4 := by omega
    have hqI : (q : Int) < 4 := by omega
    have hq0 : (0 : Int) ≤ (q : Int) := by omega
    have HP := Lib.hid (part_ok w g gl x h i hi q n (by omega) (by omega) n0 n1)
    have KA : Hid (∀ w1, AtL w1 g gl x → w1.cell? ⟨gl, i * 12 + 2 + q, none⟩ = some (.int .i64 (x.z i (2 + q))) ∧ w1.cell? ⟨gl, i * 12 + 6 + q, none⟩ = some (.int .i64 (x.z i (6 + q)))) := Lib.hid fun w1 h => by
      rw [Nat.add_assoc, Nat.add_assoc]; exact ⟨h.num hi (by omega), h.num hi (by omega)⟩
    obtain ⟨k0, k1⟩ := KA.out w h
    have f0 : w.frozen? ⟨gl, i * 12 + 2 + q, none⟩ = false := h.list.frozen _
    obtain ⟨z1, z2⟩ := h.ok.good i q hi hq
    have z3 := h.ok.good_le hi hq
    clear g0 hkd
    by_cases hp : x.z i (2 + q) - x.z i (6 + q) < n
    · have E : Hid (x.fetch i q n = (x, 61)) := Lib.hid (by unfold Led.fetch; rw [if_neg he, Int.toNat_natCast, Int.toNat_natCast, if_pos hp])
      rw [E.out]
      clear h he he'
      go_enter Try.func22, Try.ntmps22
      go_wp2_with (first
        | (go_at_call 39; (with_reducible refine HP.out.mono ?_); rintro e w1 ⟨rfl, rfl⟩))
      go_quiet (fail)
      go_wp2
      go_ret
      exact ⟨rfl, H.out.drewN _, ((Only.refl _ w).drewN _)⟩
    · have hp' : n ≤ x.z i (2 + q) - x.z i (6 + q) := by omega
      have E : Hid (x.fetch i q n = (x.inc i (2 + q) (-n), 0)) := Lib.hid (by unfold Led.fetch; rw [if_neg he, Int.toNat_natCast, Int.toNat_natCast, if_neg hp])
      rw [E.out]
      have hok : Hid ((x.inc i (2 + q) (-n)).Ok) := Lib.hid (h.ok.incg hi hq (by omega) (-n) (by omega) (by have := h.ok.mosts q hq; omega))
      have hN : Hid (∀ w1, AtL w1 g gl x → ∀ v, v = x.z i (2 + q) + (-n) → AtL (w1.setCell ⟨gl, i * 12 + 2 + q, none⟩ (.int .i64 v)) g gl (x.inc i (2 + q) (-n))) := Lib.hid fun w1 h v hv => by
        have := h.inc (i := i) (k := 2 + q) (by omega) (-n) v hv hok.out
        rwa [← Nat.add_assoc] at this
      clear h he he' hp
      go_enter Try.func22, Try.ntmps22
      go_wp2_with (first
        | (go_at_call 39; (with_reducible refine HP.out.mono ?_); rintro e w1 ⟨rfl, rfl⟩))
      go_quiet (fail)
      go_upto_region 6 with (fail)
      generalize hwy : World.drewN _ _ = wy
      have Hy : Hid (AtL wy g gl x) := Lib.hid (by rw [← hwy]; exact H.out.drewN _)
      have Oy : Hid (Only (feetL gl) w wy) := Lib.hid (by rw [← hwy]; exact (Only.refl _ w).drewN _)
      obtain ⟨k0y, k1y⟩ := KA.out wy Hy.out
      have f0y : wy.frozen? ⟨gl, i * 12 + 2 + q, none⟩ = false := Hy.out.list.frozen _
      clear k0 k1 f0 hwy
      go_still_tail 13, (by kernel_rfl)
      change wpList _ _ _ _ _ wy.drew
      have Hz : Hid (AtL wy.drew g gl x) := Lib.hid (Hy.out.drewN 1)
      have Oz : Hid (Only (feetL gl) w wy.drew) := Lib.hid (Oy.out.drewN 1)
      go_wp2
      go_ret
      exact ⟨rfl, hN.out _ Hz.out _ (by omega), only_put Oz.out _ _⟩
set_option maxHeartbeats 1000000 in
theorem lock_calls (w : World) (g gl : Nat) (x : Led) (h : AtL w g gl x) (who good n : Int) :
    Calls Try.prog 25 #[.pointer (some ⟨g, 0, none⟩), .int .i64 who, .int .i64 good, .int .i64 n] w fun e w' => e = .returned (.int .i64 (x.lock who good n).2) ∧ AtL w' g gl (x.lock who good n).1 ∧ Only (feetL gl) w w' := by
  have H := Lib.hid h
  by_cases he : x.err who good n ≠ 0
  · have HP := Lib.hid (part_bad w g gl x h who good n he)
    have E : Hid (x.lock who good n = (x, x.err who good n)) := Lib.hid (by unfold Led.lock; rw [if_pos he])
    rw [E.out]
    generalize x.err who good n = er at he HP ⊢
    have heb : (er != 0) = true := by simpa using he
    clear h
    go_enter Try.func25, Try.ntmps25
    go_wp2_with (first
      | (go_at_call 39; (with_reducible refine HP.out.mono ?_); rintro e w1 ⟨⟨p, rfl⟩, rfl⟩))
    go_ret
    exact ⟨rfl, H.out, Only.refl _ _⟩
  · have he' : x.err who good n = 0 := by omega
    obtain ⟨w0, w1, g0, g1, n0, n1⟩ := Led.err_ok he'
    obtain ⟨i, rfl⟩ : ∃ i : Nat, who = (i : Int) := ⟨who.toNat, by omega⟩
    have hi : i < x.n := by omega
    have hkd := h.ok.kinds
    obtain ⟨q, rfl⟩ : ∃ q : Nat, good = (q : Int) := ⟨good.toNat, by omega⟩
    have hq : q < 4 := by omega
    have hqI : (q : Int) < 4 := by omega
    have hq0 : (0 : Int) ≤ (q : Int) := by omega
    have HP := Lib.hid (part_ok w g gl x h i hi q n (by omega) (by omega) n0 n1)
    have KA : Hid (∀ w1, AtL w1 g gl x → w1.cell? ⟨gl, i * 12 + 2 + q, none⟩ = some (.int .i64 (x.z i (2 + q))) ∧ w1.cell? ⟨gl, i * 12 + 6 + q, none⟩ = some (.int .i64 (x.z i (6 + q)))) := Lib.hid fun w1 h => by
      rw [Nat.add_assoc, Nat.add_assoc]; exact ⟨h.num hi (by omega), h.num hi (by omega)⟩
    obtain ⟨k0, k1⟩ := KA.out w h
    have f0 : w.frozen? ⟨gl, i * 12 + 6 + q, none⟩ = false := h.list.frozen _
    obtain ⟨z1, z2⟩ := h.ok.good i q hi hq
    have z3 := h.ok.good_le hi hq
    clear g0 hkd
    by_cases hp : x.z i (2 + q) - x.z i (6 + q) < n
    · have E : Hid (x.lock i q n = (x, 61)) := Lib.hid (by unfold Led.lock; rw [if_neg he, Int.toNat_natCast, Int.toNat_natCast, if_pos hp])
      rw [E.out]
      clear h he he'
      go_enter Try.func25, Try.ntmps25
      go_wp2_with (first
        | (go_at_call 39; (with_reducible refine HP.out.mono ?_); rintro e w1 ⟨rfl, rfl⟩))
      go_quiet (fail)
      go_wp2
      go_ret
      exact ⟨rfl, H.out.drewN _, ((Only.refl _ w).drewN _)⟩
    · have hp' : n ≤ x.z i (2 + q) - x.z i (6 + q) := by omega
      have E : Hid (x.lock i q n = (x.inc i (6 + q) (n), 0)) := Lib.hid (by unfold Led.lock; rw [if_neg he, Int.toNat_natCast, Int.toNat_natCast, if_neg hp])
      rw [E.out]
      have hok : Hid ((x.inc i (6 + q) (n)).Ok) := Lib.hid (h.ok.incl hi hq n (by omega) (by omega))
      have hN : Hid (∀ w1, AtL w1 g gl x → ∀ v, v = x.z i (6 + q) + (n) → AtL (w1.setCell ⟨gl, i * 12 + 6 + q, none⟩ (.int .i64 v)) g gl (x.inc i (6 + q) (n))) := Lib.hid fun w1 h v hv => by
        have := h.inc (i := i) (k := 6 + q) (by omega) (n) v hv hok.out
        rwa [← Nat.add_assoc] at this
      clear h he he' hp
      go_enter Try.func25, Try.ntmps25
      go_wp2_with (first
        | (go_at_call 39; (with_reducible refine HP.out.mono ?_); rintro e w1 ⟨rfl, rfl⟩))
      go_quiet (fail)
      go_upto_region 6 with (fail)
      generalize hwy : World.drewN _ _ = wy
      have Hy : Hid (AtL wy g gl x) := Lib.hid (by rw [← hwy]; exact H.out.drewN _)
      have Oy : Hid (Only (feetL gl) w wy) := Lib.hid (by rw [← hwy]; exact (Only.refl _ w).drewN _)
      obtain ⟨k0y, k1y⟩ := KA.out wy Hy.out
      have f0y : wy.frozen? ⟨gl, i * 12 + 6 + q, none⟩ = false := Hy.out.list.frozen _
      clear k0 k1 f0 hwy
      go_still_tail 13, (by kernel_rfl)
      change wpList _ _ _ _ _ wy.drew
      have Hz : Hid (AtL wy.drew g gl x) := Lib.hid (Hy.out.drewN 1)
      have Oz : Hid (Only (feetL gl) w wy.drew) := Lib.hid (Oy.out.drewN 1)
      go_wp2
      go_ret
      exact ⟨rfl, hN.out _ Hz.out _ (by omega), only_put Oz.out _ _⟩
set_option maxHeartbeats 1000000 in
theorem unlock_calls (w : World) (g gl : Nat) (x : Led) (h : AtL w g gl x) (who good n : Int) :
    Calls Try.prog 26 #[.pointer (some ⟨g, 0, none⟩), .int .i64 who, .int .i64 good, .int .i64 n] w fun e w' => e = .returned (.int .i64 (x.unlock who good n).2) ∧ AtL w' g gl (x.unlock who good n).1 ∧ Only (feetL gl) w w' := by
  have H := Lib.hid h
  by_cases he : x.err who good n ≠ 0
  · have HP := Lib.hid (part_bad w g gl x h who good n he)
    have E : Hid (x.unlock who good n = (x, x.err who good n)) := Lib.hid (by unfold Led.unlock; rw [if_pos he])
    rw [E.out]
    generalize x.err who good n = er at he HP ⊢
    have heb : (er != 0) = true := by simpa using he
    clear h
    go_enter Try.func26, Try.ntmps26
    go_wp2_with (first
      | (go_at_call 39; (with_reducible refine HP.out.mono ?_); rintro e w1 ⟨⟨p, rfl⟩, rfl⟩))
    go_ret
    exact ⟨rfl, H.out, Only.refl _ _⟩
  · have he' : x.err who good n = 0 := by omega
    obtain ⟨w0, w1, g0, g1, n0, n1⟩ := Led.err_ok he'
    obtain ⟨i, rfl⟩ : ∃ i : Nat, who = (i : Int) := ⟨who.toNat, by omega⟩
    have hi : i < x.n := by omega
    have hkd := h.ok.kinds
    obtain ⟨q, rfl⟩ : ∃ q : Nat, good = (q : Int) := ⟨good.toNat, by omega⟩
    have hq : q < 4 := by omega
    have hqI : (q : Int) < 4 := by omega
    have hq0 : (0 : Int) ≤ (q : Int) := by omega
    have HP := Lib.hid (part_ok w g gl x h i hi q n (by omega) (by omega) n0 n1)
    have KA : Hid (∀ w1, AtL w1 g gl x → w1.cell? ⟨gl, i * 12 + 2 + q, none⟩ = some (.int .i64 (x.z i (2 + q))) ∧ w1.cell? ⟨gl, i * 12 + 6 + q, none⟩ = some (.int .i64 (x.z i (6 + q)))) := Lib.hid fun w1 h => by
      rw [Nat.add_assoc, Nat.add_assoc]; exact ⟨h.num hi (by omega), h.num hi (by omega)⟩
    obtain ⟨k0, k1⟩ := KA.out w h
    have f0 : w.frozen? ⟨gl, i * 12 + 6 + q, none⟩ = false := h.list.frozen _
    obtain ⟨z1, z2⟩ := h.ok.good i q hi hq
    have z3 := h.ok.good_le hi hq
    clear g0 hkd
    by_cases hp : x.z i (6 + q) < n
    · have E : Hid (x.unlock i q n = (x, 61)) := Lib.hid (by unfold Led.unlock; rw [if_neg he, Int.toNat_natCast, Int.toNat_natCast, if_pos hp])
      rw [E.out]
      clear h he he'
      go_enter Try.func26, Try.ntmps26
      go_wp2_with (first
        | (go_at_call 39; (with_reducible refine HP.out.mono ?_); rintro e w1 ⟨rfl, rfl⟩))
      go_ret
      exact ⟨rfl, H.out, (Only.refl _ w)⟩
    · have hp' : n ≤ x.z i (6 + q) := by omega
      have E : Hid (x.unlock i q n = (x.inc i (6 + q) (-n), 0)) := Lib.hid (by unfold Led.unlock; rw [if_neg he, Int.toNat_natCast, Int.toNat_natCast, if_neg hp])
      rw [E.out]
      have hok : Hid ((x.inc i (6 + q) (-n)).Ok) := Lib.hid (h.ok.incl hi hq (-n) (by omega) (by omega))
      have hN : Hid (∀ w1, AtL w1 g gl x → ∀ v, v = x.z i (6 + q) + (-n) → AtL (w1.setCell ⟨gl, i * 12 + 6 + q, none⟩ (.int .i64 v)) g gl (x.inc i (6 + q) (-n))) := Lib.hid fun w1 h v hv => by
        have := h.inc (i := i) (k := 6 + q) (by omega) (-n) v hv hok.out
        rwa [← Nat.add_assoc] at this
      clear h he he' hp
      go_enter Try.func26, Try.ntmps26
      go_wp2_with (first
        | (go_at_call 39; (with_reducible refine HP.out.mono ?_); rintro e w1 ⟨rfl, rfl⟩))
      have Hy := H
      have Oy : Hid (Only (feetL gl) w w) := Lib.hid (Only.refl _ w)
      go_still_tail 13, (by kernel_rfl)
      change wpList _ _ _ _ _ w.drew
      have Hz : Hid (AtL w.drew g gl x) := Lib.hid (Hy.out.drewN 1)
      have Oz : Hid (Only (feetL gl) w w.drew) := Lib.hid (Oy.out.drewN 1)
      go_wp2
      go_ret
      exact ⟨rfl, hN.out _ Hz.out _ (by omega), only_put Oz.out _ _⟩
end Go.Proofs.Ythhjockofihohaa
