/- The contracts of Take, Hold and Free. -/
import Derived.Test.YthhjockofihohaaLedM
import Derived.Test.YthhjockofihohaaLedOk
namespace Go.Proofs.Ythhjockofihohaa
open Go.RowKit
def feetL (gl : Nat) (k : Nat) : Prop := k = gl
theorem AtL.inc {w : World} {g gl : Nat} {x : Led} (h : AtL w g gl x) {i k : Nat} (hk : k < 11) (d v : Int) (hv : v = x.z i k + d) (hok : (x.inc i k d).Ok) : AtL (w.setCell ⟨gl, i * 12 + k, none⟩ (.int .i64 v)) g gl (x.inc i k d) := by
  subst hv; exact h.put hk _ hok
theorem only_put {w w1 : World} {gl : Nat} (h : Only (feetL gl) w w1) (o : Nat) (v : Value) : Only (feetL gl) w (w1.setCell ⟨gl, o, none⟩ v) := Only.setCell h (.inl rfl) v
set_option maxHeartbeats 1000000 in
theorem take_calls (w : World) (g gl : Nat) (x : Led) (h : AtL w g gl x) (who n : Int) :
    Calls Try.prog 20 #[.pointer (some ⟨g, 0, none⟩), .int .i64 who, .int .i64 n] w fun e w' => e = .returned (.int .i64 (x.take who n).2) ∧ AtL w' g gl (x.take who n).1 ∧ Only (feetL gl) w w' := by
  have H := Lib.hid h
  by_cases he : x.err who 0 n ≠ 0
  · have HP := Lib.hid (part_bad w g gl x h who 0 n he)
    have E : Hid (x.take who n = (x, x.err who 0 n)) := Lib.hid (by unfold Led.take; rw [if_pos he])
    rw [E.out]
    generalize x.err who 0 n = er at he HP ⊢
    have heb : (er != 0) = true := by simpa using he
    clear h
    go_enter Try.func20, Try.ntmps20
    go_wp2_with (first
      | (go_at_call 39; (with_reducible refine HP.out.mono ?_); rintro e w1 ⟨⟨p, rfl⟩, rfl⟩))
    go_ret
    exact ⟨rfl, H.out, Only.refl _ _⟩
  · have he' : x.err who 0 n = 0 := by omega
    obtain ⟨w0, w1, g0, g1, n0, n1⟩ := Led.err_ok he'
    obtain ⟨i, rfl⟩ : ∃ i : Nat, who = (i : Int) := ⟨who.toNat, by omega⟩
    have hi : i < x.n := by omega
    have hkd := h.ok.kinds
    have HP := Lib.hid (part_ok w g gl x h i hi 0 n (by omega) (by omega) n0 n1)
    have k0 : w.cell? ⟨gl, i * 12, none⟩ = some (.int .i64 (x.z i 0)) := h.num hi (k := 0) (by omega)
    have k1 : w.cell? ⟨gl, i * 12 + 1, none⟩ = some (.int .i64 (x.z i 1)) := h.num hi (k := 1) (by omega)
    have f0 := h.list.frozen (i * 12)
    obtain ⟨z1, z2⟩ := h.ok.cash i hi
    have z3 := h.ok.cash_le hi
    clear g0 hkd
    by_cases hp : x.z i 0 - x.z i 1 < n
    · have E : Hid (x.take i n = (x, 61)) := Lib.hid (by unfold Led.take; rw [if_neg he, Int.toNat_natCast, if_pos hp])
      rw [E.out]
      clear h he he'
      go_enter Try.func20, Try.ntmps20
      go_wp2_with (first
        | (go_at_call 39; (with_reducible refine HP.out.mono ?_); rintro e w1 ⟨rfl, rfl⟩))
      go_quiet (fail)
      go_wp2
      go_ret
      exact ⟨rfl, H.out.drewN _, ((Only.refl _ w).drewN _)⟩
    · have hp' : n ≤ x.z i 0 - x.z i 1 := by omega
      have E : Hid (x.take i n = (x.inc i (0) (-n), 0)) := Lib.hid (by unfold Led.take; rw [if_neg he, Int.toNat_natCast, if_neg hp])
      rw [E.out]
      have hok : Hid ((x.inc i (0) (-n)).Ok) := Lib.hid (h.ok.inc0 hi (-n) (by omega) (by have := h.ok.most; omega))
      have hN : Hid (∀ w1, AtL w1 g gl x → ∀ v, v = x.z i (0) + (-n) → AtL (w1.setCell ⟨gl, i * 12 + 0, none⟩ (.int .i64 v)) g gl (x.inc i (0) (-n))) := Lib.hid fun w1 h v hv => by
        have := h.inc (i := i) (k := 0) (by omega) (-n) v hv hok.out
        exact this
      clear h he he' hp
      go_enter Try.func20, Try.ntmps20
      go_wp2_with (first
        | (go_at_call 39; (with_reducible refine HP.out.mono ?_); rintro e w1 ⟨rfl, rfl⟩))
      go_quiet (fail)
      go_upto_region 6 with (fail)
      generalize hwy : World.drewN _ _ = wy
      have Hy : Hid (AtL wy g gl x) := Lib.hid (by rw [← hwy]; exact H.out.drewN _)
      have Oy : Hid (Only (feetL gl) w wy) := Lib.hid (by rw [← hwy]; exact (Only.refl _ w).drewN _)
      have k0y : wy.cell? ⟨gl, i * 12, none⟩ = some (.int .i64 (x.z i 0)) := Hy.out.num hi (k := 0) (by omega)
      have k1y : wy.cell? ⟨gl, i * 12 + 1, none⟩ = some (.int .i64 (x.z i 1)) := Hy.out.num hi (k := 1) (by omega)
      have f0y := Hy.out.list.frozen (i * 12)
      clear k0 k1 f0 hwy
      go_wp2
      go_ret
      exact ⟨rfl, hN.out _ Hy.out _ (by omega), only_put Oy.out _ _⟩
set_option maxHeartbeats 1000000 in
theorem hold_calls (w : World) (g gl : Nat) (x : Led) (h : AtL w g gl x) (who n : Int) :
    Calls Try.prog 23 #[.pointer (some ⟨g, 0, none⟩), .int .i64 who, .int .i64 n] w fun e w' => e = .returned (.int .i64 (x.hold who n).2) ∧ AtL w' g gl (x.hold who n).1 ∧ Only (feetL gl) w w' := by
  have H := Lib.hid h
  by_cases he : x.err who 0 n ≠ 0
  · have HP := Lib.hid (part_bad w g gl x h who 0 n he)
    have E : Hid (x.hold who n = (x, x.err who 0 n)) := Lib.hid (by unfold Led.hold; rw [if_pos he])
    rw [E.out]
    generalize x.err who 0 n = er at he HP ⊢
    have heb : (er != 0) = true := by simpa using he
    clear h
    go_enter Try.func23, Try.ntmps23
    go_wp2_with (first
      | (go_at_call 39; (with_reducible refine HP.out.mono ?_); rintro e w1 ⟨⟨p, rfl⟩, rfl⟩))
    go_ret
    exact ⟨rfl, H.out, Only.refl _ _⟩
  · have he' : x.err who 0 n = 0 := by omega
    obtain ⟨w0, w1, g0, g1, n0, n1⟩ := Led.err_ok he'
    obtain ⟨i, rfl⟩ : ∃ i : Nat, who = (i : Int) := ⟨who.toNat, by omega⟩
    have hi : i < x.n := by omega
    have hkd := h.ok.kinds
    have HP := Lib.hid (part_ok w g gl x h i hi 0 n (by omega) (by omega) n0 n1)
    have k0 : w.cell? ⟨gl, i * 12, none⟩ = some (.int .i64 (x.z i 0)) := h.num hi (k := 0) (by omega)
    have k1 : w.cell? ⟨gl, i * 12 + 1, none⟩ = some (.int .i64 (x.z i 1)) := h.num hi (k := 1) (by omega)
    have f0 := h.list.frozen (i * 12 + 1)
    obtain ⟨z1, z2⟩ := h.ok.cash i hi
    have z3 := h.ok.cash_le hi
    clear g0 hkd
    by_cases hp : x.z i 0 - x.z i 1 < n
    · have E : Hid (x.hold i n = (x, 61)) := Lib.hid (by unfold Led.hold; rw [if_neg he, Int.toNat_natCast, if_pos hp])
      rw [E.out]
      clear h he he'
      go_enter Try.func23, Try.ntmps23
      go_wp2_with (first
        | (go_at_call 39; (with_reducible refine HP.out.mono ?_); rintro e w1 ⟨rfl, rfl⟩))
      go_quiet (fail)
      go_wp2
      go_ret
      exact ⟨rfl, H.out.drewN _, ((Only.refl _ w).drewN _)⟩
    · have hp' : n ≤ x.z i 0 - x.z i 1 := by omega
      have E : Hid (x.hold i n = (x.inc i (1) (n), 0)) := Lib.hid (by unfold Led.hold; rw [if_neg he, Int.toNat_natCast, if_neg hp])
      rw [E.out]
      have hok : Hid ((x.inc i (1) (n)).Ok) := Lib.hid (h.ok.inc1 hi n (by omega) (by omega))
      have hN : Hid (∀ w1, AtL w1 g gl x → ∀ v, v = x.z i (1) + (n) → AtL (w1.setCell ⟨gl, i * 12 + 1, none⟩ (.int .i64 v)) g gl (x.inc i (1) (n))) := Lib.hid fun w1 h v hv => by
        have := h.inc (i := i) (k := 1) (by omega) (n) v hv hok.out
        exact this
      clear h he he' hp
      go_enter Try.func23, Try.ntmps23
      go_wp2_with (first
        | (go_at_call 39; (with_reducible refine HP.out.mono ?_); rintro e w1 ⟨rfl, rfl⟩))
      go_quiet (fail)
      go_upto_region 6 with (fail)
      generalize hwy : World.drewN _ _ = wy
      have Hy : Hid (AtL wy g gl x) := Lib.hid (by rw [← hwy]; exact H.out.drewN _)
      have Oy : Hid (Only (feetL gl) w wy) := Lib.hid (by rw [← hwy]; exact (Only.refl _ w).drewN _)
      have k0y : wy.cell? ⟨gl, i * 12, none⟩ = some (.int .i64 (x.z i 0)) := Hy.out.num hi (k := 0) (by omega)
      have k1y : wy.cell? ⟨gl, i * 12 + 1, none⟩ = some (.int .i64 (x.z i 1)) := Hy.out.num hi (k := 1) (by omega)
      have f0y := Hy.out.list.frozen (i * 12 + 1)
      clear k0 k1 f0 hwy
      go_wp2
      go_ret
      exact ⟨rfl, hN.out _ Hy.out _ (by omega), only_put Oy.out _ _⟩
set_option maxHeartbeats 1000000 in
theorem free_calls (w : World) (g gl : Nat) (x : Led) (h : AtL w g gl x) (who n : Int) :
    Calls Try.prog 24 #[.pointer (some ⟨g, 0, none⟩), .int .i64 who, .int .i64 n] w fun e w' => e = .returned (.int .i64 (x.free who n).2) ∧ AtL w' g gl (x.free who n).1 ∧ Only (feetL gl) w w' := by
  have H := Lib.hid h
  by_cases he : x.err who 0 n ≠ 0
  · have HP := Lib.hid (part_bad w g gl x h who 0 n he)
    have E : Hid (x.free who n = (x, x.err who 0 n)) := Lib.hid (by unfold Led.free; rw [if_pos he])
    rw [E.out]
    generalize x.err who 0 n = er at he HP ⊢
    have heb : (er != 0) = true := by simpa using he
    clear h
    go_enter Try.func24, Try.ntmps24
    go_wp2_with (first
      | (go_at_call 39; (with_reducible refine HP.out.mono ?_); rintro e w1 ⟨⟨p, rfl⟩, rfl⟩))
    go_ret
    exact ⟨rfl, H.out, Only.refl _ _⟩
  · have he' : x.err who 0 n = 0 := by omega
    obtain ⟨w0, w1, g0, g1, n0, n1⟩ := Led.err_ok he'
    obtain ⟨i, rfl⟩ : ∃ i : Nat, who = (i : Int) := ⟨who.toNat, by omega⟩
    have hi : i < x.n := by omega
    have hkd := h.ok.kinds
    have HP := Lib.hid (part_ok w g gl x h i hi 0 n (by omega) (by omega) n0 n1)
    have k0 : w.cell? ⟨gl, i * 12, none⟩ = some (.int .i64 (x.z i 0)) := h.num hi (k := 0) (by omega)
    have k1 : w.cell? ⟨gl, i * 12 + 1, none⟩ = some (.int .i64 (x.z i 1)) := h.num hi (k := 1) (by omega)
    have f0 := h.list.frozen (i * 12 + 1)
    obtain ⟨z1, z2⟩ := h.ok.cash i hi
    have z3 := h.ok.cash_le hi
    clear g0 hkd
    by_cases hp : x.z i 1 < n
    · have E : Hid (x.free i n = (x, 61)) := Lib.hid (by unfold Led.free; rw [if_neg he, Int.toNat_natCast, if_pos hp])
      rw [E.out]
      clear h he he'
      go_enter Try.func24, Try.ntmps24
      go_wp2_with (first
        | (go_at_call 39; (with_reducible refine HP.out.mono ?_); rintro e w1 ⟨rfl, rfl⟩))
      go_ret
      exact ⟨rfl, H.out, (Only.refl _ w)⟩
    · have hp' : n ≤ x.z i 1 := by omega
      have E : Hid (x.free i n = (x.inc i (1) (-n), 0)) := Lib.hid (by unfold Led.free; rw [if_neg he, Int.toNat_natCast, if_neg hp])
      rw [E.out]
      have hok : Hid ((x.inc i (1) (-n)).Ok) := Lib.hid (h.ok.inc1 hi (-n) (by omega) (by omega))
      have hN : Hid (∀ w1, AtL w1 g gl x → ∀ v, v = x.z i (1) + (-n) → AtL (w1.setCell ⟨gl, i * 12 + 1, none⟩ (.int .i64 v)) g gl (x.inc i (1) (-n))) := Lib.hid fun w1 h v hv => by
        have := h.inc (i := i) (k := 1) (by omega) (-n) v hv hok.out
        exact this
      clear h he he' hp
      go_enter Try.func24, Try.ntmps24
      go_wp2_with (first
        | (go_at_call 39; (with_reducible refine HP.out.mono ?_); rintro e w1 ⟨rfl, rfl⟩))
      have Hy := H
      have Oy : Hid (Only (feetL gl) w w) := Lib.hid (Only.refl _ w)
      go_wp2
      go_ret
      exact ⟨rfl, hN.out _ Hy.out _ (by omega), only_put Oy.out _ _⟩
end Go.Proofs.Ythhjockofihohaa
