/- done: and only the accounts' block may have turned of what was there. -/
import Derived.Test.YthhjockofihohaaLedF
namespace Go.Proofs.Ythhjockofihohaa
open Go.RowKit
set_option maxHeartbeats 4000000 in
set_option maxRecDepth 100000 in
theorem done_only (w : World) (g gl : Nat) (x : Led) (h : AtL w g gl x) (a : LAct) :
    Calls Try.prog 9 #[.pointer (some ⟨g, 0, none⟩), .agg (acells a).toArray] w fun e w' => e = .returned (.int .i64 (x.act a).2) ∧ AtL w' g gl (x.act a).1 ∧ Only (feetL gl) w w' := by
  have H := Lib.hid h
  have hk := arnd_lt a.kind (below := 11) (by omega)
  have HK := Lib.hid (fun w => around11 a.kind w)
  have E := Lib.hid (show x.act a = match arnd a.kind 11 with | 0 => x.pay a.who a.n | 1 => x.take a.who a.n | 2 => x.store a.who a.good a.n | 3 => x.fetch a.who a.good a.n | 4 => x.hold a.who a.n | 5 => x.free a.who a.n | 6 => x.lock a.who a.good a.n | 7 => x.unlock a.who a.good a.n | 8 => x.move a.who a.dst a.n | 9 => x.hand a.who a.dst a.good a.n | _ => x.mark a.who a.n a.text from rfl)
  generalize arnd a.kind 11 = k at hk HK E
  have HB : Hid (∀ _w1 : World, AtL (w.alloc (.cells (acells a).toArray 24)) g gl x ∧ Below w.heap.size w (w.alloc (.cells (acells a).toArray 24))) := Lib.hid fun _ => ⟨H.out.next ((Below.refl _ _).alloc (Nat.le_refl _) _), (Below.refl _ _).alloc (Nat.le_refl _) _⟩
  unfold acells at HB ⊢
  obtain ⟨kd, who, dst, good, n, text⟩ := a
  simp only at HK E HB ⊢
  clear h
  rcases (show k = 0 ∨ k = 1 ∨ k = 2 ∨ k = 3 ∨ k = 4 ∨ k = 5 ∨ k = 6 ∨ k = 7 ∨ k = 8 ∨ k = 9 ∨ k = 10 by omega) with rfl | rfl | rfl | rfl | rfl | rfl | rfl | rfl | rfl | rfl | rfl
  · simp only at E
    rw [E.out]
    have HM := Lib.hid (pay_calls _ g gl x (HB.out w).1 who n)
    have HW := Lib.hid (HB.out w).2
    clear E hk HB
    go_enter Try.func9, Try.ntmps9
    go_wp2_with (first
      | (go_at_call 10; (with_reducible refine (HK.out _).mono ?_); rintro e w1 ⟨rfl, rfl⟩)
      | (go_at_call 19; (refine HM.out.mono ?_); rintro e w1 ⟨rfl, h1, h2⟩))
    go_ret
    exact ⟨rfl, h1, (Only.of_below HW.out).trans h2 fun k hk => .inl hk⟩
  · simp only at E
    rw [E.out]
    have HM := Lib.hid (take_calls _ g gl x (HB.out w).1 who n)
    have HW := Lib.hid (HB.out w).2
    clear E hk HB
    go_enter Try.func9, Try.ntmps9
    go_wp2_with (first
      | (go_at_call 10; (with_reducible refine (HK.out _).mono ?_); rintro e w1 ⟨rfl, rfl⟩)
      | (go_at_call 20; (refine HM.out.mono ?_); rintro e w1 ⟨rfl, h1, h2⟩))
    go_ret
    exact ⟨rfl, h1, (Only.of_below HW.out).trans h2 fun k hk => .inl hk⟩
  · simp only at E
    rw [E.out]
    have HM := Lib.hid (store_calls _ g gl x (HB.out w).1 who good n)
    have HW := Lib.hid (HB.out w).2
    clear E hk HB
    go_enter Try.func9, Try.ntmps9
    go_wp2_with (first
      | (go_at_call 10; (with_reducible refine (HK.out _).mono ?_); rintro e w1 ⟨rfl, rfl⟩)
      | (go_at_call 21; (refine HM.out.mono ?_); rintro e w1 ⟨rfl, h1, h2⟩))
    go_ret
    exact ⟨rfl, h1, (Only.of_below HW.out).trans h2 fun k hk => .inl hk⟩
  · simp only at E
    rw [E.out]
    have HM := Lib.hid (fetch_calls _ g gl x (HB.out w).1 who good n)
    have HW := Lib.hid (HB.out w).2
    clear E hk HB
    go_enter Try.func9, Try.ntmps9
    go_wp2_with (first
      | (go_at_call 10; (with_reducible refine (HK.out _).mono ?_); rintro e w1 ⟨rfl, rfl⟩)
      | (go_at_call 22; (refine HM.out.mono ?_); rintro e w1 ⟨rfl, h1, h2⟩))
    go_ret
    exact ⟨rfl, h1, (Only.of_below HW.out).trans h2 fun k hk => .inl hk⟩
  · simp only at E
    rw [E.out]
    have HM := Lib.hid (hold_calls _ g gl x (HB.out w).1 who n)
    have HW := Lib.hid (HB.out w).2
    clear E hk HB
    go_enter Try.func9, Try.ntmps9
    go_wp2_with (first
      | (go_at_call 10; (with_reducible refine (HK.out _).mono ?_); rintro e w1 ⟨rfl, rfl⟩)
      | (go_at_call 23; (refine HM.out.mono ?_); rintro e w1 ⟨rfl, h1, h2⟩))
    go_ret
    exact ⟨rfl, h1, (Only.of_below HW.out).trans h2 fun k hk => .inl hk⟩
  · simp only at E
    rw [E.out]
    have HM := Lib.hid (free_calls _ g gl x (HB.out w).1 who n)
    have HW := Lib.hid (HB.out w).2
    clear E hk HB
    go_enter Try.func9, Try.ntmps9
    go_wp2_with (first
      | (go_at_call 10; (with_reducible refine (HK.out _).mono ?_); rintro e w1 ⟨rfl, rfl⟩)
      | (go_at_call 24; (refine HM.out.mono ?_); rintro e w1 ⟨rfl, h1, h2⟩))
    go_ret
    exact ⟨rfl, h1, (Only.of_below HW.out).trans h2 fun k hk => .inl hk⟩
  · simp only at E
    rw [E.out]
    have HM := Lib.hid (lock_calls _ g gl x (HB.out w).1 who good n)
    have HW := Lib.hid (HB.out w).2
    clear E hk HB
    go_enter Try.func9, Try.ntmps9
    go_wp2_with (first
      | (go_at_call 10; (with_reducible refine (HK.out _).mono ?_); rintro e w1 ⟨rfl, rfl⟩)
      | (go_at_call 25; (refine HM.out.mono ?_); rintro e w1 ⟨rfl, h1, h2⟩))
    go_ret
    exact ⟨rfl, h1, (Only.of_below HW.out).trans h2 fun k hk => .inl hk⟩
  · simp only at E
    rw [E.out]
    have HM := Lib.hid (unlock_calls _ g gl x (HB.out w).1 who good n)
    have HW := Lib.hid (HB.out w).2
    clear E hk HB
    go_enter Try.func9, Try.ntmps9
    go_wp2_with (first
      | (go_at_call 10; (with_reducible refine (HK.out _).mono ?_); rintro e w1 ⟨rfl, rfl⟩)
      | (go_at_call 26; (refine HM.out.mono ?_); rintro e w1 ⟨rfl, h1, h2⟩))
    go_ret
    exact ⟨rfl, h1, (Only.of_below HW.out).trans h2 fun k hk => .inl hk⟩
  · simp only at E
    rw [E.out]
    have HM := Lib.hid (move_calls _ g gl x (HB.out w).1 who dst n)
    have HW := Lib.hid (HB.out w).2
    clear E hk HB
    go_enter Try.func9, Try.ntmps9
    go_wp2_with (first
      | (go_at_call 10; (with_reducible refine (HK.out _).mono ?_); rintro e w1 ⟨rfl, rfl⟩)
      | (go_at_call 27; (refine HM.out.mono ?_); rintro e w1 ⟨rfl, h1, h2⟩))
    go_ret
    exact ⟨rfl, h1, (Only.of_below HW.out).trans h2 fun k hk => .inl hk⟩
  · simp only at E
    rw [E.out]
    have HM := Lib.hid (hand_calls _ g gl x (HB.out w).1 who dst good n)
    have HW := Lib.hid (HB.out w).2
    clear E hk HB
    go_enter Try.func9, Try.ntmps9
    go_wp2_with (first
      | (go_at_call 10; (with_reducible refine (HK.out _).mono ?_); rintro e w1 ⟨rfl, rfl⟩)
      | (go_at_call 28; (refine HM.out.mono ?_); rintro e w1 ⟨rfl, h1, h2⟩))
    go_ret
    exact ⟨rfl, h1, (Only.of_below HW.out).trans h2 fun k hk => .inl hk⟩
  · simp only at E
    rw [E.out]
    have HM := Lib.hid (mark_calls _ g gl x (HB.out w).1 who n text)
    have HW := Lib.hid (HB.out w).2
    clear E hk HB
    go_enter Try.func9, Try.ntmps9
    go_wp2_with (first
      | (go_at_call 10; (with_reducible refine (HK.out _).mono ?_); rintro e w1 ⟨rfl, rfl⟩)
      | (go_at_call 17; (refine HM.out.mono ?_); rintro e w1 ⟨rfl, h1, h2⟩))
    go_ret
    exact ⟨rfl, h1, (Only.of_below HW.out).trans h2 fun k hk => .inl hk⟩
end Go.Proofs.Ythhjockofihohaa
