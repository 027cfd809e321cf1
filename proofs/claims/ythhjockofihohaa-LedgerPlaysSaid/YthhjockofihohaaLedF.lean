/- A ledger as the laws use it: one predicate; done, awake, begun. -/
import Derived.Test.YthhjockofihohaaLedE
import Derived.Test.YthhjockofihohaaLedB
namespace Go.Proofs.Ythhjockofihohaa
open Go.RowKit
/-- A call. -/
structure LAct where
  kind : Int
  who : Int
  dst : Int
  good : Int
  n : Int
  text : ByteArray
def acells (a : LAct) : List Value := [.int .i64 a.kind, .int .i64 a.who, .int .i64 a.dst, .int .i64 a.good, .int .i64 a.n, .string a.text]
/-- What a call does. -/
def Led.act (x : Led) (a : LAct) : Led × Int :=
  match arnd a.kind 11 with
  | 0 => x.pay a.who a.n
  | 1 => x.take a.who a.n
  | 2 => x.store a.who a.good a.n
  | 3 => x.fetch a.who a.good a.n
  | 4 => x.hold a.who a.n
  | 5 => x.free a.who a.n
  | 6 => x.lock a.who a.good a.n
  | 7 => x.unlock a.who a.good a.n
  | 8 => x.move a.who a.dst a.n
  | 9 => x.hand a.who a.dst a.good a.n
  | _ => x.mark a.who a.n a.text
/-- A ledger made behind w0, and nothing below has turned. -/
structure Lw (w0 w : World) (g gl : Nat) (x : Led) : Prop where
  at_ : AtL w g gl x
  head : w0.heap.size ≤ g
  list : w0.heap.size ≤ gl
  all : Below w0.heap.size w0 w
section
variable {w0 w w' : World} {g gl : Nat} {x y : Led}
theorem Lw.next (h : Lw w0 w g gl x) (hb : Below w.heap.size w w') : Lw w0 w' g gl x := ⟨h.at_.next hb, h.head, h.list, h.all.trans (hb.mono h.all.size)⟩
theorem Lw.drewN (h : Lw w0 w g gl x) (k : Nat) : Lw w0 (w.drewN k) g gl x := ⟨h.at_.drewN k, h.head, h.list, below_draw h.all k⟩
theorem Lw.turn (h : Lw w0 w g gl x) (hA : AtL w' g gl y) (ho : Only (feetL gl) w w') : Lw w0 w' g gl y :=
  ⟨hA, h.head, h.list, h.all.trans (ho.below h.all.size fun k hk => by rw [show k = gl from hk]; exact h.list)⟩
theorem Lw.new (n : Nat) (k : Int) (w : World) (h1 : 1 ≤ n ∧ n ≤ 16) (h2 : 1 ≤ k ∧ k ≤ 4) : Calls Try.prog 13 #[.int .i64 (n : Int), .int .i64 k] w fun e w' => ∃ g gl, e = .returned (.tuple #[.pointer (some ⟨g, 0, none⟩), .int .i64 0]) ∧ Lw w w' g gl (Led.fresh n k) :=
  (new_calls n k w h1 h2).mono fun _ _ ⟨g, gl, h1, h2, h3, h4, h5⟩ => ⟨g, gl, h1, h2, h3, h4, h5⟩
theorem Lw.pay (h : Lw w0 w g gl x) (who : Int) (n : Int) : Calls Try.prog 19 #[.pointer (some ⟨g, 0, none⟩), .int .i64 who, .int .i64 n] w fun e w' => e = .returned (.int .i64 (x.pay who n).2) ∧ Lw w0 w' g gl (x.pay who n).1 :=
  (pay_calls w g gl x h.at_ who n).mono fun _ _ ⟨h1, h2, h3⟩ => ⟨h1, h.turn h2 h3⟩
theorem Lw.take (h : Lw w0 w g gl x) (who : Int) (n : Int) : Calls Try.prog 20 #[.pointer (some ⟨g, 0, none⟩), .int .i64 who, .int .i64 n] w fun e w' => e = .returned (.int .i64 (x.take who n).2) ∧ Lw w0 w' g gl (x.take who n).1 :=
  (take_calls w g gl x h.at_ who n).mono fun _ _ ⟨h1, h2, h3⟩ => ⟨h1, h.turn h2 h3⟩
theorem Lw.store (h : Lw w0 w g gl x) (who : Int) (good : Int) (n : Int) : Calls Try.prog 21 #[.pointer (some ⟨g, 0, none⟩), .int .i64 who, .int .i64 good, .int .i64 n] w fun e w' => e = .returned (.int .i64 (x.store who good n).2) ∧ Lw w0 w' g gl (x.store who good n).1 :=
  (store_calls w g gl x h.at_ who good n).mono fun _ _ ⟨h1, h2, h3⟩ => ⟨h1, h.turn h2 h3⟩
theorem Lw.fetch (h : Lw w0 w g gl x) (who : Int) (good : Int) (n : Int) : Calls Try.prog 22 #[.pointer (some ⟨g, 0, none⟩), .int .i64 who, .int .i64 good, .int .i64 n] w fun e w' => e = .returned (.int .i64 (x.fetch who good n).2) ∧ Lw w0 w' g gl (x.fetch who good n).1 :=
  (fetch_calls w g gl x h.at_ who good n).mono fun _ _ ⟨h1, h2, h3⟩ => ⟨h1, h.turn h2 h3⟩
theorem Lw.hold (h : Lw w0 w g gl x) (who : Int) (n : Int) : Calls Try.prog 23 #[.pointer (some ⟨g, 0, none⟩), .int .i64 who, .int .i64 n] w fun e w' => e = .returned (.int .i64 (x.hold who n).2) ∧ Lw w0 w' g gl (x.hold who n).1 :=
  (hold_calls w g gl x h.at_ who n).mono fun _ _ ⟨h1, h2, h3⟩ => ⟨h1, h.turn h2 h3⟩
theorem Lw.free (h : Lw w0 w g gl x) (who : Int) (n : Int) : Calls Try.prog 24 #[.pointer (some ⟨g, 0, none⟩), .int .i64 who, .int .i64 n] w fun e w' => e = .returned (.int .i64 (x.free who n).2) ∧ Lw w0 w' g gl (x.free who n).1 :=
  (free_calls w g gl x h.at_ who n).mono fun _ _ ⟨h1, h2, h3⟩ => ⟨h1, h.turn h2 h3⟩
theorem Lw.lock (h : Lw w0 w g gl x) (who : Int) (good : Int) (n : Int) : Calls Try.prog 25 #[.pointer (some ⟨g, 0, none⟩), .int .i64 who, .int .i64 good, .int .i64 n] w fun e w' => e = .returned (.int .i64 (x.lock who good n).2) ∧ Lw w0 w' g gl (x.lock who good n).1 :=
  (lock_calls w g gl x h.at_ who good n).mono fun _ _ ⟨h1, h2, h3⟩ => ⟨h1, h.turn h2 h3⟩
theorem Lw.unlock (h : Lw w0 w g gl x) (who : Int) (good : Int) (n : Int) : Calls Try.prog 26 #[.pointer (some ⟨g, 0, none⟩), .int .i64 who, .int .i64 good, .int .i64 n] w fun e w' => e = .returned (.int .i64 (x.unlock who good n).2) ∧ Lw w0 w' g gl (x.unlock who good n).1 :=
  (unlock_calls w g gl x h.at_ who good n).mono fun _ _ ⟨h1, h2, h3⟩ => ⟨h1, h.turn h2 h3⟩
theorem Lw.move (h : Lw w0 w g gl x) (who : Int) (dst : Int) (n : Int) : Calls Try.prog 27 #[.pointer (some ⟨g, 0, none⟩), .int .i64 who, .int .i64 dst, .int .i64 n] w fun e w' => e = .returned (.int .i64 (x.move who dst n).2) ∧ Lw w0 w' g gl (x.move who dst n).1 :=
  (move_calls w g gl x h.at_ who dst n).mono fun _ _ ⟨h1, h2, h3⟩ => ⟨h1, h.turn h2 h3⟩
theorem Lw.hand (h : Lw w0 w g gl x) (who : Int) (dst : Int) (good : Int) (n : Int) : Calls Try.prog 28 #[.pointer (some ⟨g, 0, none⟩), .int .i64 who, .int .i64 dst, .int .i64 good, .int .i64 n] w fun e w' => e = .returned (.int .i64 (x.hand who dst good n).2) ∧ Lw w0 w' g gl (x.hand who dst good n).1 :=
  (hand_calls w g gl x h.at_ who dst good n).mono fun _ _ ⟨h1, h2, h3⟩ => ⟨h1, h.turn h2 h3⟩
theorem Lw.mark (h : Lw w0 w g gl x) (who : Int) (n : Int) (text : ByteArray) : Calls Try.prog 17 #[.pointer (some ⟨g, 0, none⟩), .int .i64 who, .int .i64 n, .string text] w fun e w' => e = .returned (.int .i64 (x.mark who n text).2) ∧ Lw w0 w' g gl (x.mark who n text).1 :=
  (mark_calls w g gl x h.at_ who n text).mono fun _ _ ⟨h1, h2, h3⟩ => ⟨h1, h.turn h2 h3⟩
theorem Lw.totals (h : Lw w0 w g gl x) : Calls Try.prog 8 #[.pointer (some ⟨g, 0, none⟩)] w fun e w' => e = .returned (.tuple #[.int .i64 (x.tot 0), .agg #[.int .i64 (x.tot 2), .int .i64 (x.tot 3), .int .i64 (x.tot 4), .int .i64 (x.tot 5)]]) ∧ Lw w0 w' g gl x :=
  (totals_calls w g gl x h.at_).mono fun _ _ ⟨h1, h2⟩ => ⟨h1, h.next h2⟩
theorem Lw.account (h : Lw w0 w g gl x) (i : Nat) (hi : i < x.n) : Calls Try.prog 12 #[.pointer (some ⟨g, 0, none⟩), .int .i64 (i : Int)] w fun e w' => e = .returned (.tuple #[told10 x i, .bool true]) ∧ Lw w0 w' g gl x :=
  (account_calls w g gl x h.at_ i hi).mono fun _ _ ⟨h1, h2⟩ => ⟨h1, h.next h2⟩
theorem Lw.last (h : Lw w0 w g gl x) (i : Nat) (hi : i < x.n) : Calls Try.prog 18 #[.pointer (some ⟨g, 0, none⟩), .int .i64 (i : Int)] w fun e w' => e = .returned (.tuple #[.int .i64 (x.z i 10), .string (x.r i)]) ∧ Lw w0 w' g gl x :=
  (last_calls w g gl x h.at_ i hi).mono fun _ _ ⟨h1, d, h2⟩ => ⟨h1, by rw [h2]; exact h.drewN d⟩
end
set_option maxHeartbeats 4000000 in
set_option maxRecDepth 100000 in
theorem done_calls (w0 w : World) (g gl : Nat) (x : Led) (h : Lw w0 w g gl x) (a : LAct) :
    Calls Try.prog 9 #[.pointer (some ⟨g, 0, none⟩), .agg (acells a).toArray] w fun e w' => e = .returned (.int .i64 (x.act a).2) ∧ Lw w0 w' g gl (x.act a).1 := by
  have H := Lib.hid h
  have hk := arnd_lt a.kind (below := 11) (by omega)
  have HK := Lib.hid (fun w => around11 a.kind w)
  have E := Lib.hid (show x.act a = match arnd a.kind 11 with | 0 => x.pay a.who a.n | 1 => x.take a.who a.n | 2 => x.store a.who a.good a.n | 3 => x.fetch a.who a.good a.n | 4 => x.hold a.who a.n | 5 => x.free a.who a.n | 6 => x.lock a.who a.good a.n | 7 => x.unlock a.who a.good a.n | 8 => x.move a.who a.dst a.n | 9 => x.hand a.who a.dst a.good a.n | _ => x.mark a.who a.n a.text from rfl)
  generalize arnd a.kind 11 = k at hk HK E
  have HB : Hid (∀ w1 : World, Lw w0 (w.alloc (.cells (acells a).toArray 24)) g gl x) := Lib.hid fun _ => H.out.next ((Below.refl _ _).alloc (Nat.le_refl _) _)
  unfold acells at HB ⊢
  obtain ⟨kd, who, dst, good, n, text⟩ := a
  simp only at HK E HB ⊢
  clear h
  rcases (show k = 0 ∨ k = 1 ∨ k = 2 ∨ k = 3 ∨ k = 4 ∨ k = 5 ∨ k = 6 ∨ k = 7 ∨ k = 8 ∨ k = 9 ∨ k = 10 by omega) with rfl | rfl | rfl | rfl | rfl | rfl | rfl | rfl | rfl | rfl | rfl
  · simp only at E
    rw [E.out]
    have HM := Lib.hid ((HB.out w).pay who n)
    clear E hk HB
    go_enter Try.func9, Try.ntmps9
    go_wp2_with (first
      | (go_at_call 10; (with_reducible refine (HK.out _).mono ?_); rintro e w1 ⟨rfl, rfl⟩)
      | (go_at_call 19; (refine HM.out.mono ?_); rintro e w1 ⟨rfl, h1⟩))
    go_ret
    exact ⟨rfl, h1⟩
  · simp only at E
    rw [E.out]
    have HM := Lib.hid ((HB.out w).take who n)
    clear E hk HB
    go_enter Try.func9, Try.ntmps9
    go_wp2_with (first
      | (go_at_call 10; (with_reducible refine (HK.out _).mono ?_); rintro e w1 ⟨rfl, rfl⟩)
      | (go_at_call 20; (refine HM.out.mono ?_); rintro e w1 ⟨rfl, h1⟩))
    go_ret
    exact ⟨rfl, h1⟩
  · simp only at E
    rw [E.out]
    have HM := Lib.hid ((HB.out w).store who good n)
    clear E hk HB
    go_enter Try.func9, Try.ntmps9
    go_wp2_with (first
      | (go_at_call 10; (with_reducible refine (HK.out _).mono ?_); rintro e w1 ⟨rfl, rfl⟩)
      | (go_at_call 21; (refine HM.out.mono ?_); rintro e w1 ⟨rfl, h1⟩))
    go_ret
    exact ⟨rfl, h1⟩
  · simp only at E
    rw [E.out]
    have HM := Lib.hid ((HB.out w).fetch who good n)
    clear E hk HB
    go_enter Try.func9, Try.ntmps9
    go_wp2_with (first
      | (go_at_call 10; (with_reducible refine (HK.out _).mono ?_); rintro e w1 ⟨rfl, rfl⟩)
      | (go_at_call 22; (refine HM.out.mono ?_); rintro e w1 ⟨rfl, h1⟩))
    go_ret
    exact ⟨rfl, h1⟩
  · simp only at E
    rw [E.out]
    have HM := Lib.hid ((HB.out w).hold who n)
    clear E hk HB
    go_enter Try.func9, Try.ntmps9
    go_wp2_with (first
      | (go_at_call 10; (with_reducible refine (HK.out _).mono ?_); rintro e w1 ⟨rfl, rfl⟩)
      | (go_at_call 23; (refine HM.out.mono ?_); rintro e w1 ⟨rfl, h1⟩))
    go_ret
    exact ⟨rfl, h1⟩
  · simp only at E
    rw [E.out]
    have HM := Lib.hid ((HB.out w).free who n)
    clear E hk HB
    go_enter Try.func9, Try.ntmps9
    go_wp2_with (first
      | (go_at_call 10; (with_reducible refine (HK.out _).mono ?_); rintro e w1 ⟨rfl, rfl⟩)
      | (go_at_call 24; (refine HM.out.mono ?_); rintro e w1 ⟨rfl, h1⟩))
    go_ret
    exact ⟨rfl, h1⟩
  · simp only at E
    rw [E.out]
    have HM := Lib.hid ((HB.out w).lock who good n)
    clear E hk HB
    go_enter Try.func9, Try.ntmps9
    go_wp2_with (first
      | (go_at_call 10; (with_reducible refine (HK.out _).mono ?_); rintro e w1 ⟨rfl, rfl⟩)
      | (go_at_call 25; (refine HM.out.mono ?_); rintro e w1 ⟨rfl, h1⟩))
    go_ret
    exact ⟨rfl, h1⟩
  · simp only at E
    rw [E.out]
    have HM := Lib.hid ((HB.out w).unlock who good n)
    clear E hk HB
    go_enter Try.func9, Try.ntmps9
    go_wp2_with (first
      | (go_at_call 10; (with_reducible refine (HK.out _).mono ?_); rintro e w1 ⟨rfl, rfl⟩)
      | (go_at_call 26; (refine HM.out.mono ?_); rintro e w1 ⟨rfl, h1⟩))
    go_ret
    exact ⟨rfl, h1⟩
  · simp only at E
    rw [E.out]
    have HM := Lib.hid ((HB.out w).move who dst n)
    clear E hk HB
    go_enter Try.func9, Try.ntmps9
    go_wp2_with (first
      | (go_at_call 10; (with_reducible refine (HK.out _).mono ?_); rintro e w1 ⟨rfl, rfl⟩)
      | (go_at_call 27; (refine HM.out.mono ?_); rintro e w1 ⟨rfl, h1⟩))
    go_ret
    exact ⟨rfl, h1⟩
  · simp only at E
    rw [E.out]
    have HM := Lib.hid ((HB.out w).hand who dst good n)
    clear E hk HB
    go_enter Try.func9, Try.ntmps9
    go_wp2_with (first
      | (go_at_call 10; (with_reducible refine (HK.out _).mono ?_); rintro e w1 ⟨rfl, rfl⟩)
      | (go_at_call 28; (refine HM.out.mono ?_); rintro e w1 ⟨rfl, h1⟩))
    go_ret
    exact ⟨rfl, h1⟩
  · simp only at E
    rw [E.out]
    have HM := Lib.hid ((HB.out w).mark who n text)
    clear E hk HB
    go_enter Try.func9, Try.ntmps9
    go_wp2_with (first
      | (go_at_call 10; (with_reducible refine (HK.out _).mono ?_); rintro e w1 ⟨rfl, rfl⟩)
      | (go_at_call 17; (refine HM.out.mono ?_); rintro e w1 ⟨rfl, h1⟩))
    go_ret
    exact ⟨rfl, h1⟩
end Go.Proofs.Ythhjockofihohaa
