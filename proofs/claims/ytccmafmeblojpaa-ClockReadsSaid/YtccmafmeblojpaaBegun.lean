/- The contracts of around, Wants and begun; a script of calls that came in. -/
import Derived.Test.YtccmafmeblojpaaAwake
import Derived.Deep.Slices
import Derived.SizedLaws
namespace Go.Proofs.Ytccmafmeblojpaa
open Go.RowKit
def arnd (n : Int) (below : Nat) : Nat := (n.tmod below).natAbs
theorem arnd_lt (n : Int) {below : Nat} (h : 0 < below) : arnd n below < below := by
  unfold arnd
  have h1 := Int.lt_tmod_of_pos n (b := (below : Int)) (by omega)
  have h2 := Int.tmod_lt_of_pos n (b := (below : Int)) (by omega)
  omega
theorem around_calls (n : Int) (b : Nat) (hb : 0 < b) (hb2 : b ≤ 1000000) (w : World) :
    Calls Try.prog 17 #[.int .i64 n, .int .i64 (b : Int)] w fun e w' => e = .returned (.int .i64 (arnd n b : Int)) ∧ w = w' := by
  have h1 := Int.lt_tmod_of_pos n (b := (b : Int)) (by omega)
  have h2 := Int.tmod_lt_of_pos n (b := (b : Int)) (by omega)
  obtain ⟨q, hq⟩ : ∃ q, n.tmod (b : Int) = q := ⟨_, rfl⟩
  have E : Hid (((arnd n b : Nat) : Int) = if q < 0 then 0 - q else q) := Lib.hid (by unfold arnd; rw [hq]; split <;> omega)
  rw [hq] at h1 h2
  have hb3 : (0 : Int) < (b : Int) := by omega
  have hb4 : ¬ (b : Int) = 0 := by omega
  have hb5 : ¬ b = 0 := by omega
  by_cases h : q < 0
  · have e2 := E.out
    rw [if_pos h] at e2
    have E2 := Lib.hid e2
    have hw : IntKind.i64.wrap (0 - q) = 0 - q := by rw [IntKind.wrap_i64]; omega
    clear e2 E
    go_enter Try.func17, Try.ntmps17
    go_wp2
    go_ret
    exact ⟨by rw [E2.out]; simp, rfl⟩
  · have e2 := E.out
    rw [if_neg h] at e2
    have E2 := Lib.hid e2
    have h0 : 0 ≤ q := by omega
    clear e2 E
    go_enter Try.func17, Try.ntmps17
    go_wp2
    go_ret
    exact ⟨by rw [E2.out]; rfl, rfl⟩
theorem around3 (n : Int) (w : World) : Calls Try.prog 17 #[.int .i64 n, .int .i64 3] w fun e w' => e = .returned (.int .i64 (arnd n 3 : Int)) ∧ w = w' := around_calls n 3 (by omega) (by omega) w
theorem around300 (n : Int) (w : World) : Calls Try.prog 17 #[.int .i64 n, .int .i64 300] w fun e w' => e = .returned (.int .i64 (arnd n 300 : Int)) ∧ w = w' := around_calls n 300 (by omega) (by omega) w
theorem around1000 (n : Int) (w : World) : Calls Try.prog 17 #[.int .i64 n, .int .i64 1000] w fun e w' => e = .returned (.int .i64 (arnd n 1000 : Int)) ∧ w = w' := around_calls n 1000 (by omega) (by omega) w
theorem around100 (n : Int) (w : World) : Calls Try.prog 17 #[.int .i64 n, .int .i64 100] w fun e w' => e = .returned (.int .i64 (arnd n 100 : Int)) ∧ w = w' := around_calls n 100 (by omega) (by omega) w
theorem wants_calls (w : World) (g gl : Nat) (a : Auc) (h : AtA w g gl a) (i : Nat) (hi : i < a.l.length) :
    Calls Try.prog 26 #[.pointer (some ⟨g, 0, none⟩), .int .i64 (i : Int)] w fun e w' => e = .returned (.tuple #[.int .i64 (a.l.getD i (0, 0)).1, .int .i64 (a.l.getD i (0, 0)).2]) ∧ ∃ d, w' = w.drewN d := by
  obtain ⟨c0, c1, c2, c3, c4, c5⟩ := h.cells
  have k1 := h.was hi
  have k2 := h.now hi
  obtain ⟨n, hn⟩ : ∃ n, Hid (a.l.length = n) := ⟨_, Lib.hid rfl⟩
  rw [hn.out] at c5 hi
  have i0 : (0 : Int) ≤ (i : Int) := by omega
  have i1 : (i : Int) < (n : Int) := by omega
  clear h c0 c1 c2 c3 c4
  generalize a.l.getD i (0, 0) = p at k1 k2 ⊢
  obtain ⟨p1, p2⟩ := p
  simp only at k1 k2 ⊢
  go_enter Try.func26, Try.ntmps26
  go_wp2
  go_quiet (fail)
  go_wp2
  go_ret2
  exact ⟨rfl, _, rfl⟩
/-- A script: n acts of three numbers. -/
def Script (w : World) (A : Option Addr) (n : Nat) (Z : Nat → Int) : Prop := Row w A (n * 3) fun j => .int .i64 (Z j)
theorem Script.at_ {w : World} {A : Option Addr} {n : Nat} {Z : Nat → Int} (h : Script w A n Z) {i : Nat} (hi : i < n) : ∃ b o, A = some ⟨b, o, none⟩ := by
  obtain ⟨b, o, e, _⟩ := Row.at_ h (k := i * 3) (by omega)
  exact ⟨b, o, e⟩
theorem Script.cells {w w' : World} {b o n : Nat} {Z : Nat → Int} (h : Script w (some ⟨b, o, none⟩) n Z) {i : Nat} (hi : i < n) (hb : Below w.heap.size w w') :
    w'.cell? ⟨b, o + i * 3, none⟩ = some (.int .i64 (Z (i * 3))) ∧ w'.cell? ⟨b, o + i * 3 + 1, none⟩ = some (.int .i64 (Z (i * 3 + 1))) ∧ w'.cell? ⟨b, o + i * 3 + 2, none⟩ = some (.int .i64 (Z (i * 3 + 2))) := by
  have each : ∀ k, k < 3 → w'.cell? ⟨b, o + i * 3 + k, none⟩ = some (.int .i64 (Z (i * 3 + k))) := fun k hk => by
    obtain ⟨b', o', e, h1, h2⟩ := Row.at_ h (k := i * 3 + k) (by omega)
    cases e
    rw [Nat.add_assoc]
    exact (below_cell hb h1).trans h2
  exact ⟨each 0 (by omega), each 1 (by omega), each 2 (by omega)⟩
/-- What an act does to an auction. -/
def Auc.act (a : Auc) (k who n : Int) : Auc := if arnd k 3 = 2 then a.next.1 else (a.bid who n).1
def Auc.acts (a : Auc) (Z : Nat → Int) : Nat → Auc
  | 0 => a
  | i + 1 => (Auc.acts a Z i).act (Z (i * 3)) (Z (i * 3 + 1)) (Z (i * 3 + 2))
/-- The auction of four that the laws begin with. -/
def Auc.four (s : Int) : Auc := Auc.fresh (1 + (arnd s 300 : Int)) 10 3 4
theorem Aw.four (w : World) (s : Int) : Calls Try.prog 18 #[.int .i64 (1 + (arnd s 300 : Int)), .int .i64 10, .int .i64 3, .int .i64 4] w fun e w' => ∃ g gl, e = .returned (.tuple #[.pointer (some ⟨g, 0, none⟩), .int .i64 0]) ∧ Aw w w' g gl (Auc.four s) := by
  have := arnd_lt s (below := 300) (by omega)
  exact Aw.new w _ 10 3 4 (by omega) (by omega) (by omega) (by omega)
/-- What begun gives. -/
def Begins (w0 : World) (a : Auc) (e : Ending) (w' : World) : Prop := ∃ g gl, e = .returned (.pointer (some ⟨g, 0, none⟩)) ∧ Aw w0 w' g gl a
theorem begins {w0 w' : World} {a b : Auc} {g gl : Nat} (h : Aw w0 w' g gl a) (hab : a = b) : Begins w0 b (.returned (.pointer (some ⟨g, 0, none⟩))) w' := by
  subst hab
  exact ⟨g, gl, rfl, h⟩
set_option maxHeartbeats 1000000 in
theorem begun_calls (w : World) (s : Int) (A : Option Addr) (n c : Nat) (Z : Nat → Int) (hZ : Script w A n Z) :
    Calls Try.prog 25 #[.int .i64 s, .slice A n c] w (Begins w ((Auc.four s).acts Z (min n 100))) := by
  have HZ := Lib.hid hZ
  clear hZ
  have hs3 := arnd_lt s (below := 300) (by omega)
  have HF := Lib.hid (fun w => Aw.four w s)
  obtain ⟨r, hr⟩ : ∃ r, Hid (arnd s 300 = r) := ⟨_, Lib.hid rfl⟩
  have HR := Lib.hid (fun w => around300 s w)
  rw [hr.out] at HF HR hs3
  go_enter Try.func25, Try.ntmps25
  go_wp2_with (first
    | (go_at_call 17; (with_reducible refine (HR.out _).mono ?_); rintro e w1 ⟨rfl, rfl⟩)
    | (go_at_call 18; (with_reducible refine (HF.out _).mono ?_); rintro e w1 ⟨g, gl, rfl, h⟩; have H0 := Lib.hid h; clear h))
  go_loopg [7] 101 (fun gk s7 wr => ∃ i, gk = 101 - i ∧ i ≤ min n 100 ∧ s7 = .int .i64 (i : Int) ∧ Hid (Aw w wr g gl ((Auc.four s).acts Z i)))
  case atStart => exact ⟨0, rfl, Nat.zero_le _, rfl, H0⟩
  case round =>
    clear H0
    obtain ⟨i, rfl, hi, rfl, H⟩ := hrel
    have i0 : (0 : Int) ≤ (i : Int) := by omega
    by_cases hgo : i < n ∧ i < 100
    · obtain ⟨hin, hi100⟩ := hgo
      have i100 : (i : Int) < 100 := by omega
      have hinI : (i : Int) < (n : Int) := by omega
      obtain ⟨b, o, rfl⟩ := HZ.out.at_ hin
      obtain ⟨z0, z1, z2⟩ := HZ.out.cells hin H.out.all
      have hact : Hid ((Auc.four s).acts Z (i + 1) = ((Auc.four s).acts Z i).act (Z (i * 3)) (Z (i * 3 + 1)) (Z (i * 3 + 2))) := Lib.hid rfl
      generalize (Auc.four s).acts Z i = a at H hact
      generalize Z (i * 3) = y0 at z0 hact
      generalize Z (i * 3 + 1) = y1 at z1 hact
      generalize Z (i * 3 + 2) = y2 at z2 hact
      have hk3 := arnd_lt y0 (below := 3) (by omega)
      have HK := Lib.hid (fun w => around3 y0 w)
      obtain ⟨k, hk⟩ : ∃ k, Hid (arnd y0 3 = k) := ⟨_, Lib.hid rfl⟩
      rw [hk.out] at HK hk3
      by_cases h2 : k = 2
      · have hb2 : ((k : Int) == 2) = true := by subst h2; rfl
        have E : Hid ((Auc.four s).acts Z (i + 1) = a.next.1) := Lib.hid (by rw [hact.out]; unfold Auc.act; rw [if_pos (by rw [hk.out]; exact h2)])
        clear h2
        go_wp2_with (first
          | (go_at_call 17; (with_reducible refine (HK.out _).mono ?_); rintro e w1 ⟨rfl, rfl⟩)
          | (go_at_call 23; (with_reducible refine (H.out.next).mono ?_); rintro e w1 ⟨rfl, h⟩; have H1 := Lib.hid h; clear h))
        go_roundg (101 - (i + 1))
        case measure => omega
        case rel => exact ⟨i + 1, rfl, by omega, by go_num, by rw [E.out]; exact H1⟩
      · have hb2 : ((k : Int) == 2) = false := by simp; omega
        have E : Hid ((Auc.four s).acts Z (i + 1) = (a.bid y1 y2).1) := Lib.hid (by rw [hact.out]; unfold Auc.act; rw [if_neg (by rw [hk.out]; exact h2)])
        clear h2
        go_upto_region 9 with (first
          | (go_at_call 17; (with_reducible refine (HK.out _).mono ?_); rintro e w1 ⟨rfl, rfl⟩))
        go_still_tail 11, (by kernel_rfl)
        change wpList _ _ _ _ _ wr.drew
        have Hd := Lib.hid (H.out.drewN 1)
        have HB := Lib.hid (Hd.out.bid y1 y2)
        go_wp2_with (first
          | (go_at_call 19; (refine HB.out.mono ?_); rintro e w1 ⟨rfl, h⟩; have H1 := Lib.hid h; clear h))
        go_roundg (101 - (i + 1))
        case measure => omega
        case rel => exact ⟨i + 1, rfl, by omega, by go_num, by rw [E.out]; exact H1⟩
    · have him : i = min n 100 := by omega
      by_cases hin : i < n
      · have hi100 : ¬ i < 100 := fun h => hgo ⟨hin, h⟩
        have hi100I : ¬ (i : Int) < 100 := by omega
        have hinI : (i : Int) < (n : Int) := by omega
        have HM := Lib.hid him
        clear hgo him hi
        go_wp2
        go_ret
        exact begins H.out (by rw [← HM.out])
      · have HM := Lib.hid him
        clear hgo him hi
        go_wp2
        go_ret
        exact begins H.out (by rw [← HM.out])
end Go.Proofs.Ytccmafmeblojpaa
