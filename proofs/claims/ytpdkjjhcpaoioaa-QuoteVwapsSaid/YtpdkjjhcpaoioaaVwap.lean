/- The contracts of Vwap, the program's and the reference's: the same word (Fl.vw), step by step. -/
import Derived.Test.YtpdkjjhcpaoioaaMid
import Derived.Test.YtpdkjjhcpaoioaaMem
import Derived.Deep.QuietTactic
import Derived.BigQuiet
namespace Go.Proofs.Ytpdkjjhcpaoioaa
open Go.RowKit
namespace Fl
/-- What an operation draws, and the bits that it then has. -/
def fD (op : BinOp) (x y : Nat) : Nat := if (floatBits op .f64 x y).isSome then 0 else 1
def fG (op : BinOp) (x y : Nat) (w : World) : Nat := (floatBits op .f64 x y).getD ((Question.nanBits .f64 x y).cut (w.tape w.drawn (.nanBits .f64 x y)))
theorem nan_cut (x y t : Nat) : Nan ((Question.nanBits .f64 x y).cut t) := by
  have e : (Question.nanBits .f64 x y).cut t = (t % 2) * 2 ^ 63 + 0x7ff0000000000000 + 1 + (t / 2) % (2 ^ 52 - 1) := rfl
  rw [e]
  have h1 : t % 2 < 2 := Nat.mod_lt _ (by omega)
  have h2 : t / 2 % (2 ^ 52 - 1) < 2 ^ 52 - 1 := Nat.mod_lt _ (by omega)
  generalize t % 2 = b at h1 ⊢
  generalize t / 2 % (2 ^ 52 - 1) = c at h2 ⊢
  unfold Nan rg
  rcases (by omega : b = 0 ∨ b = 1) with rfl | rfl <;> omega
theorem on_fG (op : BinOp) (x y : Nat) (w : World) : on (fG op x y w) = fo op x y := by
  unfold fG
  cases h : floatBits op .f64 x y with
  | some r => rw [Option.getD_some]; exact fo_some h
  | none => rw [Option.getD_none]; exact fo_none h (nan_cut _ _ _)
theorem read_on {x : Nat} : (Ieee.double.read (on x)).isNaN = (Ieee.double.read x).isNaN ∧ (¬ Nan x → on x = x) := by
  by_cases h : Nan x
  · rw [on_nan h, read_nan h, read_nan (by decide : Nan 9221120237041090561)]
    exact ⟨rfl, fun g => absurd h g⟩
  · rw [on_of_not h]; exact ⟨rfl, fun _ => rfl⟩
theorem nan_left {op : BinOp} {x y : Nat} (h : Nan x) : fo op x y = 9221120237041090561 := by
  unfold fo
  have : floatBits op .f64 x y = none := by
    unfold floatBits
    cases op <;> (try rfl)
    · show (((Ieee.double.read x).sum (Ieee.double.read y)).map Ieee.double.write) = none
      rw [read_nan h]; rfl
    · show (((Ieee.double.read x).sum (Ieee.double.read y).opposite).map Ieee.double.write) = none
      rw [read_nan h]; rfl
    · show (((Ieee.double.read x).product (Ieee.double.read y)).map Ieee.double.write) = none
      rw [read_nan h]; rfl
    · show (((Ieee.double.read x).quotient 54 (Ieee.double.read y)).map Ieee.double.write) = none
      rw [read_nan h]; rfl
  rw [this]; rfl
theorem nan_right {op : BinOp} {x y : Nat} (h : Nan y) : fo op x y = 9221120237041090561 := by
  unfold fo
  have : floatBits op .f64 x y = none := by
    unfold floatBits
    cases op <;> (try rfl)
    · show (((Ieee.double.read x).sum (Ieee.double.read y)).map Ieee.double.write) = none
      rw [read_nan h]; cases Ieee.double.read x <;> rfl
    · show (((Ieee.double.read x).sum (Ieee.double.read y).opposite).map Ieee.double.write) = none
      rw [read_nan h]; cases Ieee.double.read x <;> rfl
    · show (((Ieee.double.read x).product (Ieee.double.read y)).map Ieee.double.write) = none
      rw [read_nan h]; cases Ieee.double.read x <;> rfl
    · show (((Ieee.double.read x).quotient 54 (Ieee.double.read y)).map Ieee.double.write) = none
      rw [read_nan h]; cases Ieee.double.read x <;> rfl
  rw [this]; rfl
theorem cn_nan : Nan 9221120237041090561 := by decide
/-- An operation's answer hangs on its operands' normal forms alone. -/
theorem fo_on_left (op : BinOp) (x y : Nat) : fo op (on x) y = fo op x y := by
  by_cases h : Nan x
  · rw [on_nan h, nan_left cn_nan, nan_left h]
  · rw [on_of_not h]
theorem fo_on_right (op : BinOp) (x y : Nat) : fo op x (on y) = fo op x y := by
  by_cases h : Nan y
  · rw [on_nan h, nan_right cn_nan, nan_right h]
  · rw [on_of_not h]
theorem on_on (x : Nat) : on (on x) = on x := by
  by_cases h : Nan x
  · rw [on_nan h, on_nan cn_nan]
  · rw [on_of_not h, on_of_not h]
theorem on_zero : on 0 = 0 := by decide
/-- The sums behind k steps. -/
def vsum (Z Y : Nat → Nat) : Nat → Nat
  | 0 => 0
  | k + 1 => fo .add (vsum Z Y k) (fo .mul (Z k) (Y k))
def vall (Y : Nat → Nat) : Nat → Nat
  | 0 => 0
  | k + 1 => fo .add (vall Y k) (Y k)
def vw (Z Y : Nat → Nat) (n : Nat) : Nat := fo .quo (vsum Z Y n) (vall Y n)
end Fl

theorem run_float_uni (op : BinOp) (h : op = .add ∨ op = .sub ∨ op = .mul ∨ op = .quo) (t : TypeId) (x y : Nat) (w : World) :
    (binOp op t (.float .f64 x) (.float .f64 y)).run Try.prog w = .ok (.float .f64 (Fl.fG op x y w)) (w.drewN (Fl.fD op x y)) := by
  unfold Fl.fG Fl.fD
  cases hr : floatBits op .f64 x y with
  | some r => rw [run_float_arith (P := Try.prog) w op t .f64 x y r hr]; rfl
  | none =>
    unfold floatBits at hr
    rcases h with rfl | rfl | rfl | rfl <;> simp only at hr <;> simp [binOp, Op.floatArith, hr, Question.forced] <;> rfl

set_option maxHeartbeats 2000000 in
theorem vwap_calls (A B : Option Addr) (n m c d : Nat) (Z Y : Nat → Nat) (w : World) (v : Nat) (f : Int) (hn : n ≤ 1000) (hm : m ≤ 1000) (hA : Row w A n fun j => .float .f64 (Z j)) (hB : Row w B m fun j => .float .f64 (Y j))
    (hv : Hid ((v, f) = if n = m then (Fl.vw Z Y n, (0 : Int)) else (0, 1))) :
    Calls Try.prog 27 #[.slice A n c, .slice B m d] w fun e w' => e = .returned (.tuple #[.float .f64 v, .int .i64 f]) ∧ ∃ k, w' = w.drewN k := by
  have e := hv.out
  clear hv
  by_cases hnm : n = m
  · rw [if_pos hnm] at e
    injection e with e1 e2
    subst e2; subst hnm
    have E := Lib.hid e1
    clear e1
    have hmul := fun x y w => run_float_uni .mul (by simp) 22 x y w
    have hadd := fun x y w => run_float_uni .add (by simp) 22 x y w
    have hquo := fun x y w => run_float_uni .quo (by simp) 22 x y w
    go_enter Try.func27, Try.ntmps27
    go_wp2
    go_loopw [6, 7, 17] (fun s a i wr => ∃ k s' a' : Nat, k ≤ n ∧ i = .int .i64 k ∧ s = .float .f64 s' ∧ a = .float .f64 a' ∧ Fl.on s' = Fl.vsum Z Y k ∧ Fl.on a' = Fl.vall Y k ∧ ∃ q, wr = w.drewN q) (fun _ _ i _ => n - (intOf i).toNat)
    case atStart => exact ⟨0, 0, 0, Nat.zero_le _, rfl, rfl, rfl, Fl.on_zero, Fl.on_zero, 0, rfl⟩
    case round =>
      obtain ⟨k, s', a', hk, rfl, rfl, rfl, hs, ha, q, rfl⟩ := hrel
      have HS := Lib.hid hs
      have HA := Lib.hid ha
      clear hs ha
      by_cases hlt : k < n
      · obtain ⟨ba, oa, rfl, _, ca⟩ := hA.at_ hlt
        obtain ⟨bb, ob, rfl, _, cb⟩ := hB.at_ hlt
        go_wp2
        go_roundw
        case rel =>
          refine ⟨k + 1, _, _, by omega, by go_num, rfl, rfl, ?_, ?_, _, rfl⟩
          · rw [Fl.on_fG, ← Fl.fo_on_left, ← Fl.fo_on_right, Fl.on_fG, HS.out]; rfl
          · rw [Fl.on_fG, ← Fl.fo_on_left, HA.out]; rfl
        case measure => simp [intOf]; omega
      · obtain rfl : k = n := by omega
        have hO : Hid (∀ w, Fl.on (Fl.fG .quo s' a' w) = v) := fun w => by
          rw [Fl.on_fG, ← Fl.fo_on_left, ← Fl.fo_on_right, HS.out, HA.out, E.out]; rfl
        go_wp2_with (go_at_call 41; (with_reducible refine (one_calls _ _ _ (Lib.hid (hO.out _))).mono ?_); rintro e w' ⟨rfl, rfl⟩)
        go_ret2
        exact ⟨rfl, _, rfl⟩
  · rw [if_neg hnm] at e
    injection e with e1 e2
    subst e1; subst e2
    have hne : ((n : Int) != (m : Int)) = true := by rw [bne_iff_ne]; omega
    go_enter Try.func27, Try.ntmps27
    go_wp2
    go_ret2
    exact ⟨rfl, 0, rfl⟩

set_option maxHeartbeats 2000000 in
theorem refVwap_calls (A B : Option Addr) (n m c d : Nat) (Z Y : Nat → Nat) (w : World) (v : Nat) (f : Int) (hn : n ≤ 1000) (hm : m ≤ 1000) (hA : Row w A n fun j => .float .f64 (Z j)) (hB : Row w B m fun j => .float .f64 (Y j))
    (hv : Hid ((v, f) = if n = m then (Fl.vw Z Y n, (0 : Int)) else (0, 1))) :
    Calls Try.prog 28 #[.slice A n c, .slice B m d] w fun e w' => e = .returned (.tuple #[.float .f64 v, .int .i64 f]) ∧ ∃ k, w' = w.drewN k := by
  have e := hv.out
  clear hv
  by_cases hnm : n = m
  · rw [if_pos hnm] at e
    injection e with e1 e2
    subst e2; subst hnm
    have E := Lib.hid e1
    clear e1
    have hmul := fun x y w => run_float_uni .mul (by simp) 22 x y w
    have hadd := fun x y w => run_float_uni .add (by simp) 22 x y w
    have hquo := fun x y w => run_float_uni .quo (by simp) 22 x y w
    go_enter Try.func28, Try.ntmps28
    go_wp2
    go_loopw [6, 7, 8] (fun s a i wr => ∃ k s' a' : Nat, k ≤ n ∧ i = .int .i64 k ∧ s = .float .f64 s' ∧ a = .float .f64 a' ∧ Fl.on s' = Fl.vsum Z Y k ∧ Fl.on a' = Fl.vall Y k ∧ ∃ q, wr = w.drewN q) (fun _ _ i _ => n - (intOf i).toNat)
    case atStart => exact ⟨0, 0, 0, Nat.zero_le _, rfl, rfl, rfl, Fl.on_zero, Fl.on_zero, 0, rfl⟩
    case round =>
      obtain ⟨k, s', a', hk, rfl, rfl, rfl, hs, ha, q, rfl⟩ := hrel
      have HS := Lib.hid hs
      have HA := Lib.hid ha
      clear hs ha
      by_cases hlt : k < n
      · obtain ⟨ba, oa, rfl, _, ca⟩ := hA.at_ hlt
        obtain ⟨bb, ob, rfl, _, cb⟩ := hB.at_ hlt
        go_wp2
        go_region
        go_wp2
        go_roundw
        case rel =>
          refine ⟨k + 1, _, _, by omega, by go_num, rfl, rfl, ?_, ?_, _, rfl⟩
          · rw [Fl.on_fG, ← Fl.fo_on_left, ← Fl.fo_on_right, Fl.on_fG, HS.out]; rfl
          · rw [Fl.on_fG, ← Fl.fo_on_left, HA.out]; rfl
        case measure => simp [intOf]; omega
      · obtain rfl : k = n := by omega
        have hO : Hid (∀ w, Fl.on (Fl.fG .quo s' a' w) = v) := fun w => by
          rw [Fl.on_fG, ← Fl.fo_on_left, ← Fl.fo_on_right, HS.out, HA.out, E.out]; rfl
        go_wp2_with (go_at_call 26; (with_reducible refine (refOne_calls _ _ _ (Lib.hid (hO.out _))).mono ?_); rintro e w' ⟨rfl, rfl⟩)
        go_ret2
        exact ⟨rfl, _, rfl⟩
  · rw [if_neg hnm] at e
    injection e with e1 e2
    subst e1; subst e2
    have hne : ((n : Int) != (m : Int)) = true := by rw [bne_iff_ne]; omega
    go_enter Try.func28, Try.ntmps28
    go_wp2
    go_ret2
    exact ⟨rfl, 0, rfl⟩
end Go.Proofs.Ytpdkjjhcpaoioaa
