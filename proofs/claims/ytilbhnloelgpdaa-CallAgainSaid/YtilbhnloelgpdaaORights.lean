/- rights: the orders that may be, in a list of its own. -/
import Derived.Test.YtilbhnloelgpdaaODel
namespace Go.Proofs.Ytilbhnloelgpdaa
open Go.RowKit
set_option linter.unusedVariables false
set_option linter.unusedSimpArgs false
set_option maxHeartbeats 2000000 in
set_option maxRecDepth 100000 in
theorem rights_calls (w : World) (A : Option Addr) (L : List Ord) (c : Nat) (h : ORow w A L) :
    Calls Try.prog 36 #[.slice A L.length c] w (Left w (Ca.rights L)) := by
  have H := Lib.hid h
  obtain ⟨m, hm⟩ : ∃ m, Hid (L.length = m) := ⟨_, Lib.hid rfl⟩
  by_cases hl : 64 < m
  · have E : Hid (Ca.rights L = []) := Lib.hid (by unfold Ca.rights; rw [if_pos (by rw [hm.out]; exact hl)])
    rw [E.out, hm.out]
    have hlI : (64 : Int) < (m : Int) := by omega
    clear h
    go_enter Try.func36, Try.ntmps36
    go_wp2
    refine bodyPost_ret (by simp [results, Try.results36, asAddr, go_sem]; rfl) rfl ?_
    exact ⟨none, 0, rfl, Mine.empty _ _ _ _, Below.refl _ _⟩
  have E : Hid (Ca.rights L = L.filter Ord.right) := Lib.hid (by unfold Ca.rights; rw [if_neg (by rw [hm.out]; exact hl)])
  have hl2 : Hid (L.length ≤ 64) := Lib.hid (by rw [hm.out]; omega)
  have HC := Lib.hid (clone_calls w A L c h hl2.out)
  have HD := Lib.hid (fun wx A2 c2 (h2 : Mine w wx 6 (.slice A2 L.length c2) L.length (ocells L)) hb => delete_calls w wx A2 L c2 h2 hb hl2.out)
  rw [E.out]
  rw [hm.out] at HC HD ⊢
  have hlI : ¬ (64 : Int) < (m : Int) := by omega
  clear h
  go_enter Try.func36, Try.ntmps36
  go_wp2_with (first
    | (go_at_call 42; (with_reducible refine HC.out.mono ?_); rintro e w1 ⟨A1, c1, rfl, hz1, hb1⟩; rw [hm.out] at hz1 ⊢; have HZ := Lib.hid hz1; have HB := Lib.hid hb1; clear hz1 hb1)
    | (go_at_call 44; (with_reducible refine (HD.out _ _ _ HZ.out HB.out).mono ?_); rintro e w2 ⟨A2, c2, rfl, hz2, hb2⟩; have HZ2 := Lib.hid hz2; have HB2 := Lib.hid hb2; clear hz2 hb2))
  refine bodyPost_ret (by simp [results, Try.results36, asAddr, go_sem]; rfl) rfl ?_
  exact ⟨A2, c2, rfl, HZ2.out, HB2.out⟩
end Go.Proofs.Ytilbhnloelgpdaa
