/- The walk of Bid of a clock auction. -/
import Derived.Test.YtccmafmeblojpaaAucM
namespace Go.Proofs.Ytccmafmeblojpaa
open Go.RowKit
def feet2 (g gl : Nat) : Nat → Prop := fun k => k = g ∨ k = gl
theorem bcells_put_now {w : World} {g gl : Nat} {a : Auc} (h : AtA w g gl a) {i : Nat} (hi : i < a.l.length) (n : Int) :
    Blk (w.setCell ⟨gl, i * 2 + 1, none⟩ (.int .i64 n)) gl 69 (bcells (a.l.set i ((a.l.getD i (0, 0)).1, n))).toArray ∧ Blk (w.setCell ⟨gl, i * 2 + 1, none⟩ (.int .i64 n)) g 67 (acells a gl) := by
  refine ⟨?_, h.head.far h.ne _⟩
  have := h.list.set_ (i * 2 + 1) (.int .i64 n)
  rw [List.setIfInBounds_toArray, bcells_set_now _ hi] at this
  exact this
set_option maxHeartbeats 1000000 in
theorem bid_calls (w : World) (g gl : Nat) (a : Auc) (h : AtA w g gl a) (who n : Int) :
    Calls Try.prog 19 #[.pointer (some ⟨g, 0, none⟩), .int .i64 who, .int .i64 n] w fun e w' => e = .returned (.int .i64 (a.bid who n).2) ∧ AtA w' g gl (a.bid who n).1 ∧ Only (feet2 g gl) w w' := by
  have H := Lib.hid h
  obtain ⟨c0, c1, c2, c3, c4, c5⟩ := h.cells
  obtain ⟨m, hm⟩ : ∃ m, Hid (a.l.length = m) := ⟨_, Lib.hid rfl⟩
  rw [hm.out] at c5
  have hokb := Lib.hid (h.ok.bid who n)
  by_cases hs : a.state = 0
  · rw [hs] at c4
    by_cases hbad : who < 0 ∨ who ≥ (m : Int) ∨ n < 0 ∨ n > 1048576
    · have E : Hid (a.bid who n = (a, 1)) := Lib.hid (by unfold Auc.bid; rw [if_neg (by simpa using hs), if_pos (by rw [hm.out]; exact hbad)])
      rw [E.out]
      clear h c0 c1 c2 c3 hs hokb
      by_cases h1 : who < 0
      · clear hbad
        go_enter Try.func19, Try.ntmps19
        go_wp2
        go_ret
        exact ⟨rfl, H.out, Only.refl _ _⟩
      · have h1' : 0 ≤ who := by omega
        by_cases h2 : who ≥ (m : Int)
        · have h2' : (m : Int) ≤ who := h2
          clear hbad
          go_enter Try.func19, Try.ntmps19
          go_wp2
          go_ret
          exact ⟨rfl, H.out, Only.refl _ _⟩
        · have h2' : who < (m : Int) := by omega
          by_cases h3 : n < 0
          · clear hbad
            go_enter Try.func19, Try.ntmps19
            go_wp2
            go_ret
            exact ⟨rfl, H.out, Only.refl _ _⟩
          · have h3' : 0 ≤ n := by omega
            have h4 : 1048576 < n := by omega
            clear hbad
            go_enter Try.func19, Try.ntmps19
            go_wp2
            go_ret
            exact ⟨rfl, H.out, Only.refl _ _⟩
    · have h1 : 0 ≤ who := by omega
      have h2 : who < (m : Int) := by omega
      have h3 : 0 ≤ n := by omega
      have h4 : n ≤ 1048576 := by omega
      obtain ⟨i, rfl⟩ := Int.eq_ofNat_of_zero_le h1
      have hi : i < a.l.length := by rw [hm.out]; omega
      have k1 := h.was hi
      have k2 := h.now hi
      have f2 := h.list.frozen (i * 2 + 1)
      have him : i < m := by omega
      by_cases h5 : a.round > 1 ∧ n > (a.l.getD i (0, 0)).1
      · have E : Hid (a.bid i n = (a, 71)) := Lib.hid (by unfold Auc.bid; rw [if_neg (by simpa using hs), if_neg (by rw [hm.out]; exact hbad), if_pos (by simpa using h5)])
        rw [E.out]
        obtain ⟨h6, h7⟩ := h5
        have h6' : 1 < a.round := h6
        generalize a.l.getD i (0, 0) = p at k1 k2 h7
        obtain ⟨p1, p2⟩ := p
        simp only at k1 k2 h7
        have h7' : p1 < n := h7
        clear h c0 c1 c2 hbad hi hs hokb
        go_enter Try.func19, Try.ntmps19
        go_wp2
        go_ret
        exact ⟨rfl, H.out, Only.refl _ _⟩
      · have E : Hid (a.bid i n = ({ a with l := a.l.set i ((a.l.getD i (0, 0)).1, n) }, 0)) := Lib.hid (by unfold Auc.bid; rw [if_neg (by simpa using hs), if_neg (by rw [hm.out]; exact hbad), if_neg (by simpa using h5)]; rfl)
        have hpost : Hid (∀ w' : World, w' = w.setCell ⟨gl, i * 2 + 1, none⟩ (.int .i64 n) → AtA w' g gl { a with l := a.l.set i ((a.l.getD i (0, 0)).1, n) }) := Lib.hid fun w' hw => by
          subst hw
          obtain ⟨b1, b2⟩ := bcells_put_now H.out hi n
          have hok := hokb.out
          rw [E.out] at hok
          refine ⟨?_, b1, H.out.ne, hok⟩
          have : acells { a with l := a.l.set i ((a.l.getD i (0, 0)).1, n) } gl = acells a gl := by unfold acells; simp
          rw [this]; exact b2
        rw [E.out]
        have hgl := Lib.hid H.out.list.lt
        by_cases h6 : 1 < a.round
        · have h7 : n ≤ (a.l.getD i (0, 0)).1 := by
            rcases Int.lt_or_le (a.l.getD i (0, 0)).1 n with h8 | h8
            · exact (h5 ⟨h6, h8⟩).elim
            · exact h8
          obtain ⟨p, hp⟩ : ∃ p, Hid (a.l.getD i (0, 0) = p) := ⟨_, Lib.hid rfl⟩
          rw [hp.out] at k1 k2 h7
          obtain ⟨p1, p2⟩ := p
          simp only at k1 k2 h7
          clear h c0 c1 c2 hbad hi hs hokb h5
          go_enter Try.func19, Try.ntmps19
          go_wp2
          go_ret
          exact ⟨rfl, hpost.out _ rfl, (Only.refl _ _).setCell (.inl (.inr rfl)) _⟩
        · have h6' : a.round ≤ 1 := by omega
          clear h c0 c1 c2 hbad hi hs hokb h5
          go_enter Try.func19, Try.ntmps19
          go_wp2
          go_ret
          exact ⟨rfl, hpost.out _ rfl, (Only.refl _ _).setCell (.inl (.inr rfl)) _⟩
  · have E : Hid (a.bid who n = (a, 70)) := Lib.hid (by unfold Auc.bid; rw [if_pos hs])
    rw [E.out]
    have hs2 : a.state = 1 ∨ a.state = 2 := by
      rcases h.ok.state with h | h | h
      · exact (hs h).elim
      · exact .inl h
      · exact .inr h
    clear h hs hokb
    rcases hs2 with hs | hs
    all_goals
      rw [hs] at c4
      clear hs c0 c1 c2 c3 c5
      go_enter Try.func19, Try.ntmps19
      go_wp2
      go_ret
      exact ⟨rfl, H.out, Only.refl _ _⟩
end Go.Proofs.Ytccmafmeblojpaa
