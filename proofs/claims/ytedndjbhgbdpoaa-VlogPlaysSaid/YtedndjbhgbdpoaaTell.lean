/- The contracts of View, Low, Proposal, Prepared, Committed. -/
import Derived.Test.YtedndjbhgbdpoaaVote
namespace Go.Proofs.Ytedndjbhgbdpoaa
open Go.RowKit
section
variable {w : World} {g gm : Nat} {gv : Nat → Nat → Option Nat} {kv : Nat → Value} {l : Vl}
theorem view_calls (h : AtV w g gm gv kv l) : Calls Try.prog 23 #[.pointer (some ⟨g, 0, none⟩)] w fun e w' => e = .returned (.int .i64 l.view) ∧ w = w' := by
  obtain ⟨-, c1, -, -⟩ := h.head
  clear h
  go_enter Try.func23, Try.ntmps23
  go_wp2
  go_ret
  exact ⟨rfl, rfl⟩
theorem low_calls (h : AtV w g gm gv kv l) : Calls Try.prog 20 #[.pointer (some ⟨g, 0, none⟩)] w fun e w' => e = .returned (.int .i64 l.low) ∧ w = w' := by
  obtain ⟨-, -, c2, -⟩ := h.head
  clear h
  go_enter Try.func20, Try.ntmps20
  go_wp2
  go_ret
  exact ⟨rfl, rfl⟩
theorem proposal_calls (h : AtV w g gm gv kv l) (seq : Int) : Calls Try.prog 25 #[.pointer (some ⟨g, 0, none⟩), .int .i64 seq] w fun e w' => e = .returned (.tuple #[.string (l.proposal seq).1, .string (l.proposal seq).2.1, .bool (l.proposal seq).2.2]) ∧ ∃ d, w' = w.drewN d := by
  have HW := Lib.hid (within_calls h seq)
  by_cases hw : l.within seq
  · rw [decide_eq_true hw] at HW
    obtain ⟨h0, h1⟩ := Vl.within_ix h.ok hw
    have HA := Lib.hid (fun w => at_calls w g seq h0)
    have hk8 := ix_lt seq
    have c5 := h.field (k := ix seq) (j := 0) hk8 (by omega)
    have c6 := h.field (k := ix seq) (j := 1) hk8 (by omega)
    have c7 := h.field (k := ix seq) (j := 2) hk8 (by omega)
    have E : Hid (l.proposal seq = ((l.slots (ix seq)).digest, (l.slots (ix seq)).batch, (l.slots (ix seq)).has)) := Lib.hid (by unfold Vl.proposal Vl.slot; rw [if_pos hw])
    rw [E.out]
    clear h hw E
    generalize ix seq = k at HA hk8 c5 c6 c7 ⊢
    simp only [slotCell, Nat.add_zero] at c5 c6 c7
    go_enter Try.func25, Try.ntmps25
    go_upto_region 4 with (first
      | (go_at_call 34; (with_reducible refine (HW.out).mono ?_); rintro e w1 ⟨rfl, rfl⟩)
      | (go_at_call 35; (with_reducible refine (HA.out _).mono ?_); rintro e w1 ⟨rfl, rfl⟩))
    go_quiet (fail)
    go_wp2
    go_ret3
    exact ⟨rfl, _, rfl⟩
  · rw [decide_eq_false hw] at HW
    have E : Hid (l.proposal seq = (noText, noText, false)) := Lib.hid (by unfold Vl.proposal; rw [if_neg hw])
    rw [E.out]
    clear h hw E
    unfold noText
    go_enter Try.func25, Try.ntmps25
    go_wp2_with (first
      | (go_at_call 34; (with_reducible refine (HW.out).mono ?_); rintro e w1 ⟨rfl, rfl⟩))
    go_ret3
    exact ⟨rfl, 0, rfl⟩
theorem agree_bound (h : AtV w g gm gv kv l) (seq : Int) (j : Nat) : (l.agree seq j).length ≤ 13 := by
  have := agree_le (l.slot seq) j l.n.toNat
  have hn := h.ok.n
  unfold Vl.agree
  omega
theorem prepared_calls (h : AtV w g gm gv kv l) (seq : Int) : Calls Try.prog 18 #[.pointer (some ⟨g, 0, none⟩), .int .i64 seq] w fun e w' => e = .returned (.bool (l.prepared seq)) ∧ Below w.heap.size w w' := by
  have H := Lib.hid h
  have HW := Lib.hid (within_calls h seq)
  by_cases hw : l.within seq
  · rw [decide_eq_true hw] at HW
    obtain ⟨h0, h1⟩ := Vl.within_ix h.ok hw
    have HG := Lib.hid (agree_calls h seq h0 0 (by omega) 3 rfl)
    obtain ⟨q, hq, hq3, hq9, hqn⟩ := Vl.quorum_some h.ok
    have HQ : Hid (∀ wx, AtV wx g gm gv kv l → Calls Try.prog 42 #[.pointer (some ⟨g, 0, none⟩)] wx fun e w' => e = .returned (.int .i64 (q : Int)) ∧ ∃ d, w' = wx.drewN d) := Lib.hid fun wx hx => by
      have := quorum_calls hx
      rw [hq] at this
      exact this
    have E : Hid (l.prepared seq = decide (q ≤ (l.agree seq 0).length)) := Lib.hid (by
      unfold Vl.prepared
      rw [hq]
      by_cases e : q ≤ (l.agree seq 0).length
      · rw [decide_eq_true e, decide_eq_true ⟨hw, by omega⟩]
      · rw [decide_eq_false e, decide_eq_false fun hh => e (by omega)])
    have hal := agree_bound h seq 0
    rw [E.out]
    generalize (l.agree seq 0).length = m at HG hal ⊢
    clear h hw hq hqn E
    by_cases e : q ≤ m
    · have e2 : (q : Int) ≤ (m : Int) := by omega
      rw [decide_eq_true e]
      clear e
      go_enter Try.func18, Try.ntmps18
      go_wp2_with (first
        | (go_at_call 34; (with_reducible refine (HW.out).mono ?_); rintro e w1 ⟨rfl, rfl⟩)
        | (go_at_call 41; (with_reducible refine HG.out.mono ?_); rintro e w1 ⟨A, c, rfl, -, hb⟩; have hB := Lib.hid hb; have hA1 := Lib.hid (H.out.below hb); clear hb)
        | (go_at_call 42; (with_reducible refine (HQ.out _ hA1.out).mono ?_); rintro e w2 ⟨rfl, nd, rfl⟩))
      go_ret
      exact ⟨rfl, below_draw hB.out _⟩
    · have e2 : ¬ (q : Int) ≤ (m : Int) := by omega
      clear e
      go_enter Try.func18, Try.ntmps18
      go_wp2_with (first
        | (go_at_call 34; (with_reducible refine (HW.out).mono ?_); rintro e w1 ⟨rfl, rfl⟩)
        | (go_at_call 41; (with_reducible refine HG.out.mono ?_); rintro e w1 ⟨A, c, rfl, -, hb⟩; have hB := Lib.hid hb; have hA1 := Lib.hid (H.out.below hb); clear hb)
        | (go_at_call 42; (with_reducible refine (HQ.out _ hA1.out).mono ?_); rintro e w2 ⟨rfl, nd, rfl⟩))
      go_ret
      exact ⟨rfl, below_draw hB.out _⟩
  · rw [decide_eq_false hw] at HW
    have E : Hid (l.prepared seq = false) := Lib.hid (by unfold Vl.prepared; rw [decide_eq_false fun hh => hw hh.1])
    rw [E.out]
    clear h hw E
    go_enter Try.func18, Try.ntmps18
    go_wp2_with (first
      | (go_at_call 34; (with_reducible refine (HW.out).mono ?_); rintro e w1 ⟨rfl, rfl⟩))
    go_ret
    exact ⟨rfl, Below.refl _ _⟩
theorem committed_calls (h : AtV w g gm gv kv l) (seq : Int) : Calls Try.prog 21 #[.pointer (some ⟨g, 0, none⟩), .int .i64 seq] w fun e w' => e = .returned (.bool (l.committed seq)) ∧ Below w.heap.size w w' := by
  have H := Lib.hid h
  have HP := Lib.hid (prepared_calls h seq)
  by_cases hw : l.prepared seq = true
  · rw [hw] at HP
    have hin : l.within seq := by unfold Vl.prepared at hw; exact (of_decide_eq_true hw).1
    obtain ⟨h0, h1⟩ := Vl.within_ix h.ok hin
    have HG : Hid (∀ wx, AtV wx g gm gv kv l → Calls Try.prog 41 #[.pointer (some ⟨g, 0, none⟩), .int .i64 seq, .int .i64 4] wx fun e w' => ∃ A c, e = .returned (.slice A (l.agree seq 1).length c) ∧ Mine wx w' 3 (.slice A (l.agree seq 1).length c) (l.agree seq 1).length (scells (l.agree seq 1)) ∧ Below wx.heap.size wx w') := Lib.hid fun wx hx => agree_calls hx seq h0 1 (by omega) 4 rfl
    obtain ⟨q, hq, hq3, hq9, hqn⟩ := Vl.quorum_some h.ok
    have HQ : Hid (∀ wx, AtV wx g gm gv kv l → Calls Try.prog 42 #[.pointer (some ⟨g, 0, none⟩)] wx fun e w' => e = .returned (.int .i64 (q : Int)) ∧ ∃ d, w' = wx.drewN d) := Lib.hid fun wx hx => by
      have := quorum_calls hx
      rw [hq] at this
      exact this
    have E : Hid (l.committed seq = decide (q ≤ (l.agree seq 1).length)) := Lib.hid (by
      unfold Vl.committed
      rw [hq, hw, Bool.true_and]
      by_cases e : q ≤ (l.agree seq 1).length
      · rw [decide_eq_true e, decide_eq_true (by omega)]
      · rw [decide_eq_false e, decide_eq_false fun hh => e (by omega)])
    have hal := agree_bound h seq 1
    rw [E.out]
    generalize (l.agree seq 1).length = m at HG hal ⊢
    clear h hw hq hqn E hin
    by_cases e : q ≤ m
    · have e2 : (q : Int) ≤ (m : Int) := by omega
      rw [decide_eq_true e]
      clear e
      go_enter Try.func21, Try.ntmps21
      go_wp2_with (first
        | (go_at_call 18; (with_reducible refine (HP.out).mono ?_); rintro e w0 ⟨rfl, hb⟩; have hB0 := Lib.hid hb; have hA0 := Lib.hid (H.out.below hb); clear hb)
        | (go_at_call 41; (with_reducible refine (HG.out _ hA0.out).mono ?_); rintro e w1 ⟨A, c, rfl, -, hb⟩; have hB := Lib.hid (below_next hB0.out hb); have hA1 := Lib.hid (hA0.out.below hb); clear hb)
        | (go_at_call 42; (with_reducible refine (HQ.out _ hA1.out).mono ?_); rintro e w2 ⟨rfl, nd, rfl⟩))
      go_ret
      exact ⟨rfl, below_draw hB.out _⟩
    · have e2 : ¬ (q : Int) ≤ (m : Int) := by omega
      clear e
      go_enter Try.func21, Try.ntmps21
      go_wp2_with (first
        | (go_at_call 18; (with_reducible refine (HP.out).mono ?_); rintro e w0 ⟨rfl, hb⟩; have hB0 := Lib.hid hb; have hA0 := Lib.hid (H.out.below hb); clear hb)
        | (go_at_call 41; (with_reducible refine (HG.out _ hA0.out).mono ?_); rintro e w1 ⟨A, c, rfl, -, hb⟩; have hB := Lib.hid (below_next hB0.out hb); have hA1 := Lib.hid (hA0.out.below hb); clear hb)
        | (go_at_call 42; (with_reducible refine (HQ.out _ hA1.out).mono ?_); rintro e w2 ⟨rfl, nd, rfl⟩))
      go_ret
      exact ⟨rfl, below_draw hB.out _⟩
  · have hw2 : l.prepared seq = false := by simpa using hw
    rw [hw2] at HP
    have E : Hid (l.committed seq = false) := Lib.hid (by unfold Vl.committed; rw [hw2, Bool.false_and])
    rw [E.out]
    clear h hw hw2 E
    go_enter Try.func21, Try.ntmps21
    go_wp2_with (first
      | (go_at_call 18; (with_reducible refine (HP.out).mono ?_); rintro e w0 ⟨rfl, hb⟩; have hB0 := Lib.hid hb; clear hb))
    go_ret
    exact ⟨rfl, hB0.out⟩
end
end Go.Proofs.Ytedndjbhgbdpoaa
