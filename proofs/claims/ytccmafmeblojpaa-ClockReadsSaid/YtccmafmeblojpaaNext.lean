/- The walk of Next of a clock auction. -/
import Derived.Test.YtccmafmeblojpaaBid
namespace Go.Proofs.Ytccmafmeblojpaa
open Go.RowKit
/-- The first i bidders have gone on to the next round. -/
def rolled (l : List (Int × Int)) (i : Nat) : List (Int × Int) := ((l.take i).map fun p => (p.2, p.2)) ++ l.drop i
theorem rolled_zero (l : List (Int × Int)) : rolled l 0 = l := by simp [rolled]
theorem rolled_all (l : List (Int × Int)) : rolled l l.length = l.map fun p => (p.2, p.2) := by simp [rolled]
theorem rolled_length (l : List (Int × Int)) (i : Nat) : (rolled l i).length = l.length := by
  unfold rolled; rw [List.length_append, List.length_map, List.length_take, List.length_drop]; omega
theorem rolled_at (l : List (Int × Int)) {i : Nat} (h : i < l.length) : (rolled l i).getD i (0, 0) = l.getD i (0, 0) := by
  unfold rolled
  rw [List.getD_eq_getElem?_getD, List.getElem?_append_right (by rw [List.length_map, List.length_take]; omega), List.length_map, List.length_take, Nat.min_eq_left (by omega), List.getElem?_drop, List.getD_eq_getElem?_getD]
  congr 2
  omega
theorem rolled_set (l : List (Int × Int)) {i : Nat} (h : i < l.length) : (rolled l i).set i ((l.getD i (0, 0)).2, (l.getD i (0, 0)).2) = rolled l (i + 1) := by
  unfold rolled
  rw [List.set_append_right _ _ (by rw [List.length_map, List.length_take]; omega), List.length_map, List.length_take, Nat.min_eq_left (by omega), Nat.sub_self]
  rw [List.take_add_one, List.map_append, List.getD_eq_getElem?_getD, List.getElem?_eq_getElem h, List.append_assoc]
  congr 1
  rw [List.drop_eq_getElem_cons h]
  rfl
theorem feet2_only {w w1 w2 : World} {g gl : Nat} (h : Only (feet2 g gl) w w1) (hb : Below w1.heap.size w1 w2) : Only (feet2 g gl) w w2 := h.then_below hb
theorem AtA.setState {w : World} {g gl : Nat} {a : Auc} (h : AtA w g gl a) (s : Int) (hok : ({ a with state := s } : Auc).Ok) : AtA (w.setCell ⟨g, 4, none⟩ (.int .i64 s)) g gl { a with state := s } :=
  ⟨h.head.set_ 4 (.int .i64 s), h.list.far (Ne.symm h.ne) _, h.ne, hok⟩
theorem AtA.setCells {w : World} {g gl : Nat} {a : Auc} (h : AtA w g gl a) : w.frozen? ⟨g, 4, none⟩ = false ∧ w.frozen? ⟨g, 3, none⟩ = false := ⟨h.head.frozen 4, h.head.frozen 3⟩
/-- What the loop of Next keeps. -/
def Roll (w0 w : World) (g gl : Nat) (a : Auc) (i : Nat) : Prop := Blk w g 67 (acells { a with round := a.round + 1 } gl) ∧ Blk w gl 69 (bcells (rolled a.l i)).toArray ∧ Only (feet2 g gl) w0 w
theorem Roll.start {w0 w : World} {g gl : Nat} {a : Auc} (h : AtA w g gl a) (ho : Only (feet2 g gl) w0 w) : Roll w0 (w.setCell ⟨g, 3, none⟩ (.int .i64 (a.round + 1))) g gl a 0 :=
  ⟨h.head.set_ 3 (.int .i64 (a.round + 1)), by rw [rolled_zero]; exact h.list.far (Ne.symm h.ne) _, ho.setCell (.inl (.inl rfl)) _⟩
theorem Roll.step {w0 w : World} {g gl : Nat} {a : Auc} {i : Nat} (h : Roll w0 w g gl a i) (hne : g ≠ gl) (hi : i < a.l.length) : Roll w0 (w.setCell ⟨gl, i * 2, none⟩ (.int .i64 (a.l.getD i (0, 0)).2)) g gl a (i + 1) := by
  obtain ⟨h1, h2, h3⟩ := h
  refine ⟨h1.far hne _, ?_, h3.setCell (.inl (.inr rfl)) _⟩
  have := h2.set_ (i * 2) (.int .i64 (a.l.getD i (0, 0)).2)
  rw [List.setIfInBounds_toArray, bcells_set_was _ (by rw [rolled_length]; exact hi), rolled_at _ hi, rolled_set _ hi] at this
  exact this
theorem Roll.cells {w0 w : World} {g gl : Nat} {a : Auc} {i : Nat} (h : Roll w0 w g gl a i) : w.cell? ⟨g, 4, none⟩ = some (.int .i64 a.state) ∧ w.cell? ⟨g, 5, none⟩ = some (.slice (some ⟨gl, 0, none⟩) a.l.length a.l.length) := ⟨h.1.cell 4, h.1.cell 5⟩
theorem Roll.bidder {w0 w : World} {g gl : Nat} {a : Auc} {i : Nat} (h : Roll w0 w g gl a i) (hi : i < a.l.length) : w.cell? ⟨gl, i * 2 + 1, none⟩ = some (.int .i64 (a.l.getD i (0, 0)).2) ∧ w.cell? ⟨gl, i * 2, none⟩ = some (.int .i64 (a.l.getD i (0, 0)).1) ∧ w.frozen? ⟨gl, i * 2, none⟩ = false := by
  have hr : i < (rolled a.l i).length := by rw [rolled_length]; exact hi
  refine ⟨?_, ?_, h.2.1.frozen _⟩
  · rw [h.2.1.cell, List.getElem?_toArray, bcells_now _ hr, rolled_at _ hi]
  · rw [h.2.1.cell, List.getElem?_toArray, bcells_was _ hr, rolled_at _ hi]
theorem Roll.done {w0 w : World} {g gl : Nat} {a : Auc} (h : Roll w0 w g gl a a.l.length) (hne : g ≠ gl) (hok : ({ a with round := a.round + 1, l := a.l.map fun p => (p.2, p.2) } : Auc).Ok) : AtA w g gl { a with round := a.round + 1, l := a.l.map fun p => (p.2, p.2) } := by
  obtain ⟨h1, h2, _⟩ := h
  rw [rolled_all] at h2
  refine ⟨?_, h2, hne, hok⟩
  have : acells { a with round := a.round + 1, l := a.l.map fun p => (p.2, p.2) } gl = acells { a with round := a.round + 1 } gl := by unfold acells; simp
  rw [this]; exact h1
theorem Roll.drew {w0 w : World} {g gl : Nat} {a : Auc} {i : Nat} (h : Roll w0 w g gl a i) : Roll w0 w.drew g gl a i := ⟨h.1.drew, h.2.1.drew, h.2.2.drewN 1⟩
set_option maxHeartbeats 1000000 in
theorem next_calls (w : World) (g gl : Nat) (a : Auc) (h : AtA w g gl a) :
    Calls Try.prog 23 #[.pointer (some ⟨g, 0, none⟩)] w fun e w' => e = .returned (.tuple #[.bool a.next.2.1, .int .i64 a.next.2.2]) ∧ AtA w' g gl a.next.1 ∧ Only (feet2 g gl) w w' := by
  have H := Lib.hid h
  obtain ⟨c0, c1, c2, c3, c4, c5⟩ := h.cells
  have hokn := Lib.hid h.ok.next
  by_cases hs : a.state = 0
  · have hz := Lib.hid hs
    rw [hs] at c4
    obtain ⟨n, hn⟩ : ∃ n, Hid (a.l.length = n) := ⟨_, Lib.hid rfl⟩
    rw [hn.out] at c5
    have hD := Lib.hid (fun w (h : AtA w g gl a) => demand_calls w g gl a h)
    have hP := Lib.hid (fun w (h : AtA w g gl a) => price_calls w g gl a h)
    have hst := h.ok.step
    have hlap := h.ok.lap
    have hro := h.ok.round
    have hw1 : IntKind.i64.wrap (1099511627776 - a.step) = 1099511627776 - a.step := by rw [IntKind.wrap_i64]; omega
    have hn16 := h.ok.len.2
    rw [hn.out] at hn16
    by_cases hd : a.demand ≤ a.supply
    · have E : Hid (a.next = ({ a with state := 1 }, true, 0)) := Lib.hid (by unfold Auc.next; rw [if_neg (by simpa using hs), if_pos hd])
      have hok1 : Hid (({ a with state := 1 } : Auc).Ok) := Lib.hid (by have := hokn.out; rw [E.out] at this; exact this)
      rw [E.out]
      obtain ⟨f4, f3⟩ := h.setCells
      clear h c1 c2 c3 c5 hs hokn hw1 hlap hro hst
      go_enter Try.func23, Try.ntmps23
      go_upto_region 11 with (fail)
      go_region_held3 (fun w' => w'.cell? ⟨g, 0, none⟩ = some (.int .i64 a.supply))
        (first | exact (H.out.below hb1').cells.1 | exact H.out.drew.cells.1 | exact H.out.cells.1)
        ((go_at_call 22; (with_reducible refine (hD.out _ H.out.drew).mono ?_); rintro e w1 ⟨rfl, hb1⟩; have hb1' : Below w.heap.size w w1 := ⟨hb1.os, hb1.tape, hb1.output, hb1.size, hb1.block⟩))
      have hA1 := Lib.hid (H.out.below hb1')
      have c41 : w1.cell? ⟨g, 4, none⟩ = some (.int .i64 0) := hA1.out.cells.2.2.2.2.1.trans (by rw [hz.out])
      have f41 := hA1.out.head.frozen 4
      clear c0 c4 f4 f3
      go_wp2
      go_ret2
      exact ⟨rfl, hA1.out.setState 1 hok1.out, (Only.of_below hb1').setCell (.inl (.inl rfl)) _⟩
    · have hd' : a.supply < a.demand := by omega
      by_cases hpr : a.price > 1099511627776 - a.step
      · have E : Hid (a.next = ({ a with state := 2 }, true, 0)) := Lib.hid (by unfold Auc.next; rw [if_neg (by simpa using hs), if_neg hd, if_pos hpr])
        have hok1 : Hid (({ a with state := 2 } : Auc).Ok) := Lib.hid (by have := hokn.out; rw [E.out] at this; exact this)
        rw [E.out]
        have hpr' : 1099511627776 - a.step < a.price := hpr
        clear h c1 c2 c3 c5 hs hokn hlap hro hst hpr hd
        go_enter Try.func23, Try.ntmps23
        go_upto_region 11 with (fail)
        go_region_held3 (fun w' => w'.cell? ⟨g, 0, none⟩ = some (.int .i64 a.supply))
          (first | exact (H.out.below hb1').cells.1 | exact H.out.drew.cells.1 | exact H.out.cells.1)
          ((go_at_call 22; (with_reducible refine (hD.out _ H.out.drew).mono ?_); rintro e w1 ⟨rfl, hb1⟩; have hb1' : Below w.heap.size w w1 := ⟨hb1.os, hb1.tape, hb1.output, hb1.size, hb1.block⟩))
        have hA1 := Lib.hid (H.out.below hb1')
        have c41 : w1.cell? ⟨g, 4, none⟩ = some (.int .i64 0) := hA1.out.cells.2.2.2.2.1.trans (by rw [hz.out])
        have c21 : w1.cell? ⟨g, 2, none⟩ = some (.int .i64 a.step) := hA1.out.cells.2.2.1
        have f41 := hA1.out.head.frozen 4
        clear c0 c4
        go_upto_region 13 with (fail)
        go_quiet ((go_at_call 20; (first | (with_reducible refine (hP.out _ (hA1.out.drewN _)).mono ?_) | (with_reducible refine (hP.out _ hA1.out.drew).mono ?_)); rintro e w' ⟨rfl, ⟨nd, rfl⟩⟩; first | exact ⟨rfl, _, World.drewN_drewN _ _ _⟩ | exact ⟨rfl, _, rfl⟩))
        go_upto_region 14 with (fail)
        generalize hw2 : World.drewN _ _ = w2
        have hA2 : Hid (AtA w2 g gl a) := Lib.hid (by rw [← hw2]; exact hA1.out.drewN _)
        have ho2 : Hid (Only (feet2 g gl) w w2) := Lib.hid (by rw [← hw2]; exact (Only.of_below hb1').drewN _)
        replace c41 : w2.cell? ⟨g, 4, none⟩ = some (.int .i64 0) := by rw [← hw2]; exact c41
        replace f41 := hA2.out.head.frozen 4
        clear c21 hA1 hw2
        go_wp2
        go_ret2
        exact ⟨rfl, hA2.out.setState 2 hok1.out, ho2.out.setCell (.inl (.inl rfl)) _⟩
      · have E : Hid (a.next = ({ a with round := a.round + 1, l := a.l.map fun p => (p.2, p.2) }, false, 0)) := Lib.hid (by unfold Auc.next; rw [if_neg (by simpa using hs), if_neg hd, if_neg hpr])
        have hok1 : Hid (({ a with round := a.round + 1, l := a.l.map fun p => (p.2, p.2) } : Auc).Ok) := Lib.hid (by have := hokn.out; rw [E.out] at this; exact this)
        rw [E.out]
        have hpr' : ¬ 1099511627776 - a.step < a.price := hpr
        have hpr2 : a.price ≤ 1099511627776 - a.step := by omega
        have hrb : a.round ≤ 1099511627777 := by omega
        clear h c1 c2 c3 c5 hs hokn hlap hst hpr hd
        go_enter Try.func23, Try.ntmps23
        go_upto_region 11 with (fail)
        go_region_held3 (fun w' => w'.cell? ⟨g, 0, none⟩ = some (.int .i64 a.supply))
          (first | exact (H.out.below hb1').cells.1 | exact H.out.drew.cells.1 | exact H.out.cells.1)
          ((go_at_call 22; (with_reducible refine (hD.out _ H.out.drew).mono ?_); rintro e w1 ⟨rfl, hb1⟩; have hb1' : Below w.heap.size w w1 := ⟨hb1.os, hb1.tape, hb1.output, hb1.size, hb1.block⟩))
        have hA1 := Lib.hid (H.out.below hb1')
        have c41 : w1.cell? ⟨g, 4, none⟩ = some (.int .i64 0) := hA1.out.cells.2.2.2.2.1.trans (by rw [hz.out])
        have c21 : w1.cell? ⟨g, 2, none⟩ = some (.int .i64 a.step) := hA1.out.cells.2.2.1
        have f41 := hA1.out.head.frozen 4
        clear c0 c4
        go_upto_region 13 with (fail)
        go_quiet ((go_at_call 20; (first | (with_reducible refine (hP.out _ (hA1.out.drewN _)).mono ?_) | (with_reducible refine (hP.out _ hA1.out.drew).mono ?_)); rintro e w' ⟨rfl, ⟨nd, rfl⟩⟩; first | exact ⟨rfl, _, World.drewN_drewN _ _ _⟩ | exact ⟨rfl, _, rfl⟩))
        go_upto_region 1 with (fail)
        generalize hw2 : World.drewN _ _ = w2
        have hA2 : Hid (AtA w2 g gl a) := Lib.hid (by rw [← hw2]; exact hA1.out.drewN _)
        have ho2 : Hid (Only (feet2 g gl) w w2) := Lib.hid (by rw [← hw2]; exact (Only.of_below hb1').drewN _)
        have c31 := hA2.out.cells.2.2.2.1
        have c51 : w2.cell? ⟨g, 5, none⟩ = some (.slice (some ⟨gl, 0, none⟩) n n) := by have := hA2.out.cells.2.2.2.2.2; rw [hn.out] at this; exact this
        have f31 := hA2.out.head.frozen 3
        have hR := Lib.hid (Roll.start hA2.out ho2.out)
        clear c21 hA1 hw2 c41 f41
        go_wp2
        go_loopg [17] (n + 1) (fun gk s17 wr => ∃ i, gk = n + 1 - i ∧ i ≤ n ∧ s17 = .int .i64 (i : Int) ∧ Hid (Roll w wr g gl a i))
        case atStart => exact ⟨0, rfl, Nat.zero_le _, rfl, hR⟩
        case round =>
          clear hR c31 c51 f31
          obtain ⟨i, rfl, hi, rfl, hR⟩ := hrel
          have i0 : (0 : Int) ≤ (i : Int) := by omega
          by_cases hlt : i < n
          · have hlt2 : (i : Int) < (n : Int) := by omega
            have hl : i < a.l.length := by rw [hn.out]; exact hlt
            obtain ⟨k2, k1, f1⟩ := hR.out.bidder hl
            have c51 : wr.cell? ⟨g, 5, none⟩ = some (.slice (some ⟨gl, 0, none⟩) n n) := by have := hR.out.cells.2; rw [hn.out] at this; exact this
            have hR2 := Lib.hid (hR.out.drew.step H.out.ne hl)
            generalize (a.l.getD i (0, 0)).2 = p2 at k2 hR2
            generalize (a.l.getD i (0, 0)).1 = p1 at k1
            clear hl
            go_upto_region 5 with (fail)
            go_still_tail 15, (by kernel_rfl)
            change wpList _ _ _ _ _ wr.drew
            go_wp2
            go_roundg (n + 1 - (i + 1))
            case measure => omega
            case rel => exact ⟨i + 1, rfl, by omega, by go_num, hR2⟩
          · obtain rfl : i = n := by omega
            have c41 : wr.cell? ⟨g, 4, none⟩ = some (.int .i64 0) := hR.out.cells.1.trans (by rw [hz.out])
            have hfin := Lib.hid (Roll.done (by rw [hn.out]; exact hR.out) H.out.ne hok1.out)
            go_wp2
            go_ret2
            exact ⟨rfl, hfin.out, hR.out.2.2⟩
  · have E : Hid (a.next = (a, false, 70)) := Lib.hid (by unfold Auc.next; rw [if_pos hs])
    rw [E.out]
    have hs2 : a.state = 1 ∨ a.state = 2 := by
      rcases h.ok.state with h | h | h
      · exact (hs h).elim
      · exact .inl h
      · exact .inr h
    clear h hs hokn
    rcases hs2 with hs | hs
    all_goals
      rw [hs] at c4
      clear hs c0 c1 c2 c3 c5
      go_enter Try.func23, Try.ntmps23
      go_wp2
      go_ret2
      exact ⟨rfl, H.out, Only.refl _ _⟩
end Go.Proofs.Ytccmafmeblojpaa
