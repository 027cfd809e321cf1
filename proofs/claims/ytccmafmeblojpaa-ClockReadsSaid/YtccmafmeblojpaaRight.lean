/- right: an auction that calls can have led to is right. -/
import Derived.Test.YtccmafmeblojpaaBegun
namespace Go.Proofs.Ytccmafmeblojpaa
open Go.RowKit
set_option linter.unusedVariables false
set_option linter.unusedSimpArgs false
/-- What right asks. -/
structure Auc.Right (a : Auc) : Prop where
  ok : a.Ok
  fair : a.Fair
  void : a.state = 2 → a.supply < a.demand ∧ 1099511627776 - a.step < a.price
theorem Auc.Right.fresh {su st sp : Int} {n : Nat} (hok : (Auc.fresh su st sp n).Ok) : (Auc.fresh su st sp n).Right := ⟨hok, Auc.Fair.fresh su st sp n, fun h => absurd (show (0 : Int) = 2 from h) (by decide)⟩
theorem Auc.Right.bid {a : Auc} (h : a.Right) (who n : Int) : (a.bid who n).1.Right := by
  refine ⟨h.ok.bid who n, h.fair.bid who n, ?_⟩
  unfold Auc.bid
  split
  · exact h.void
  split
  · exact h.void
  split
  · exact h.void
  · rename_i h1 h2 h3
    intro hs
    have : a.state = 2 := hs
    omega
theorem Auc.Right.next {a : Auc} (h : a.Right) : a.next.1.Right := by
  refine ⟨h.ok.next, h.fair.next h.ok, ?_⟩
  unfold Auc.next
  split
  · exact h.void
  split
  · intro hs
    exact absurd (show (1 : Int) = 2 from hs) (by decide)
  split
  · rename_i h1 h2 h3
    exact fun _ => ⟨by show a.supply < a.demand; omega, by show 1099511627776 - a.step < a.price; omega⟩
  · rename_i h1 h2 h3
    intro hs
    have : a.state = 2 := hs
    omega
theorem Auc.Right.act {a : Auc} (h : a.Right) (k who n : Int) : (a.act k who n).Right := by
  unfold Auc.act
  split
  · exact h.next
  · exact h.bid who n
theorem Auc.Right.acts {a : Auc} (h : a.Right) (Z : Nat → Int) : ∀ n, (a.acts Z n).Right
  | 0 => h
  | n + 1 => (Auc.Right.acts h Z n).act _ _ _
def wasn (l : List (Int × Int)) : Int := (l.map (·.1)).sum
theorem wasn_bound {l : List (Int × Int)} (h : ∀ p ∈ l, 0 ≤ p.1 ∧ p.1 ≤ 1048576 ∧ 0 ≤ p.2 ∧ p.2 ≤ 1048576) : 0 ≤ wasn l ∧ wasn l ≤ 1048576 * l.length := by
  induction l with
  | nil => simp [wasn]
  | cons p l ih =>
    have h1 := h p (List.mem_cons_self ..)
    have h2 := ih fun q hq => h q (List.mem_cons_of_mem _ hq)
    have e : wasn (p :: l) = p.1 + wasn l := by simp [wasn]
    rw [e, List.length_cons]
    push_cast
    omega
theorem right_div {a : Auc} (h : a.Ok) : a.round - 1 ≤ (1099511627776 - a.start) / a.step := by
  have h1 := h.price
  have h2 := h.step.1
  rw [Int.le_ediv_iff_mul_le (by omega)]
  unfold Auc.price at h1
  omega
set_option maxHeartbeats 8000000 in
set_option maxRecDepth 100000 in
theorem right_true (w : World) (g gl : Nat) (a : Auc) (h : AtA w g gl a) (hr : a.Right) :
    Calls Try.prog 46 #[.pointer (some ⟨g, 0, none⟩)] w fun e w' => e = .returned (.bool true) ∧ Below w.heap.size w w' := by
  have H := Lib.hid h
  have HR := Lib.hid hr
  obtain ⟨c0, c1, c2, c3, c4, c5⟩ := h.cells
  obtain ⟨n, hn⟩ : ∃ n, Hid (a.l.length = n) := ⟨_, Lib.hid rfl⟩
  rw [hn.out] at c5
  have hn16 := h.ok.len.2
  rw [hn.out] at hn16
  have HC : Hid (∀ w1, Below w.heap.size w w1 → w1.cell? ⟨g, 0, none⟩ = some (.int .i64 a.supply) ∧ w1.cell? ⟨g, 2, none⟩ = some (.int .i64 a.step) ∧ w1.cell? ⟨g, 3, none⟩ = some (.int .i64 a.round) ∧ w1.cell? ⟨g, 4, none⟩ = some (.int .i64 a.state)) := Lib.hid fun w1 hb => by
    have := (H.out.below hb).cells
    exact ⟨this.1, this.2.2.1, this.2.2.2.1, this.2.2.2.2.1⟩
  have hround := h.ok.round
  have hlap := h.ok.lap
  have hst := h.ok.start
  have hsp := h.ok.step
  have hdiv := right_div h.ok
  have hpr := h.ok.price
  have hss : 0 ≤ a.state ∧ a.state ≤ 2 := by rcases h.ok.state with e | e | e <;> rw [e] <;> omega
  have q1 : IntKind.i64.wrap (a.round - 1) = a.round - 1 := by rw [IntKind.wrap_i64]; omega
  have q2 : IntKind.i64.wrap (1099511627776 - a.start) = 1099511627776 - a.start := by rw [IntKind.wrap_i64]; omega
  have q3 : (1099511627776 - a.start).tdiv a.step = (1099511627776 - a.start) / a.step := Int.tdiv_eq_ediv_of_nonneg (by omega)
  have q5 : IntKind.i64.wrap (1099511627776 - a.step) = 1099511627776 - a.step := by rw [IntKind.wrap_i64]; omega
  have hd0 : 0 ≤ (1099511627776 - a.start) / a.step := Int.ediv_nonneg (by omega) (by omega)
  have hd1 : (1099511627776 - a.start) / a.step ≤ 1099511627776 := Int.le_trans (Int.ediv_le_self _ (by omega)) (by omega)
  have q4 : Hid (IntKind.i64.wrap ((1099511627776 - a.start) / a.step) = (1099511627776 - a.start) / a.step) := Lib.hid (by rw [IntKind.wrap_i64]; omega)
  obtain ⟨d, hd⟩ : ∃ d, (1099511627776 - a.start) / a.step = d := ⟨_, rfl⟩
  rw [hd] at q3 q4 hdiv hd0 hd1
  have q4' := q4.out
  have hb1 : decide (a.round < 1) = false := by simp; omega
  have hb2 : decide (d < a.round - 1) = false := by simp; omega
  have hb3 : decide (2 < a.state) = false := by simp; omega
  have hspn : ¬ a.step = 0 := by omega
  have KD := Lib.hid (fun wx (hb : Below w.heap.size w wx) => demand_calls wx g gl a (H.out.below hb))
  have KP := Lib.hid (fun wx (hb : Below w.heap.size w wx) => price_calls wx g gl a (H.out.below hb))
  have HQ5 := Lib.hid q5
  clear h hr hd hlap hst hsp hpr hd0 hd1 q5
  go_enter Try.func46, Try.ntmps46
  go_upto_region 1 with (fail)
  go_quiet (fail)
  go_upto_region 4 with (fail)
  have hb0 : Hid (Below w.heap.size w (w.drewN nq)) := Lib.hid (below_self _ _)
  clear c0 c1 c2 c3 c4 q1 q2 q3 q4' hb1 hb2 hb3
  go_wp2
  clear c5
  go_loopg [3, 42] (n + 1) (fun gk s3 s42 wr => ∃ i, gk = n + 1 - i ∧ i ≤ n ∧ s42 = .int .i64 (i : Int) ∧ s3 = .int .i64 (wasn (a.l.take i)) ∧ Hid (Below w.heap.size w wr))
  case atStart => exact ⟨0, rfl, Nat.zero_le _, rfl, rfl, hb0⟩
  case round =>
    clear hb0
    obtain ⟨i, rfl, hi, rfl, rfl, hb⟩ := hrel
    have i0 : (0 : Int) ≤ (i : Int) := by omega
    by_cases hlt : i < n
    · have hltI : (i : Int) < (n : Int) := by omega
      have hl : i < a.l.length := by rw [hn.out]; exact hlt
      have hA := H.out
      have k1 := (hb.out.cell (p := ⟨gl, i * 2, none⟩) hA.list.lt).trans (hA.was hl)
      have k2 := (hb.out.cell (p := ⟨gl, i * 2 + 1, none⟩) hA.list.lt).trans (hA.now hl)
      have hmem : a.l.getD i (0, 0) ∈ a.l := by rw [List.getD_eq_getElem?_getD, List.getElem?_eq_getElem hl]; exact List.getElem_mem hl
      obtain ⟨u0, u1, u2, u3⟩ := hA.ok.each _ hmem
      have hf1 := Lib.hid (fun hr => HR.out.fair.first hr _ hmem)
      have hf2 := Lib.hid (fun hr => HR.out.fair.fall hr _ hmem)
      have hsn : Hid (wasn (a.l.take (i + 1)) = wasn (a.l.take i) + (a.l.getD i (0, 0)).1) := Lib.hid (by
        unfold wasn
        rw [List.take_add_one, List.map_append, List.sum_append, List.getD_eq_getElem?_getD, List.getElem?_eq_getElem hl]; simp)
      obtain ⟨v0, v1⟩ := wasn_bound (l := a.l.take i) fun p hp => hA.ok.each p (List.mem_of_mem_take hp)
      have hlen : ((a.l.take i).length : Int) ≤ 16 := by rw [List.length_take]; omega
      have v2 : wasn (a.l.take i) ≤ 16777216 := by omega
      generalize a.l.getD i (0, 0) = p at k1 k2 hsn u0 u1 u2 u3 hf1 hf2
      obtain ⟨p1, p2⟩ := p
      simp only at k1 k2 hsn u0 u1 u2 u3 hf1 hf2
      clear hA hl hmem v1 hlen
      go_upto_region 7 with (fail)
      have hb2 := Lib.hid (hb.out.alloc hb.out.size (.cells #[.int .i64 p1, .int .i64 p2] 69))
      have B2 : Hid (Blk (wr.alloc (.cells #[.int .i64 p1, .int .i64 p2] 69)) wr.heap.size 69 #[.int .i64 p1, .int .i64 p2]) := Lib.hid (Blk.new _ _ _)
      generalize wr.heap.size = gb at B2 ⊢
      generalize World.alloc wr _ = wy at hb2 B2 ⊢
      have q1 : wy.cell? ⟨gb, 0, none⟩ = some (.int .i64 p1) := B2.out.cell 0
      have q2 : wy.cell? ⟨gb, 1, none⟩ = some (.int .i64 p2) := B2.out.cell 1
      obtain ⟨-, -, c3, -⟩ := HC.out wy hb2.out
      clear k1 k2 hb B2
      by_cases h1 : a.round = 1
      · have e0 := hf1.out h1
        rw [h1] at c3
        subst e0
        clear hf1 hf2 h1
        go_wp2
        go_roundg (n + 1 - (i + 1))
        case measure => omega
        case rel => exact ⟨i + 1, rfl, by omega, by go_num, by rw [hsn.out]; simp, hb2⟩
      · have hr1 : 1 < a.round := by omega
        have hfl := hf2.out hr1
        have h1B : (a.round == 1) = false := by simpa using h1
        clear hf1 hf2 h1
        go_wp2
        go_roundg (n + 1 - (i + 1))
        case measure => omega
        case rel => exact ⟨i + 1, rfl, by omega, by go_num, by rw [hsn.out], hb2⟩
    · obtain rfl : n = i := by omega
      have htk : Hid (a.l.take n = a.l) := Lib.hid (List.take_of_length_le (by rw [hn.out]; exact Nat.le_refl _))
      rw [htk.out]
      have hmore := Lib.hid (HR.out.fair.more)
      obtain ⟨ws, hws⟩ : ∃ ws, Hid (wasn a.l = ws) := ⟨_, Lib.hid rfl⟩
      have hmw : Hid (1 < a.round → a.supply < ws) := Lib.hid fun hr => by
        have h1 := HR.out.fair.more hr
        have h2 := hws.out
        unfold wasn at h2
        unfold Auc.wases at h1
        omega
      rw [hws.out]
      obtain ⟨c0, c2, c3, c4⟩ := HC.out wr hb.out
      have Hd0 : Hid (Below w.heap.size w wr.drew) := Lib.hid (below_draw hb.out 1)
      have KD2 := Lib.hid (KD.out _ Hd0.out)
      obtain ⟨dm, hdm⟩ : ∃ dm, Hid (a.demand = dm) := ⟨_, Lib.hid rfl⟩
      obtain ⟨pr, hpr⟩ : ∃ pr, Hid (a.price = pr) := ⟨_, Lib.hid rfl⟩
      have hvoid := Lib.hid HR.out.void
      have hsold := Lib.hid HR.out.fair.sold
      rw [hdm.out] at KD2 hvoid hsold
      rw [hpr.out] at KP hvoid
      clear hlt
      by_cases h1 : a.round = 1
      · rw [h1] at c3
        clear h1
        go_upto_region 13 with (fail)
        go_region_held3 (fun wx => wx.cell? ⟨g, 0, none⟩ = some (.int .i64 a.supply))
          (first | (with_reducible exact (HC.out _ Hd0.out).1) | (with_reducible exact (HC.out _ hb7.out).1) | fail)
          (first
            | (go_at_call 22; (with_reducible refine (KD2.out).mono ?_); rintro e w7 ⟨rfl, hh⟩; have hb7 := Lib.hid (below_next Hd0.out hh); clear hh))
        clear c0 c2 c3 c4
        obtain ⟨c0, c2, c3, c4⟩ := HC.out w7 hb7.out
        have KP2 := Lib.hid (fun k => KP.out (w7.drewN k) (below_draw hb7.out k))
        rcases HR.out.ok.state with hs | hs | hs
        · rw [hs] at c4
          clear hs
          go_upto_region 14 with (fail)
          go_quiet (fail)
          go_wp2
          go_ret
          exact ⟨rfl, below_draw hb7.out _⟩
        · have e1 := hsold.out hs
          have e1B : decide (a.supply < dm) = false := by simp; omega
          rw [hs] at c4
          clear hs
          go_upto_region 14 with (fail)
          go_quiet (fail)
          go_wp2
          go_ret
          exact ⟨rfl, below_draw hb7.out _⟩
        · obtain ⟨e1, e2⟩ := hvoid.out hs
          rw [hs] at c4
          have q5 := HQ5.out
          clear hs
          go_upto_region 14 with (fail)
          go_quiet ((go_at_call 20; (first | (with_reducible refine (KP2.out _).mono ?_) | (with_reducible refine (KP2.out 1).mono ?_)); rintro e w' ⟨rfl, ⟨nd, rfl⟩⟩; first | exact ⟨rfl, _, World.drewN_drewN _ _ _⟩ | exact ⟨rfl, _, rfl⟩))
          go_wp2
          go_ret
          exact ⟨rfl, below_draw hb7.out _⟩
      · have hr1 : 1 < a.round := by omega
        have hsw := hmw.out hr1
        have hswB : decide (ws ≤ a.supply) = false := by simp; omega
        clear h1
        go_upto_region 13 with (fail)
        go_region_held3 (fun wx => wx.cell? ⟨g, 0, none⟩ = some (.int .i64 a.supply))
          (first | (with_reducible exact (HC.out _ Hd0.out).1) | (with_reducible exact (HC.out _ hb7.out).1) | fail)
          (first
            | (go_at_call 22; (with_reducible refine (KD2.out).mono ?_); rintro e w7 ⟨rfl, hh⟩; have hb7 := Lib.hid (below_next Hd0.out hh); clear hh))
        clear c0 c2 c3 c4
        obtain ⟨c0, c2, c3, c4⟩ := HC.out w7 hb7.out
        have KP2 := Lib.hid (fun k => KP.out (w7.drewN k) (below_draw hb7.out k))
        rcases HR.out.ok.state with hs | hs | hs
        · rw [hs] at c4
          clear hs
          go_upto_region 14 with (fail)
          go_quiet (fail)
          go_wp2
          go_ret
          exact ⟨rfl, below_draw hb7.out _⟩
        · have e1 := hsold.out hs
          have e1B : decide (a.supply < dm) = false := by simp; omega
          rw [hs] at c4
          clear hs
          go_upto_region 14 with (fail)
          go_quiet (fail)
          go_wp2
          go_ret
          exact ⟨rfl, below_draw hb7.out _⟩
        · obtain ⟨e1, e2⟩ := hvoid.out hs
          rw [hs] at c4
          have q5 := HQ5.out
          clear hs
          go_upto_region 14 with (fail)
          go_quiet ((go_at_call 20; (first | (with_reducible refine (KP2.out _).mono ?_) | (with_reducible refine (KP2.out 1).mono ?_)); rintro e w' ⟨rfl, ⟨nd, rfl⟩⟩; first | exact ⟨rfl, _, World.drewN_drewN _ _ _⟩ | exact ⟨rfl, _, rfl⟩))
          go_wp2
          go_ret
          exact ⟨rfl, below_draw hb7.out _⟩
end Go.Proofs.Ytccmafmeblojpaa
