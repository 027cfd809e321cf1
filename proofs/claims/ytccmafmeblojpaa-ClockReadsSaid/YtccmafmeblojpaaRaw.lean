/- right: what is no auction is not right. -/
import Derived.Test.YtccmafmeblojpaaRight
namespace Go.Proofs.Ytccmafmeblojpaa
open Go.RowKit
set_option linter.unusedVariables false
set_option linter.unusedSimpArgs false
/-- Numbers as they may be read, behind New's tests. -/
structure Auc.Raw (a : Auc) : Prop where
  supply : 1 ≤ a.supply ∧ a.supply ≤ 1048576
  start : 0 ≤ a.start ∧ a.start ≤ 1099511627776
  step : 1 ≤ a.step ∧ a.step ≤ 1099511627776
  round : 0 ≤ a.round ∧ a.round ≤ 9007199254740992
  state : 0 ≤ a.state ∧ a.state ≤ 9007199254740992
  len : 1 ≤ a.l.length ∧ a.l.length ≤ 16
  each : ∀ p ∈ a.l, 0 ≤ p.1 ∧ p.1 ≤ 9007199254740992 ∧ 0 ≤ p.2 ∧ p.2 ≤ 9007199254740992
/-- What right finds no fault with in a bidder. -/
def okPair (round : Int) (p : Int × Int) : Prop := p.1 ≤ 1048576 ∧ p.2 ≤ 1048576 ∧ (round = 1 → p.1 = 0) ∧ (1 < round → p.2 ≤ p.1)
theorem raw_ok {a : Auc} (h : a.Raw) (h1 : 1 ≤ a.round) (h2 : a.round - 1 ≤ (1099511627776 - a.start) / a.step) (h3 : a.state ≤ 2) (h4 : ∀ p ∈ a.l, okPair a.round p) : a.Ok := by
  refine ⟨h.supply, h.start, h.step, h1, ?_, ?_, h.len, fun p hp => ?_⟩
  · have h5 := h.step.1
    rw [Int.le_ediv_iff_mul_le (by omega)] at h2
    unfold Auc.price
    omega
  · have := h.state; omega
  · have h5 := h.each p hp
    have h6 := h4 p hp
    exact ⟨h5.1, h6.1, h5.2.2.1, h6.2.1⟩
theorem wasn_bound2 {l : List (Int × Int)} (h : ∀ p ∈ l, 0 ≤ p.1 ∧ p.1 ≤ 1048576) : 0 ≤ wasn l ∧ wasn l ≤ 1048576 * l.length := by
  induction l with
  | nil => simp [wasn]
  | cons p l ih =>
    have h1 := h p (List.mem_cons_self ..)
    have h2 := ih fun q hq => h q (List.mem_cons_of_mem _ hq)
    have e : wasn (p :: l) = p.1 + wasn l := by simp [wasn]
    rw [e, List.length_cons]
    push_cast
    omega
set_option maxHeartbeats 16000000 in
set_option maxRecDepth 100000 in
theorem right_false (w : World) (g gl : Nat) (a : Auc) (hh : Blk w g 67 (acells a gl)) (hl : Blk w gl 69 (bcells a.l).toArray) (hne : g ≠ gl) (hR : a.Raw) (hn : ¬ a.Right) :
    Calls Try.prog 46 #[.pointer (some ⟨g, 0, none⟩)] w fun e w' => e = .returned (.bool false) ∧ Below w.heap.size w w' := by
  have HH := Lib.hid hh
  have HL := Lib.hid hl
  have HR := Lib.hid hR
  have HN := Lib.hid hn
  have HNe := Lib.hid hne
  obtain ⟨n, hnn⟩ : ∃ n, Hid (a.l.length = n) := ⟨_, Lib.hid rfl⟩
  have hn16 := hR.len.2
  rw [hnn.out] at hn16
  have HC : Hid (∀ w1, Below w.heap.size w w1 → w1.cell? ⟨g, 0, none⟩ = some (.int .i64 a.supply) ∧ w1.cell? ⟨g, 1, none⟩ = some (.int .i64 a.start) ∧ w1.cell? ⟨g, 2, none⟩ = some (.int .i64 a.step) ∧ w1.cell? ⟨g, 3, none⟩ = some (.int .i64 a.round) ∧ w1.cell? ⟨g, 4, none⟩ = some (.int .i64 a.state) ∧ w1.cell? ⟨g, 5, none⟩ = some (.slice (some ⟨gl, 0, none⟩) n n)) := Lib.hid fun w1 hb => by
    have b := HH.out.below hb HH.out.lt
    exact ⟨b.cell 0, b.cell 1, b.cell 2, b.cell 3, b.cell 4, by rw [← hnn.out]; exact b.cell 5⟩
  obtain ⟨c0, c1, c2, c3, c4, c5⟩ := HC.out w (Below.refl _ _)
  have hround := hR.round
  have hst := hR.start
  have hsp := hR.step
  have hss := hR.state
  have q1 : IntKind.i64.wrap (a.round - 1) = a.round - 1 := by rw [IntKind.wrap_i64]; omega
  have q2 : IntKind.i64.wrap (1099511627776 - a.start) = 1099511627776 - a.start := by rw [IntKind.wrap_i64]; omega
  have q3 : (1099511627776 - a.start).tdiv a.step = (1099511627776 - a.start) / a.step := Int.tdiv_eq_ediv_of_nonneg (by omega)
  have q5 : IntKind.i64.wrap (1099511627776 - a.step) = 1099511627776 - a.step := by rw [IntKind.wrap_i64]; omega
  have hd0 : 0 ≤ (1099511627776 - a.start) / a.step := Int.ediv_nonneg (by omega) (by omega)
  have hd1 : (1099511627776 - a.start) / a.step ≤ 1099511627776 := Int.le_trans (Int.ediv_le_self _ (by omega)) (by omega)
  have q4 : Hid (IntKind.i64.wrap ((1099511627776 - a.start) / a.step) = (1099511627776 - a.start) / a.step) := Lib.hid (by rw [IntKind.wrap_i64]; omega)
  obtain ⟨d, hd⟩ : ∃ d, Hid ((1099511627776 - a.start) / a.step = d) := ⟨_, Lib.hid rfl⟩
  rw [hd.out] at q3 q4 hd0 hd1
  have q4' := q4.out
  have hspn : ¬ a.step = 0 := by omega
  have HQ5 := Lib.hid q5
  have hss0 := Lib.hid hss
  have hr0 := Lib.hid hround
  clear hh hl hR hn hne hst hsp hd0 hd1 q5
  go_enter Try.func46, Try.ntmps46
  go_upto_region 1 with (fail)
  by_cases h1 : a.round < 1
  ·
    clear hss hround
    go_quiet (fail)
    go_wp2
    go_ret
    exact ⟨rfl, below_self _ _⟩
  have b1 : decide (a.round < 1) = false := by simpa using h1
  have h1' : 1 ≤ a.round := by omega
  by_cases h2 : d < a.round - 1
  · clear h1
    clear hss hround
    go_quiet (fail)
    go_wp2
    go_ret
    exact ⟨rfl, below_self _ _⟩
  have b2 : decide (d < a.round - 1) = false := by simpa using h2
  by_cases h3 : 2 < a.state
  · clear h1 h2
    clear hss hround
    go_quiet (fail)
    go_wp2
    go_ret
    exact ⟨rfl, below_self _ _⟩
  have b3 : decide (2 < a.state) = false := by simpa using h3
  have HOk : Hid ((∀ p ∈ a.l, okPair a.round p) → a.Ok) := Lib.hid fun h4 => raw_ok HR.out h1' (by rw [hd.out]; omega) (by omega) h4
  have hst3 : Hid (a.state = 0 ∨ a.state = 1 ∨ a.state = 2) := Lib.hid (by have := hss0.out; omega)
  have h1h := Lib.hid h1'
  clear h1 h2 h3 h1' hss hround
  go_quiet (fail)
  go_upto_region 4 with (fail)
  have hb0 : Hid (Below w.heap.size w (w.drewN nq)) := Lib.hid (below_self _ _)
  clear c0 c1 c2 c3 c4 q1 q2 q3 q4' b1 b2 b3
  go_wp2
  clear c5
  go_loopg [3, 42] (n + 1) (fun gk s3 s42 wr => ∃ i, gk = n + 1 - i ∧ i ≤ n ∧ s42 = .int .i64 (i : Int) ∧ s3 = .int .i64 (wasn (a.l.take i)) ∧ Hid (∀ p ∈ a.l.take i, okPair a.round p) ∧ Hid (Below w.heap.size w wr))
  case atStart => exact ⟨0, rfl, Nat.zero_le _, rfl, rfl, Lib.hid (by simp), hb0⟩
  case round =>
    clear hb0
    obtain ⟨i, rfl, hi, rfl, rfl, hok, hb⟩ := hrel
    have i0 : (0 : Int) ≤ (i : Int) := by omega
    by_cases hlt : i < n
    · have hltI : (i : Int) < (n : Int) := by omega
      have hl : i < a.l.length := by rw [hnn.out]; exact hlt
      have B := HL.out.below hb.out HL.out.lt
      have k1 : wr.cell? ⟨gl, i * 2, none⟩ = some (.int .i64 (a.l.getD i (0, 0)).1) := by
        rw [B.cell, List.getElem?_toArray]; exact bcells_was _ hl
      have k2 : wr.cell? ⟨gl, i * 2 + 1, none⟩ = some (.int .i64 (a.l.getD i (0, 0)).2) := by
        rw [B.cell, List.getElem?_toArray]; exact bcells_now _ hl
      have hmem : a.l.getD i (0, 0) ∈ a.l := by rw [List.getD_eq_getElem?_getD, List.getElem?_eq_getElem hl]; exact List.getElem_mem hl
      obtain ⟨u0, u1, u2, u3⟩ := HR.out.each _ hmem
      have hsn : Hid (wasn (a.l.take (i + 1)) = wasn (a.l.take i) + (a.l.getD i (0, 0)).1) := Lib.hid (by
        unfold wasn
        rw [List.take_add_one, List.map_append, List.sum_append, List.getD_eq_getElem?_getD, List.getElem?_eq_getElem hl]; simp)
      have htk : Hid (a.l.take (i + 1) = a.l.take i ++ [a.l.getD i (0, 0)]) := Lib.hid (by rw [List.take_add_one, List.getD_eq_getElem?_getD, List.getElem?_eq_getElem hl]; rfl)
      obtain ⟨v0, v1⟩ := wasn_bound2 (l := a.l.take i) fun p hp => ⟨(HR.out.each p (List.mem_of_mem_take hp)).1, (hok.out p hp).1⟩
      have hlen : ((a.l.take i).length : Int) ≤ 16 := by rw [List.length_take]; omega
      have v2 : wasn (a.l.take i) ≤ 16777216 := by omega
      generalize a.l.getD i (0, 0) = p at k1 k2 hsn htk u0 u1 u2 u3
      obtain ⟨p1, p2⟩ := p
      simp only at k1 k2 hsn u0 u1 u2 u3
      have hstep : Hid (okPair a.round (p1, p2) → ∀ q ∈ a.l.take (i + 1), okPair a.round q) := Lib.hid fun hq q hqm => by
        rw [htk.out, List.mem_append, List.mem_singleton] at hqm
        rcases hqm with hqm | rfl
        · exact hok.out q hqm
        · exact hq
      clear B hl hmem v1 hlen
      go_upto_region 7 with (fail)
      have hb2 := Lib.hid (hb.out.alloc hb.out.size (.cells #[.int .i64 p1, .int .i64 p2] 69))
      have B2 : Hid (Blk (wr.alloc (.cells #[.int .i64 p1, .int .i64 p2] 69)) wr.heap.size 69 #[.int .i64 p1, .int .i64 p2]) := Lib.hid (Blk.new _ _ _)
      generalize wr.heap.size = gb at B2 ⊢
      generalize World.alloc wr _ = wy at hb2 B2 ⊢
      have y1 : wy.cell? ⟨gb, 0, none⟩ = some (.int .i64 p1) := B2.out.cell 0
      have y2 : wy.cell? ⟨gb, 1, none⟩ = some (.int .i64 p2) := B2.out.cell 1
      obtain ⟨-, -, -, c3, -, -⟩ := HC.out wy hb2.out
      clear k1 k2 hb B2
      by_cases x1 : 1048576 < p1
      ·
        go_wp2
        go_ret
        exact ⟨rfl, hb2.out⟩
      have x1' : p1 ≤ 1048576 := by omega
      by_cases x2 : 1048576 < p2
      · clear x1
        go_wp2
        go_ret
        exact ⟨rfl, hb2.out⟩
      have x2' : p2 ≤ 1048576 := by omega
      clear x1 x2
      have h1r := h1h.out
      by_cases hr1 : a.round = 1
      · rw [hr1] at c3
        by_cases x3 : p1 = 0
        · subst x3
          have hq := Lib.hid (hstep.out ⟨x1', x2', fun _ => rfl, fun h => by omega⟩)
          clear hr1 h1r
          go_wp2
          go_roundg (n + 1 - (i + 1))
          case measure => omega
          case rel => exact ⟨i + 1, rfl, by omega, by go_num, by rw [hsn.out]; simp, hq, hb2⟩
        · have x3' : 0 < p1 := by omega
          clear hr1 h1r x3
          go_wp2
          go_ret
          exact ⟨rfl, hb2.out⟩
      · have hr2 : 1 < a.round := by omega
        have hrB : (a.round == 1) = false := by simpa using hr1
        by_cases x3 : p1 < p2
        · clear hr1 h1r
          go_wp2
          go_ret
          exact ⟨rfl, hb2.out⟩
        · have x3' : p2 ≤ p1 := by omega
          have hq := Lib.hid (hstep.out ⟨x1', x2', fun h => (hr1 h).elim, fun _ => x3'⟩)
          clear hr1 h1r x3
          go_wp2
          go_roundg (n + 1 - (i + 1))
          case measure => omega
          case rel => exact ⟨i + 1, rfl, by omega, by go_num, by rw [hsn.out], hq, hb2⟩
    · obtain rfl : n = i := by omega
      have htk : Hid (a.l.take n = a.l) := Lib.hid (List.take_of_length_le (by rw [hnn.out]; exact Nat.le_refl _))
      rw [htk.out] at hok ⊢
      have HO := Lib.hid (HOk.out hok.out)
      have HAt := Lib.hid (fun w1 (hb : Below w.heap.size w w1) => (show AtA w1 g gl a from ⟨HH.out.below hb HH.out.lt, HL.out.below hb HL.out.lt, HNe.out, HO.out⟩))
      have KD := Lib.hid (fun wx (hb : Below w.heap.size w wx) => demand_calls wx g gl a (HAt.out wx hb))
      have KP := Lib.hid (fun wx (hb : Below w.heap.size w wx) => price_calls wx g gl a (HAt.out wx hb))
      obtain ⟨ws, hws⟩ : ∃ ws, Hid (wasn a.l = ws) := ⟨_, Lib.hid rfl⟩
      rw [hws.out]
      have hwse : Hid (Auc.wases a.l = ws) := Lib.hid (by rw [← hws.out]; rfl)
      obtain ⟨c0, -, c2, c3, c4, -⟩ := HC.out wr hb.out
      have h1r := h1h.out
      have Hd0 : Hid (Below w.heap.size w wr.drew) := Lib.hid (below_draw hb.out 1)
      have KD2 := Lib.hid (KD.out _ Hd0.out)
      obtain ⟨dm, hdm⟩ : ∃ dm, Hid (a.demand = dm) := ⟨_, Lib.hid rfl⟩
      obtain ⟨pr, hpr⟩ : ∃ pr, Hid (a.price = pr) := ⟨_, Lib.hid rfl⟩
      have HFin : Hid ((1 < a.round → a.supply < ws) → (a.state = 1 → dm ≤ a.supply) → (a.state = 2 → a.supply < dm ∧ 1099511627776 - a.step < pr) → False) := Lib.hid fun h1 h2 h3 => HN.out ⟨HO.out, ⟨fun hr p hp => (hok.out p hp).2.2.1 hr, fun hr p hp => (hok.out p hp).2.2.2 hr, fun hr => by rw [hwse.out]; exact h1 hr, fun hs => by rw [hdm.out]; exact h2 hs⟩, fun hs => by rw [hdm.out, hpr.out]; exact h3 hs⟩
      rw [hdm.out] at KD2
      rw [hpr.out] at KP
      clear hlt
      by_cases h1 : a.round = 1
      · have hmw : Hid (1 < a.round → a.supply < ws) := Lib.hid fun h => by omega
        rw [h1] at c3
        clear h1 h1r
        go_upto_region 13 with (fail)
        go_region_held3 (fun wx => wx.cell? ⟨g, 0, none⟩ = some (.int .i64 a.supply))
          (first | (with_reducible exact (HC.out _ Hd0.out).1) | (with_reducible exact (HC.out _ hb7.out).1) | fail)
          (first
            | (go_at_call 22; (with_reducible refine (KD2.out).mono ?_); rintro e w7 ⟨rfl, hh⟩; have hb7 := Lib.hid (below_next Hd0.out hh); clear hh))
        clear c0 c2 c3 c4
        obtain ⟨c0, -, c2, c3, c4, -⟩ := HC.out w7 hb7.out
        have KP2 := Lib.hid (fun k => KP.out (w7.drewN k) (below_draw hb7.out k))
        rcases hst3.out with hs | hs | hs
        · exact (HFin.out hmw.out (fun h => by omega) (fun h => by omega)).elim
        · have e1 : a.supply < dm := by
            rcases Int.lt_or_le a.supply dm with h | h
            · exact h
            · exact (HFin.out hmw.out (fun _ => h) (fun h => by omega)).elim
          rw [hs] at c4
          clear hs
          go_upto_region 14 with (fail)
          go_quiet (fail)
          go_wp2
          go_ret
          exact ⟨rfl, below_draw hb7.out _⟩
        · have q5 := HQ5.out
          by_cases e1 : a.supply < dm
          · have e2 : ¬ 1099511627776 - a.step < pr := fun h => HFin.out hmw.out (fun h => by omega) (fun _ => ⟨e1, h⟩)
            have e2B : decide (1099511627776 - a.step < pr) = false := by simpa using e2
            rw [hs] at c4
            clear hs e2
            go_upto_region 14 with (fail)
            go_quiet ((go_at_call 20; (first | (with_reducible refine (KP2.out _).mono ?_) | (with_reducible refine (KP2.out 1).mono ?_)); rintro e w' ⟨rfl, ⟨nd, rfl⟩⟩; first | exact ⟨rfl, _, World.drewN_drewN _ _ _⟩ | exact ⟨rfl, _, rfl⟩))
            go_wp2
            go_ret
            exact ⟨rfl, below_draw hb7.out _⟩
          · have e1B : decide (a.supply < dm) = false := by simpa using e1
            rw [hs] at c4
            clear hs e1
            go_upto_region 14 with (fail)
            go_quiet (fail)
            go_wp2
            go_ret
            exact ⟨rfl, below_draw hb7.out _⟩
      · have hr1 : 1 < a.round := by omega
        by_cases hsw : ws ≤ a.supply
        · clear h1 h1r
          go_wp2
          go_ret
          exact ⟨rfl, hb.out⟩
        · have hmw : Hid (1 < a.round → a.supply < ws) := Lib.hid fun h => by omega
          have hswB : decide (ws ≤ a.supply) = false := by simpa using hsw
          clear h1 h1r hsw
          go_upto_region 13 with (fail)
          go_region_held3 (fun wx => wx.cell? ⟨g, 0, none⟩ = some (.int .i64 a.supply))
            (first | (with_reducible exact (HC.out _ Hd0.out).1) | (with_reducible exact (HC.out _ hb7.out).1) | fail)
            (first
              | (go_at_call 22; (with_reducible refine (KD2.out).mono ?_); rintro e w7 ⟨rfl, hh⟩; have hb7 := Lib.hid (below_next Hd0.out hh); clear hh))
          clear c0 c2 c3 c4
          obtain ⟨c0, -, c2, c3, c4, -⟩ := HC.out w7 hb7.out
          have KP2 := Lib.hid (fun k => KP.out (w7.drewN k) (below_draw hb7.out k))
          rcases hst3.out with hs | hs | hs
          · exact (HFin.out hmw.out (fun h => by omega) (fun h => by omega)).elim
          · have e1 : a.supply < dm := by
              rcases Int.lt_or_le a.supply dm with h | h
              · exact h
              · exact (HFin.out hmw.out (fun _ => h) (fun h => by omega)).elim
            rw [hs] at c4
            clear hs
            go_upto_region 14 with (fail)
            go_quiet (fail)
            go_wp2
            go_ret
            exact ⟨rfl, below_draw hb7.out _⟩
          · have q5 := HQ5.out
            by_cases e1 : a.supply < dm
            · have e2 : ¬ 1099511627776 - a.step < pr := fun h => HFin.out hmw.out (fun h => by omega) (fun _ => ⟨e1, h⟩)
              have e2B : decide (1099511627776 - a.step < pr) = false := by simpa using e2
              rw [hs] at c4
              clear hs e2
              go_upto_region 14 with (fail)
              go_quiet ((go_at_call 20; (first | (with_reducible refine (KP2.out _).mono ?_) | (with_reducible refine (KP2.out 1).mono ?_)); rintro e w' ⟨rfl, ⟨nd, rfl⟩⟩; first | exact ⟨rfl, _, World.drewN_drewN _ _ _⟩ | exact ⟨rfl, _, rfl⟩))
              go_wp2
              go_ret
              exact ⟨rfl, below_draw hb7.out _⟩
            · have e1B : decide (a.supply < dm) = false := by simpa using e1
              rw [hs] at c4
              clear hs e1
              go_upto_region 14 with (fail)
              go_quiet (fail)
              go_wp2
              go_ret
              exact ⟨rfl, below_draw hb7.out _⟩
end Go.Proofs.Ytccmafmeblojpaa
