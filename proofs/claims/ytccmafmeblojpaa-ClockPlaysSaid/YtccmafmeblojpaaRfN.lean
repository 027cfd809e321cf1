/- The reference's Next. -/
import Derived.Test.YtccmafmeblojpaaRfB
namespace Go.Proofs.Ytccmafmeblojpaa
open Go.RowKit
set_option linter.unusedVariables false
set_option linter.unusedSimpArgs false
theorem rnext_last {w wx w7 wF : World} {A A3 : Option Addr} {XS : List (Option Addr × Nat)} {a : Auc} {n c3 : Nat} (hn : XS.length = n) (h1n : 1 ≤ n) (hwx : w.heap.size ≤ wx.heap.size)
    (h7 : Mine wx w7 1 (.slice A3 (n + 1) c3) (n + 1) (svals a.l.length XS ++ [.slice (XS.getD (n - 1) (none, 0)).1 a.l.length (XS.getD (n - 1) (none, 0)).2])) (hF : Only (fun b => b < wx.heap.size) w7 wF) :
    Lasts w wF (RA A XS a) (RA A3 (XS ++ [XS.getD (n - 1) (none, 0)]) { a with round := a.round + 1, l := a.l.map fun p => (p.2, p.2) }) := by
  intro W' hs hb hp
  have hF7 : Mine wx wF 1 _ _ _ := h7.only hF
  have hlen : (XS ++ [XS.getD (n - 1) (none, 0)]).length = n + 1 := by rw [List.length_append, hn]; rfl
  have e1 : (XS ++ [XS.getD (n - 1) (none, 0)]).getD n (none, 0) = XS.getD (n - 1) (none, 0) := by
    rw [List.getD_eq_getElem?_getD, List.getElem?_append_right (by omega)]
    simp [hn]
  have e2 : (XS ++ [XS.getD (n - 1) (none, 0)]).getD (n - 1) (none, 0) = XS.getD (n - 1) (none, 0) := by
    rw [List.getD_eq_getElem?_getD, List.getElem?_append_left (by omega), List.getD_eq_getElem?_getD]
  have hsv : svals a.l.length XS ++ [.slice (XS.getD (n - 1) (none, 0)).1 a.l.length (XS.getD (n - 1) (none, 0)).2] = svals a.l.length (XS ++ [XS.getD (n - 1) (none, 0)]) := by simp [svals]
  have hle : ({ a with round := a.round + 1, l := a.l.map fun p => (p.2, p.2) } : Auc).l.length = a.l.length := by simp
  have en : ({ a with round := a.round + 1, l := a.l.map fun p => (p.2, p.2) } : Auc).nowl = a.nowl := Auc.step_nowl a.l
  have ew : ({ a with round := a.round + 1, l := a.l.map fun p => (p.2, p.2) } : Auc).wasl = a.nowl := Auc.step_wasl a.l
  rw [hsv] at hF7
  have h3 := hp.now
  rw [hn] at h3
  refine ⟨?_, ?_, fun h2 => ?_⟩
  · have := (hF7.carry hs fun g h1 h2 => hb g (Nat.le_trans hwx h1) h2).srow hlen
    rw [hle]; exact this
  · rw [hlen, Nat.add_sub_cancel, e1, en]
    exact h3
  · rw [hlen, ew, show n + 1 - 2 = n - 1 from by omega, e2]
    exact h3
theorem Lasts.state {w w' : World} {A : Option Addr} {XS : List (Option Addr × Nat)} {a : Auc} (s : Int) : Lasts w w' (RA A XS a) (RA A XS { a with state := s }) := fun _ _ _ h => ⟨h.rows, h.now, h.was⟩
set_option maxHeartbeats 8000000 in
set_option maxRecDepth 20000 in
theorem rnext_calls (w : World) (a : Auc) (A : Option Addr) (XS : List (Option Addr × Nat)) (n c : Nat) (hB : Beside a n) (hn : XS.length = n) (hcn : n ≤ c) (h : RA A XS a w) :
    Calls Try.prog 37 #[rval a A n c] w (RTo w A XS a (a.next.1, a.next.2.2)) := by
  have H := Lib.hid h
  have HN := Lib.hid hn
  have hp := hB.pos
  have hfw := hB.few
  have hround := Lib.hid hB.round
  obtain ⟨m, hm⟩ : ∃ m, Hid (a.l.length = m) := ⟨_, Lib.hid rfl⟩
  have hm16 := hB.ok.len.2
  rw [hm.out] at hm16
  have h3 := hB.ok.step
  have HE : Hid (a.next = if a.state ≠ 0 then (a, false, 70) else if a.nowl.sum ≤ a.supply then ({ a with state := 1 }, true, 0) else if 1099511627776 - a.step < a.price then ({ a with state := 2 }, true, 0) else ({ a with round := a.round + 1, l := a.l.map fun p => (p.2, p.2) }, false, 0)) := Lib.hid rfl
  have hb0 : Hid (Below w.heap.size w ((w.alloc (.cells #[.int .i64 a.supply, .int .i64 a.start, .int .i64 a.step, .int .i64 a.state, .slice A n c] 56)).alloc (.cells #[.int .i64 0, .int .i64 0, .int .i64 0, .int .i64 0, .slice none 0 0] 56))) := Lib.hid (((Below.refl _ _).alloc (Nat.le_refl _) _).alloc (by simp) _)
  have B0 : Hid (Blk ((w.alloc (.cells #[.int .i64 a.supply, .int .i64 a.start, .int .i64 a.step, .int .i64 a.state, .slice A n c] 56)).alloc (.cells #[.int .i64 0, .int .i64 0, .int .i64 0, .int .i64 0, .slice none 0 0] 56)) w.heap.size 56 #[.int .i64 a.supply, .int .i64 a.start, .int .i64 a.step, .int .i64 a.state, .slice A n c]) := Lib.hid ((Blk.new w 56 #[.int .i64 a.supply, .int .i64 a.start, .int .i64 a.step, .int .i64 a.state, .slice A n c]).alloc (.cells #[.int .i64 0, .int .i64 0, .int .i64 0, .int .i64 0, .slice none 0 0] 56))
  have B1 : Hid (Blk ((w.alloc (.cells #[.int .i64 a.supply, .int .i64 a.start, .int .i64 a.step, .int .i64 a.state, .slice A n c] 56)).alloc (.cells #[.int .i64 0, .int .i64 0, .int .i64 0, .int .i64 0, .slice none 0 0] 56)) (w.heap.size + 1) 56 #[.int .i64 0, .int .i64 0, .int .i64 0, .int .i64 0, .slice none 0 0]) := Lib.hid (by have := (Blk.new (w.alloc (.cells #[.int .i64 a.supply, .int .i64 a.start, .int .i64 a.step, .int .i64 a.state, .slice A n c] 56)) 56 #[.int .i64 0, .int .i64 0, .int .i64 0, .int .i64 0, .slice none 0 0]); simpa using this)
  obtain ⟨i0, hi0, hz0, hz1, hz2⟩ := info_parts info_ints
  have HI0 := Lib.hid hi0
  have HZ0 := Lib.hid hz0
  have HZ1 := Lib.hid hz1
  have HZ2 := Lib.hid hz2
  have HNow := Lib.hid (fun wx (hx : RA A XS a wx) => rnow_calls wx a A XS n c hn hp hfw hx)
  have HSum : Hid (∀ wx, RA A XS a wx → Calls Try.prog 16 #[.slice (XS.getD (n - 1) (none, 0)).1 a.l.length (XS.getD (n - 1) (none, 0)).2] wx fun e w' => e = .returned (.int .i64 a.nowl.sum) ∧ ∃ k, w' = wx.drewN k) := Lib.hid fun wx hx => by
    have h4 := hx.now
    rw [hn] at h4
    have h5 := hB.ok.len.2
    exact refsum_calls wx _ _ _ a.nowl (Auc.nowl_length a) (by omega) (Auc.nowl_bound hB.ok) h4
  have HPr := Lib.hid (fun wx => rprice_calls wx a A n c hB)
  obtain ⟨LX, hLX⟩ : ∃ LX, Hid (XS.getD (n - 1) (none, 0) = LX) := ⟨_, Lib.hid rfl⟩
  rw [hm.out, hLX.out] at HNow HSum
  obtain ⟨X1, X2⟩ := LX
  simp only at HNow HSum
  have q : IntKind.i64.wrap (1099511627776 - a.step) = 1099511627776 - a.step := by rw [IntKind.wrap_i64]; omega
  clear h hB hn hi0 hz0 hz1 hz2 h3
  unfold rval at HNow HPr
  unfold rval
  go_enter Try.func37, Try.ntmps37
  go_upto_region 1 with (fail)
  obtain ⟨g1, hg1⟩ : ∃ g1, w.heap.size = g1 := ⟨_, rfl⟩
  have HG := Lib.hid hg1
  rw [hg1] at B0 B1 ⊢
  clear hg1
  generalize World.alloc (World.alloc w _) _ = wy at hb0 B0 B1 ⊢
  have HRA : Hid (∀ wx, Below w.heap.size w wx → RA A XS a wx) := Lib.hid fun wx hb => H.out.below hb
  have HX : Hid (∀ wx : World, Below wy.heap.size wy wx → (wx.cell? ⟨g1, 0, none⟩ = some (.int .i64 a.supply) ∧ wx.cell? ⟨g1, 1, none⟩ = some (.int .i64 a.start) ∧ wx.cell? ⟨g1, 2, none⟩ = some (.int .i64 a.step) ∧ wx.cell? ⟨g1, 3, none⟩ = some (.int .i64 a.state) ∧ wx.cell? ⟨g1, 4, none⟩ = some (.slice A n c)) ∧ (wx.cell? ⟨g1 + 1, 0, none⟩ = some (.int .i64 0) ∧ wx.cell? ⟨g1 + 1, 1, none⟩ = some (.int .i64 0) ∧ wx.cell? ⟨g1 + 1, 2, none⟩ = some (.int .i64 0) ∧ wx.cell? ⟨g1 + 1, 3, none⟩ = some (.int .i64 0) ∧ wx.cell? ⟨g1 + 1, 4, none⟩ = some (.slice none 0 0)) ∧ (wx.frozen? ⟨g1 + 1, 0, none⟩ = false ∧ wx.frozen? ⟨g1 + 1, 1, none⟩ = false ∧ wx.frozen? ⟨g1 + 1, 2, none⟩ = false ∧ wx.frozen? ⟨g1 + 1, 3, none⟩ = false ∧ wx.frozen? ⟨g1 + 1, 4, none⟩ = false) ∧ (wx.frozen? ⟨g1, 0, none⟩ = false ∧ wx.frozen? ⟨g1, 1, none⟩ = false ∧ wx.frozen? ⟨g1, 2, none⟩ = false ∧ wx.frozen? ⟨g1, 3, none⟩ = false ∧ wx.frozen? ⟨g1, 4, none⟩ = false)) := Lib.hid fun wx hb => by
    have b0 := B0.out.below hb B0.out.lt
    have b1 := B1.out.below hb B1.out.lt
    exact ⟨⟨b0.cell 0, b0.cell 1, b0.cell 2, b0.cell 3, b0.cell 4⟩, ⟨b1.cell 0, b1.cell 1, b1.cell 2, b1.cell 3, b1.cell 4⟩, ⟨b1.frozen 0, b1.frozen 1, b1.frozen 2, b1.frozen 3, b1.frozen 4⟩, ⟨b0.frozen 0, b0.frozen 1, b0.frozen 2, b0.frozen 3, b0.frozen 4⟩⟩
  have HXc : Hid (∀ wx : World, Below wy.heap.size wy wx → (wx.cell? ⟨g1, 0, none⟩ = some (.int .i64 a.supply) ∧ wx.cell? ⟨g1, 1, none⟩ = some (.int .i64 a.start) ∧ wx.cell? ⟨g1, 2, none⟩ = some (.int .i64 a.step) ∧ wx.cell? ⟨g1, 3, none⟩ = some (.int .i64 a.state) ∧ wx.cell? ⟨g1, 4, none⟩ = some (.slice A n c))) := Lib.hid fun wx hb => (HX.out wx hb).1
  obtain ⟨⟨c0, c1, c2, c3, c4⟩, ⟨z0, z1, z2, z3, z4⟩, ⟨f0, f1, f2, f3, f4⟩, ⟨e0, e1, e2, e3, e4⟩⟩ := HX.out wy (Below.refl _ _)
  have HSz : Hid (g1 + 1 < wy.heap.size) := Lib.hid B1.out.lt
  by_cases hs : a.state = 0
  case neg =>
    have E : Hid ((a.next.1, a.next.2.2) = (a, 70)) := Lib.hid (by rw [HE.out, if_pos hs])
    have hsB : (a.state != 0) = true := by simpa using hs
    have hsB2 : (a.state == 0) = false := by simpa using hs
    clear hs HE
    go_wp2
    (try simp only [Exit.inBlock, Exit.then])
    refine bodyPost_ret (by simp [results, Try.results37, asAddr, go_sem, z0, z1, z2, z3, z4]; rfl) rfl ?_
    exact rto E.out HN.out rfl rfl rfl rfl hcn hround.out (below_five (g := g1 + 1) hb0.out (by rw [HG.out]; omega) _ _ _ _ _) (Lasts.same _ _ _)
  have HE2 : Hid (a.next = if a.nowl.sum ≤ a.supply then ({ a with state := 1 }, true, 0) else if 1099511627776 - a.step < a.price then ({ a with state := 2 }, true, 0) else ({ a with round := a.round + 1, l := a.l.map fun p => (p.2, p.2) }, false, 0)) := Lib.hid (by rw [HE.out, if_neg (by simpa using hs)])
  have hsB : (a.state != 0) = false := by simpa using hs
  have hsB2 : (a.state == 0) = true := by simpa using hs
  clear HE hs
  obtain ⟨k, hk⟩ : ∃ k, k + 1 = n := ⟨n - 1, by omega⟩
  have HK := Lib.hid hk
  have hn200 := Lib.hid hfw
  have h1n := Lib.hid hp
  clear hp hfw hk
  have Hd0 : Hid (Below wy.heap.size wy wy.drew) := Lib.hid (Below.refl _ _).drew
  have HNx := Lib.hid (HNow.out wy.drew (HRA.out _ (below_next hb0.out Hd0.out)))
  have HSumx : Hid (∀ wx, Below wy.heap.size wy wx → _) := Lib.hid fun wx hb => HSum.out wx (HRA.out _ (below_next hb0.out hb))
  by_cases h1 : a.nowl.sum ≤ a.supply
  · have E : Hid ((a.next.1, a.next.2.2) = ({ a with state := 1 }, 0)) := Lib.hid (by rw [HE2.out, if_pos h1])
    go_upto_region 3 with (fail)
    go_region_held3 (fun wx => (wx.cell? ⟨g1, 0, none⟩ = some (.int .i64 a.supply) ∧ wx.cell? ⟨g1, 1, none⟩ = some (.int .i64 a.start) ∧ wx.cell? ⟨g1, 2, none⟩ = some (.int .i64 a.step) ∧ wx.cell? ⟨g1, 3, none⟩ = some (.int .i64 a.state) ∧ wx.cell? ⟨g1, 4, none⟩ = some (.slice A n c)))
      (first | (with_reducible exact HXc.out _ Hd0.out) | (with_reducible exact HXc.out _ hb1.out) | (with_reducible exact HXc.out _ hb2.out) | fail)
      (first
        | (go_at_call 40; (with_reducible refine (HNx.out).mono ?_); rintro e w1 ⟨rfl, hh⟩; have hb1 := Lib.hid (below_next Hd0.out hh); clear hh)
        | (go_at_call 16; (with_reducible refine (HSumx.out _ hb1.out).mono ?_); rintro e w2 ⟨rfl, nd, hw2⟩; have hb2 : Hid (Below wy.heap.size wy w2) := Lib.hid (by rw [hw2]; exact below_draw hb1.out nd); clear hw2))
    clear c0 c1 c2 c3 c4 z0 z1 z2 z3 z4 f0 f1 f2 f3 f4 e0 e1 e2 e3 e4
    obtain ⟨⟨c0, c1, c2, c3, c4⟩, ⟨z0, z1, z2, z3, z4⟩, ⟨f0, f1, f2, f3, f4⟩, ⟨e0, e1, e2, e3, e4⟩⟩ := HX.out w2 hb2.out
    go_wp2
    (try simp only [Exit.inBlock, Exit.then])
    refine bodyPost_ret (by simp [results, Try.results37, asAddr, go_sem, z0, z1, z2, z3, z4]; rfl) rfl ?_
    exact rto E.out HN.out rfl rfl rfl rfl hcn hround.out (below_five (g := g1 + 1) ((below_next hb0.out hb2.out).setCell (p := ⟨g1, 3, none⟩) (by rw [HG.out]; exact Nat.le_refl _) (.int .i64 1)) (by rw [HG.out]; omega) _ _ _ _ _) (Lasts.state 1)
  have HE3 : Hid (a.next = if 1099511627776 - a.step < a.price then ({ a with state := 2 }, true, 0) else ({ a with round := a.round + 1, l := a.l.map fun p => (p.2, p.2) }, false, 0)) := Lib.hid (by rw [HE2.out, if_neg h1])
  have h1' : a.supply < a.nowl.sum := by omega
  clear HE2 h1
  obtain ⟨pr, hpr⟩ : ∃ pr, Hid (a.price = pr) := ⟨_, Lib.hid rfl⟩
  rw [hpr.out] at HE3 HPr
  by_cases h2 : 1099511627776 - a.step < pr
  · have E : Hid ((a.next.1, a.next.2.2) = ({ a with state := 2 }, 0)) := Lib.hid (by rw [HE3.out, if_pos h2])
    go_upto_region 3 with (fail)
    go_region_held3 (fun wx => (wx.cell? ⟨g1, 0, none⟩ = some (.int .i64 a.supply) ∧ wx.cell? ⟨g1, 1, none⟩ = some (.int .i64 a.start) ∧ wx.cell? ⟨g1, 2, none⟩ = some (.int .i64 a.step) ∧ wx.cell? ⟨g1, 3, none⟩ = some (.int .i64 a.state) ∧ wx.cell? ⟨g1, 4, none⟩ = some (.slice A n c)))
      (first | (with_reducible exact HXc.out _ Hd0.out) | (with_reducible exact HXc.out _ hb1.out) | (with_reducible exact HXc.out _ hb2.out) | fail)
      (first
        | (go_at_call 40; (with_reducible refine (HNx.out).mono ?_); rintro e w1 ⟨rfl, hh⟩; have hb1 := Lib.hid (below_next Hd0.out hh); clear hh)
        | (go_at_call 16; (with_reducible refine (HSumx.out _ hb1.out).mono ?_); rintro e w2 ⟨rfl, nd, hw2⟩; have hb2 : Hid (Below wy.heap.size wy w2) := Lib.hid (by rw [hw2]; exact below_draw hb1.out nd); clear hw2))
    clear c0 c1 c2 c3 c4 z0 z1 z2 z3 z4 f0 f1 f2 f3 f4 e0 e1 e2 e3 e4
    obtain ⟨⟨c0, c1, c2, c3, c4⟩, ⟨z0, z1, z2, z3, z4⟩, ⟨f0, f1, f2, f3, f4⟩, ⟨e0, e1, e2, e3, e4⟩⟩ := HX.out w2 hb2.out
    go_upto_region 6 with (fail)
    have Hd2 : Hid (Below wy.heap.size wy w2.drew) := Lib.hid (below_draw hb2.out 1)
    go_region_held3 (fun wx => (wx.cell? ⟨g1, 0, none⟩ = some (.int .i64 a.supply) ∧ wx.cell? ⟨g1, 1, none⟩ = some (.int .i64 a.start) ∧ wx.cell? ⟨g1, 2, none⟩ = some (.int .i64 a.step) ∧ wx.cell? ⟨g1, 3, none⟩ = some (.int .i64 a.state) ∧ wx.cell? ⟨g1, 4, none⟩ = some (.slice A n c)))
      (first | (with_reducible exact HXc.out _ Hd2.out) | (with_reducible exact HXc.out _ hb3.out) | fail)
      (first
        | (go_at_call 41; (with_reducible refine (HPr.out _).mono ?_); rintro e w3 ⟨rfl, hh⟩; have hb3 := Lib.hid (below_next Hd2.out hh); clear hh))
    clear c0 c1 c2 c3 c4 z0 z1 z2 z3 z4 f0 f1 f2 f3 f4 e0 e1 e2 e3 e4
    obtain ⟨⟨c0, c1, c2, c3, c4⟩, ⟨z0, z1, z2, z3, z4⟩, ⟨f0, f1, f2, f3, f4⟩, ⟨e0, e1, e2, e3, e4⟩⟩ := HX.out w3 hb3.out
    go_wp2
    (try simp only [Exit.inBlock, Exit.then])
    refine bodyPost_ret (by simp [results, Try.results37, asAddr, go_sem, z0, z1, z2, z3, z4]; rfl) rfl ?_
    exact rto E.out HN.out rfl rfl rfl rfl hcn hround.out (below_five (g := g1 + 1) ((below_next hb0.out hb3.out).setCell (p := ⟨g1, 3, none⟩) (by rw [HG.out]; exact Nat.le_refl _) (.int .i64 2)) (by rw [HG.out]; omega) _ _ _ _ _) (Lasts.state 2)
  have E : Hid ((a.next.1, a.next.2.2) = ({ a with round := a.round + 1, l := a.l.map fun p => (p.2, p.2) }, 0)) := Lib.hid (by rw [HE3.out, if_neg h2])
  have h2' : pr ≤ 1099511627776 - a.step := by omega
  have h2B : decide (1099511627776 - a.step < pr) = false := by simpa using h2
  clear HE3 h2
  go_upto_region 3 with (fail)
  go_region_held3 (fun wx => (wx.cell? ⟨g1, 0, none⟩ = some (.int .i64 a.supply) ∧ wx.cell? ⟨g1, 1, none⟩ = some (.int .i64 a.start) ∧ wx.cell? ⟨g1, 2, none⟩ = some (.int .i64 a.step) ∧ wx.cell? ⟨g1, 3, none⟩ = some (.int .i64 a.state) ∧ wx.cell? ⟨g1, 4, none⟩ = some (.slice A n c)))
    (first | (with_reducible exact HXc.out _ Hd0.out) | (with_reducible exact HXc.out _ hb1.out) | (with_reducible exact HXc.out _ hb2.out) | fail)
    (first
      | (go_at_call 40; (with_reducible refine (HNx.out).mono ?_); rintro e w1 ⟨rfl, hh⟩; have hb1 := Lib.hid (below_next Hd0.out hh); clear hh)
      | (go_at_call 16; (with_reducible refine (HSumx.out _ hb1.out).mono ?_); rintro e w2 ⟨rfl, nd, hw2⟩; have hb2 : Hid (Below wy.heap.size wy w2) := Lib.hid (by rw [hw2]; exact below_draw hb1.out nd); clear hw2))
  clear c0 c1 c2 c3 c4 z0 z1 z2 z3 z4 f0 f1 f2 f3 f4 e0 e1 e2 e3 e4
  obtain ⟨⟨c0, c1, c2, c3, c4⟩, ⟨z0, z1, z2, z3, z4⟩, ⟨f0, f1, f2, f3, f4⟩, ⟨e0, e1, e2, e3, e4⟩⟩ := HX.out w2 hb2.out
  go_upto_region 6 with (fail)
  have Hd2 : Hid (Below wy.heap.size wy w2.drew) := Lib.hid (below_draw hb2.out 1)
  go_region_held3 (fun wx => (wx.cell? ⟨g1, 0, none⟩ = some (.int .i64 a.supply) ∧ wx.cell? ⟨g1, 1, none⟩ = some (.int .i64 a.start) ∧ wx.cell? ⟨g1, 2, none⟩ = some (.int .i64 a.step) ∧ wx.cell? ⟨g1, 3, none⟩ = some (.int .i64 a.state) ∧ wx.cell? ⟨g1, 4, none⟩ = some (.slice A n c)))
    (first | (with_reducible exact HXc.out _ Hd2.out) | (with_reducible exact HXc.out _ hb3.out) | fail)
    (first
      | (go_at_call 41; (with_reducible refine (HPr.out _).mono ?_); rintro e w3 ⟨rfl, hh⟩; have hb3 := Lib.hid (below_next Hd2.out hh); clear hh))
  clear c0 c1 c2 c3 c4 z0 z1 z2 z3 z4 f0 f1 f2 f3 f4 e0 e1 e2 e3 e4
  obtain ⟨⟨c0, c1, c2, c3, c4⟩, ⟨z0, z1, z2, z3, z4⟩, ⟨f0, f1, f2, f3, f4⟩, ⟨e0, e1, e2, e3, e4⟩⟩ := HX.out w3 hb3.out
  have HBw := Lib.hid (below_next hb0.out hb3.out)
  have HSx : Hid (g1 + 1 < w3.heap.size) := Lib.hid (Nat.lt_of_lt_of_le HSz.out hb3.out.size)
  have hsrc : Hid (∀ c', Src Try.prog 1 54 (.slice A n c') n (svals m XS) w3) := Lib.hid fun c' => by
    have := (HRA.out _ HBw.out).src (k := n) (by rw [HN.out]; exact Nat.le_refl _) c'
    rwa [hm.out, List.take_of_length_le (by rw [HN.out]; exact Nat.le_refl _)] at this
  have hnI : n ≤ 200 := hn200.out
  go_upto_region 11 with (first
    | (refine wpList_append_mine rfl (.tmp 25) (.tmp 27) 54 54 rfl 22 i0 (.slice none 0 0) 24 Try.underlying54 HI0.out HZ0.out HZ1.out HZ2.out rfl (by decide) rfl (Mine.empty w3 w3 1 none) (Below.refl _ _) _ n (svals m XS) rfl (hsrc.out _) (by unfold maxLen; omega) (by omega) ?_; simp only [Nat.zero_add, List.nil_append]; intro A2 cc2 w4 hm2 hh2; have HM2 := Lib.hid hm2; have HB2 := Lib.hid hh2; clear hm2 hh2))
  clear c0 c1 c2 c3 c4 z0 z1 z2 z3 z4 f0 f1 f2 f3 f4 e0 e1 e2 e3 e4
  obtain ⟨⟨c0, c1, c2, c3, c4⟩, -, -, ⟨e0, e1, e2, e3, e4⟩⟩ := HX.out w4 (below_next hb3.out HB2.out)
  go_upto_region 12 with (first
    | (go_at_call 40; (with_reducible refine (HNow.out _ (HRA.out _ (below_next HBw.out HB2.out))).mono ?_); rintro e w5 ⟨rfl, hh⟩; have HB5 := Lib.hid hh; clear hh)
    | (refine wpList_append_mine rfl (.tmp 29) (.tmp 32) 54 54 rfl 22 i0 (.slice none 0 0) 24 Try.underlying54 HI0.out HZ0.out HZ1.out HZ2.out rfl (by decide) rfl ((HM2.out.below HB5.out).alloc _) ((below_next HB2.out HB5.out).alloc (below_next HB2.out HB5.out).size _) _ 1 [.slice X1 m X2] rfl (src_new Try.underlying54 _ _ _ 1 1 rfl (by simp [Value.oneCell'])) (by unfold maxLen; omega) (by omega) ?_; intro A3 cc3 w7 hm7 hh7; have HM7 := Lib.hid hm7; have HB7 := Lib.hid hh7; clear hm7 hh7; obtain ⟨⟨c0, c1, c2, c3, c4⟩, ⟨z0, z1, z2, z3, z4⟩, ⟨f0, f1, f2, f3, f4⟩, ⟨e0, e1, e2, e3, e4⟩⟩ := HX.out w7 (below_next hb3.out HB7.out)))
  go_wp2
  (try simp only [Exit.inBlock, Exit.then])
  refine bodyPost_ret (by simp [results, Try.results37, asAddr, go_sem, z0, z1, z2, z3, z4]; rfl) rfl ?_
  have hB7 := ((below_next HBw.out HB7.out).setCell (p := ⟨g1, 4, none⟩) (by rw [HG.out]; exact Nat.le_refl _) (.slice A3 (n + 1) cc3))
  have hO : Only (fun b => b < w3.heap.size) w7 (w7.setCell ⟨g1, 4, none⟩ (.slice A3 (n + 1) cc3)) := (Only.refl _ _).setCell (.inl (by have := HSx.out; omega)) _
  refine rto E.out ?_ rfl rfl rfl rfl HM7.out.cap ?_ (below_five (g := g1 + 1) hB7 (by rw [HG.out]; omega) _ _ _ _ _) (rnext_last (n := n) (w7 := w7) (wx := w3) HN.out h1n.out HBw.out.size (by rw [hm.out, hLX.out]; exact HM7.out) (only_five (g := g1 + 1) hO HSx.out _ _ _ _ _))
  · rw [List.length_append, HN.out]; rfl
  · show a.round + 1 = _
    rw [hround.out]; rfl
end Go.Proofs.Ytccmafmeblojpaa
