/- The law's like: a book tells what the document's has. -/
import Derived.Test.YtilbhnloelgpdaaTwoB
namespace Go.Proofs.Ytilbhnloelgpdaa
open Go.RowKit
set_option linter.unusedVariables false
set_option linter.unusedSimpArgs false
set_option maxHeartbeats 16000000 in
set_option maxRecDepth 100000 in
theorem like_calls (w : World) (g : Nat) (gl : Option Nat) (A : Option Addr) (b : Bk) (c : Nat) (id : Int) (h : Two w g gl A b) :
    Calls Try.prog 30 #[.pointer (some ⟨g, 0, none⟩), rval A c b, .int .i64 id] w (Told w (.bool true)) := by
  have hok := h.book.ok
  have hl := hok.few
  have H := Lib.hid h.row
  have HG0 := Lib.hid (fun wx (hb : Below w.heap.size w wx) => get_calls wx g gl b (h.book.below hb) id)
  have HOr := Lib.hid (fun wx (hb : Below w.heap.size w wx) => orders_calls wx g gl b (h.book.below hb))
  have HBy0 := Lib.hid (fun wx (hb : Below w.heap.size w wx) => bytes_calls wx g gl b (h.book.below hb))
  have HRb0 := Lib.hid (fun wx (hb : Below w.heap.size w wx) => rbytes_calls wx A b c (h.row.below hb) hok)
  have HA0 := Lib.hid (fun wx (hb : Below w.heap.size w wx) => rat_calls wx A b.l c b.next id (h.row.below hb) hl)
  have HSm0 := Lib.hid (fun wx A2 c2 (hb : Below w.heap.size w wx) (h2 : ORow wx A2 b.l) => same_calls wx A2 A b.l c2 c h2 (h.row.below hb) (by omega))
  unfold Listed at HOr
  obtain ⟨n, hn⟩ : ∃ n, Hid (b.l.length = n) := ⟨_, Lib.hid rfl⟩
  obtain ⟨nx, hnx⟩ : ∃ nx, Hid (b.next = nx) := ⟨_, Lib.hid rfl⟩
  obtain ⟨T, hT⟩ : ∃ T, Hid (b.bytes = T) := ⟨_, Lib.hid rfl⟩
  unfold rval at HRb0 ⊢
  rw [hn.out, hnx.out] at HRb0 HA0 ⊢
  rw [hT.out] at HRb0 HBy0
  rw [hn.out] at HSm0
  have HRb := HRb0
  have HBy := HBy0
  have HSm := HSm0
  have hb0 : Hid (Below w.heap.size w (w.alloc (.cells #[.slice A n c, .int .i64 nx] 53))) := Lib.hid ((Below.refl _ _).alloc (Nat.le_refl _) _)
  have B0 := Lib.hid (Blk.new w 53 #[.slice A n c, .int .i64 nx])
  obtain ⟨gb, hgb⟩ : ∃ g, Hid (w.heap.size = g) := ⟨_, Lib.hid rfl⟩
  clear h hok
  by_cases hx : Bk.ix b.l id < b.l.length
  · have hg : Hid (b.get id = (b.l.getD (Bk.ix b.l id) ord0, true)) := Lib.hid (by unfold Bk.get; rw [if_pos hx])
    obtain ⟨i, hi⟩ : ∃ i, Hid (Bk.ix b.l id = i) := ⟨_, Lib.hid rfl⟩
    have hA : Hid (Bk.at_ b.l id = (i : Int)) := Lib.hid (by rw [at_in hx, hi.out])
    rw [hi.out] at hx hg
    have hiL := Lib.hid hx
    rw [hn.out] at hx
    have HAt := HA0
    rw [hA.out] at HAt
    obtain ⟨bb, oo, rfl⟩ : ∃ b o, A = some ⟨b, o, none⟩ := by
      obtain ⟨b, o, e, _⟩ := H.out.cells hiL.out
      exact ⟨b, o, e⟩
    have HC := Lib.hid (fun wx hh => ORow.six H.out hiL.out (w' := wx) hh)
    rw [hg.out] at HG0
    generalize b.l.getD i ord0 = q at HC HG0
    obtain ⟨qi, qo, qp, qa, qpl, qb⟩ := q
    unfold oval at HG0
    simp only at HC HG0
    have HGt := HG0
    have i0 : (0 : Int) ≤ (i : Int) := by omega
    have i1 : (i : Int) < (n : Int) := by omega
    have i2 : decide ((i : Int) < 0) = false := by simp
    have i3 : decide ((0 : Int) ≤ (i : Int)) = true := by simp
    clear hx
    go_enter Try.func30, Try.ntmps30
    go_upto_region 1 with (fail)
    rw [hgb.out] at B0 ⊢
    generalize World.alloc w _ = wy at hb0 B0 ⊢
    obtain ⟨x0, x1⟩ : wy.cell? ⟨gb, 0, none⟩ = some (.slice (some ⟨bb,oo,none⟩) n c) ∧ wy.cell? ⟨gb, 1, none⟩ = some (.int .i64 nx) := ⟨B0.out.cell 0, B0.out.cell 1⟩
    have HSS : Hid (∀ wx, Below wy.heap.size wy wx → ((wx.cell? ⟨gb, 0, none⟩ = some (.slice (some ⟨bb,oo,none⟩) n c) ∧ wx.cell? ⟨gb, 1, none⟩ = some (.int .i64 nx)) ∧ Hid (Below w.heap.size w wx) ∧ Hid (gb < wx.heap.size))) := Lib.hid fun wx hb => by
      have b0 := B0.out.below hb B0.out.lt
      exact ⟨⟨b0.cell 0, b0.cell 1⟩, Lib.hid (below_next hb0.out hb), Lib.hid b0.lt⟩
    have HSn : Hid (∀ wx wz : World, ((wx.cell? ⟨gb, 0, none⟩ = some (.slice (some ⟨bb,oo,none⟩) n c) ∧ wx.cell? ⟨gb, 1, none⟩ = some (.int .i64 nx)) ∧ Hid (Below w.heap.size w wx) ∧ Hid (gb < wx.heap.size)) → Below wx.heap.size wx wz → ((wz.cell? ⟨gb, 0, none⟩ = some (.slice (some ⟨bb,oo,none⟩) n c) ∧ wz.cell? ⟨gb, 1, none⟩ = some (.int .i64 nx)) ∧ Hid (Below w.heap.size w wz) ∧ Hid (gb < wz.heap.size))) := Lib.hid fun wx wz hs hb => ⟨⟨(below_cell hb hs.2.2.out).trans hs.1.1, (below_cell hb hs.2.2.out).trans hs.1.2⟩, Lib.hid (below_next hs.2.1.out hb), Lib.hid (Nat.lt_of_lt_of_le hs.2.2.out hb.size)⟩
    go_upto_region 2 with (go_at_call 26; (with_reducible refine (HGt.out _ hb0.out).mono ?_); rintro e w1 ⟨rfl, hh⟩; have hb1 := Lib.hid hh; clear hh)
    have hbx : Hid (Below wy.heap.size wy (w1.alloc (.cells #[.int .i64 qi, .int .i64 qo, .int .i64 qp, .int .i64 qa, .int .i64 qpl, .bool qb] 33))) := Lib.hid (hb1.out.alloc hb1.out.size _)
    have BN := Lib.hid (Blk.new w1 33 #[.int .i64 qi, .int .i64 qo, .int .i64 qp, .int .i64 qa, .int .i64 qpl, .bool qb])
    obtain ⟨go, hgo⟩ : ∃ go, Hid (w1.heap.size = go) := ⟨_, Lib.hid rfl⟩
    rw [hgo.out] at BN ⊢
    clear x0 x1
    generalize World.alloc w1 _ = w2 at hbx BN ⊢
    obtain ⟨⟨x0, x1⟩, hbw2, -⟩ := HSS.out w2 hbx.out
    go_upto_region 3 with (go_at_call 53; (with_reducible refine (HAt.out _ hbw2.out).mono ?_); rintro e w3 ⟨rfl, hh⟩; have hb3 := Lib.hid (below_next hbx.out hh); have BN3 := Lib.hid (BN.out.below hh BN.out.lt); clear hh)
    clear x0 x1
    obtain ⟨⟨x0, x1⟩, hbw3, -⟩ := HSS.out w3 hb3.out
    have hq := fun wx => eq_order wx qi qo qp qa qpl qb
    obtain ⟨k0, k1, k2, k3, k4, k5⟩ : w3.cell? ⟨go, 0, none⟩ = some (.int .i64 qi) ∧ w3.cell? ⟨go, 1, none⟩ = some (.int .i64 qo) ∧ w3.cell? ⟨go, 2, none⟩ = some (.int .i64 qp) ∧ w3.cell? ⟨go, 3, none⟩ = some (.int .i64 qa) ∧ w3.cell? ⟨go, 4, none⟩ = some (.int .i64 qpl) ∧ w3.cell? ⟨go, 5, none⟩ = some (.bool qb) := ⟨BN3.out.cell 0, BN3.out.cell 1, BN3.out.cell 2, BN3.out.cell 3, BN3.out.cell 4, BN3.out.cell 5⟩
    obtain ⟨c0, c1, c2, c3, c4, c5⟩ := HC.out w3 hbw3.out
    go_quiet (fail)
    clear x0 x1 k0 k1 k2 k3 k4 k5 c0 c1 c2 c3 c4 c5
    generalize hw4 : World.drewN w3 _ = w4
    have hb4 : Hid (Below wy.heap.size wy w4) := Lib.hid (by rw [← hw4]; exact below_draw hb3.out _)
    clear hw4
    have HS4 := Lib.hid (HSS.out w4 hb4.out)
    have HOx : Hid (∀ wx, ((wx.cell? ⟨gb, 0, none⟩ = some (.slice (some ⟨bb,oo,none⟩) n c) ∧ wx.cell? ⟨gb, 1, none⟩ = some (.int .i64 nx)) ∧ Hid (Below w.heap.size w wx) ∧ Hid (gb < wx.heap.size)) → Calls Try.prog 23 #[.pointer (some ⟨g, 0, none⟩)] wx fun e w' => ∃ A2 c2, e = .returned (.slice A2 n c2) ∧ Hid (ORow w' A2 b.l) ∧ ((w'.cell? ⟨gb, 0, none⟩ = some (.slice (some ⟨bb,oo,none⟩) n c) ∧ w'.cell? ⟨gb, 1, none⟩ = some (.int .i64 nx)) ∧ Hid (Below w.heap.size w w') ∧ Hid (gb < w'.heap.size))) := Lib.hid fun wx hs => (HOr.out wx hs.2.1.out).mono (by
      rintro e w' ⟨A2, c2, rfl, hm, hh⟩
      exact ⟨A2, c2, by rw [hn.out], Lib.hid (hm.orow rfl).2, HSn.out _ _ hs hh⟩)
    have HSx : Hid (∀ wx A2 c2, ORow wx A2 b.l → ((wx.cell? ⟨gb, 0, none⟩ = some (.slice (some ⟨bb,oo,none⟩) n c) ∧ wx.cell? ⟨gb, 1, none⟩ = some (.int .i64 nx)) ∧ Hid (Below w.heap.size w wx) ∧ Hid (gb < wx.heap.size)) → Calls Try.prog 19 #[.slice A2 n c2, .slice (some ⟨bb,oo,none⟩) n c] wx fun e w' => e = .returned (.bool true) ∧ ((w'.cell? ⟨gb, 0, none⟩ = some (.slice (some ⟨bb,oo,none⟩) n c) ∧ w'.cell? ⟨gb, 1, none⟩ = some (.int .i64 nx)) ∧ Hid (Below w.heap.size w w') ∧ Hid (gb < w'.heap.size))) := Lib.hid fun wx A2 c2 h2 hs => (HSm.out wx A2 c2 hs.2.1.out h2).mono (by
      rintro e w' ⟨rfl, hh⟩
      exact ⟨rfl, HSn.out _ _ hs hh⟩)
    have HBx : Hid (∀ wx, ((wx.cell? ⟨gb, 0, none⟩ = some (.slice (some ⟨bb,oo,none⟩) n c) ∧ wx.cell? ⟨gb, 1, none⟩ = some (.int .i64 nx)) ∧ Hid (Below w.heap.size w wx) ∧ Hid (gb < wx.heap.size)) → Calls Try.prog 31 #[.pointer (some ⟨g, 0, none⟩)] wx fun e w' => e = .returned (.string T) ∧ ((w'.cell? ⟨gb, 0, none⟩ = some (.slice (some ⟨bb,oo,none⟩) n c) ∧ w'.cell? ⟨gb, 1, none⟩ = some (.int .i64 nx)) ∧ Hid (Below w.heap.size w w') ∧ Hid (gb < w'.heap.size))) := Lib.hid fun wx hs => (HBy.out wx hs.2.1.out).mono (by
      rintro e w' ⟨rfl, hh⟩
      exact ⟨rfl, HSn.out _ _ hs hh⟩)
    have HRx : Hid (∀ wx, ((wx.cell? ⟨gb, 0, none⟩ = some (.slice (some ⟨bb,oo,none⟩) n c) ∧ wx.cell? ⟨gb, 1, none⟩ = some (.int .i64 nx)) ∧ Hid (Below w.heap.size w wx) ∧ Hid (gb < wx.heap.size)) → Calls Try.prog 54 #[.agg #[.slice (some ⟨bb,oo,none⟩) n c, .int .i64 nx]] wx fun e w' => e = .returned (.string T) ∧ ((w'.cell? ⟨gb, 0, none⟩ = some (.slice (some ⟨bb,oo,none⟩) n c) ∧ w'.cell? ⟨gb, 1, none⟩ = some (.int .i64 nx)) ∧ Hid (Below w.heap.size w w') ∧ Hid (gb < w'.heap.size))) := Lib.hid fun wx hs => (HRb.out wx hs.2.1.out).mono (by
      rintro e w' ⟨rfl, hh⟩
      exact ⟨rfl, HSn.out _ _ hs hh⟩)
    have HS4d := Lib.hid (HSn.out _ _ HS4.out (Below.refl _ _).drew)
    obtain ⟨⟨x0, x1⟩, -, -⟩ := HS4.out
    go_wp2_with (fail)
    go_region_held3 (fun wx => ((wx.cell? ⟨gb, 0, none⟩ = some (.slice (some ⟨bb,oo,none⟩) n c) ∧ wx.cell? ⟨gb, 1, none⟩ = some (.int .i64 nx)) ∧ Hid (Below w.heap.size w wx) ∧ Hid (gb < wx.heap.size)))
      (first | assumption | exact HS4d.out | exact HS4.out)
      (first
        | (go_at_call 23; (with_reducible refine (HOx.out _ (by assumption)).mono ?_); rintro e wn ⟨A2, c2, rfl, hro, hsn⟩)
        | (go_at_call 19; (with_reducible refine (HSx.out _ _ _ hro.out (by assumption)).mono ?_); rintro e wn ⟨rfl, hsn⟩)
        | (go_at_call 31; (with_reducible refine (HBx.out _ (by assumption)).mono ?_); rintro e wn ⟨rfl, hsn⟩)
        | (go_at_call 54; (with_reducible refine (HRx.out _ (by assumption)).mono ?_); rintro e wn ⟨rfl, hsn⟩))
    all_goals
      go_wp2
      refine bodyPost_ret (by simp [results, Try.results30, asAddr, go_sem]; rfl) rfl ?_
      exact ⟨rfl, hsn.2.1.out⟩
  · have hg : Hid (b.get id = (ord0, false)) := Lib.hid (by unfold Bk.get; rw [if_neg hx])
    have hA : Hid (Bk.at_ b.l id = -1) := Lib.hid (at_out hx)
    have HAt := HA0
    rw [hA.out] at HAt
    rw [hg.out] at HG0
    unfold oval ord0 at HG0
    simp only at HG0
    have HGt := HG0
    clear hx
    go_enter Try.func30, Try.ntmps30
    go_upto_region 1 with (fail)
    rw [hgb.out] at B0 ⊢
    generalize World.alloc w _ = wy at hb0 B0 ⊢
    obtain ⟨x0, x1⟩ : wy.cell? ⟨gb, 0, none⟩ = some (.slice A n c) ∧ wy.cell? ⟨gb, 1, none⟩ = some (.int .i64 nx) := ⟨B0.out.cell 0, B0.out.cell 1⟩
    have HSS : Hid (∀ wx, Below wy.heap.size wy wx → ((wx.cell? ⟨gb, 0, none⟩ = some (.slice A n c) ∧ wx.cell? ⟨gb, 1, none⟩ = some (.int .i64 nx)) ∧ Hid (Below w.heap.size w wx) ∧ Hid (gb < wx.heap.size))) := Lib.hid fun wx hb => by
      have b0 := B0.out.below hb B0.out.lt
      exact ⟨⟨b0.cell 0, b0.cell 1⟩, Lib.hid (below_next hb0.out hb), Lib.hid b0.lt⟩
    have HSn : Hid (∀ wx wz : World, ((wx.cell? ⟨gb, 0, none⟩ = some (.slice A n c) ∧ wx.cell? ⟨gb, 1, none⟩ = some (.int .i64 nx)) ∧ Hid (Below w.heap.size w wx) ∧ Hid (gb < wx.heap.size)) → Below wx.heap.size wx wz → ((wz.cell? ⟨gb, 0, none⟩ = some (.slice A n c) ∧ wz.cell? ⟨gb, 1, none⟩ = some (.int .i64 nx)) ∧ Hid (Below w.heap.size w wz) ∧ Hid (gb < wz.heap.size))) := Lib.hid fun wx wz hs hb => ⟨⟨(below_cell hb hs.2.2.out).trans hs.1.1, (below_cell hb hs.2.2.out).trans hs.1.2⟩, Lib.hid (below_next hs.2.1.out hb), Lib.hid (Nat.lt_of_lt_of_le hs.2.2.out hb.size)⟩
    go_upto_region 2 with (go_at_call 26; (with_reducible refine (HGt.out _ hb0.out).mono ?_); rintro e w1 ⟨rfl, hh⟩; have hb1 := Lib.hid hh; clear hh)
    have hbx : Hid (Below wy.heap.size wy (w1.alloc (.cells #[.int .i64 0, .int .i64 0, .int .i64 0, .int .i64 0, .int .i64 0, .bool false] 33))) := Lib.hid (hb1.out.alloc hb1.out.size _)
    have BN := Lib.hid (Blk.new w1 33 #[.int .i64 0, .int .i64 0, .int .i64 0, .int .i64 0, .int .i64 0, .bool false])
    obtain ⟨go, hgo⟩ : ∃ go, Hid (w1.heap.size = go) := ⟨_, Lib.hid rfl⟩
    rw [hgo.out] at BN ⊢
    clear x0 x1
    generalize World.alloc w1 _ = w2 at hbx BN ⊢
    obtain ⟨⟨x0, x1⟩, hbw2, -⟩ := HSS.out w2 hbx.out
    go_upto_region 3 with (go_at_call 53; (with_reducible refine (HAt.out _ hbw2.out).mono ?_); rintro e w3 ⟨rfl, hh⟩; have hb3 := Lib.hid (below_next hbx.out hh); have BN3 := Lib.hid (BN.out.below hh BN.out.lt); clear hh)
    clear x0 x1
    obtain ⟨⟨x0, x1⟩, hbw3, -⟩ := HSS.out w3 hb3.out
    have hq := fun wx => eq_order wx 0 0 0 0 0 false
    obtain ⟨k0, k1, k2, k3, k4, k5⟩ : w3.cell? ⟨go, 0, none⟩ = some (.int .i64 0) ∧ w3.cell? ⟨go, 1, none⟩ = some (.int .i64 0) ∧ w3.cell? ⟨go, 2, none⟩ = some (.int .i64 0) ∧ w3.cell? ⟨go, 3, none⟩ = some (.int .i64 0) ∧ w3.cell? ⟨go, 4, none⟩ = some (.int .i64 0) ∧ w3.cell? ⟨go, 5, none⟩ = some (.bool false) := ⟨BN3.out.cell 0, BN3.out.cell 1, BN3.out.cell 2, BN3.out.cell 3, BN3.out.cell 4, BN3.out.cell 5⟩
    go_quiet (fail)
    clear x0 x1 k0 k1 k2 k3 k4 k5
    generalize hw4 : World.drewN w3 _ = w4
    have hb4 : Hid (Below wy.heap.size wy w4) := Lib.hid (by rw [← hw4]; exact below_draw hb3.out _)
    clear hw4
    have HS4 := Lib.hid (HSS.out w4 hb4.out)
    have HOx : Hid (∀ wx, ((wx.cell? ⟨gb, 0, none⟩ = some (.slice A n c) ∧ wx.cell? ⟨gb, 1, none⟩ = some (.int .i64 nx)) ∧ Hid (Below w.heap.size w wx) ∧ Hid (gb < wx.heap.size)) → Calls Try.prog 23 #[.pointer (some ⟨g, 0, none⟩)] wx fun e w' => ∃ A2 c2, e = .returned (.slice A2 n c2) ∧ Hid (ORow w' A2 b.l) ∧ ((w'.cell? ⟨gb, 0, none⟩ = some (.slice A n c) ∧ w'.cell? ⟨gb, 1, none⟩ = some (.int .i64 nx)) ∧ Hid (Below w.heap.size w w') ∧ Hid (gb < w'.heap.size))) := Lib.hid fun wx hs => (HOr.out wx hs.2.1.out).mono (by
      rintro e w' ⟨A2, c2, rfl, hm, hh⟩
      exact ⟨A2, c2, by rw [hn.out], Lib.hid (hm.orow rfl).2, HSn.out _ _ hs hh⟩)
    have HSx : Hid (∀ wx A2 c2, ORow wx A2 b.l → ((wx.cell? ⟨gb, 0, none⟩ = some (.slice A n c) ∧ wx.cell? ⟨gb, 1, none⟩ = some (.int .i64 nx)) ∧ Hid (Below w.heap.size w wx) ∧ Hid (gb < wx.heap.size)) → Calls Try.prog 19 #[.slice A2 n c2, .slice A n c] wx fun e w' => e = .returned (.bool true) ∧ ((w'.cell? ⟨gb, 0, none⟩ = some (.slice A n c) ∧ w'.cell? ⟨gb, 1, none⟩ = some (.int .i64 nx)) ∧ Hid (Below w.heap.size w w') ∧ Hid (gb < w'.heap.size))) := Lib.hid fun wx A2 c2 h2 hs => (HSm.out wx A2 c2 hs.2.1.out h2).mono (by
      rintro e w' ⟨rfl, hh⟩
      exact ⟨rfl, HSn.out _ _ hs hh⟩)
    have HBx : Hid (∀ wx, ((wx.cell? ⟨gb, 0, none⟩ = some (.slice A n c) ∧ wx.cell? ⟨gb, 1, none⟩ = some (.int .i64 nx)) ∧ Hid (Below w.heap.size w wx) ∧ Hid (gb < wx.heap.size)) → Calls Try.prog 31 #[.pointer (some ⟨g, 0, none⟩)] wx fun e w' => e = .returned (.string T) ∧ ((w'.cell? ⟨gb, 0, none⟩ = some (.slice A n c) ∧ w'.cell? ⟨gb, 1, none⟩ = some (.int .i64 nx)) ∧ Hid (Below w.heap.size w w') ∧ Hid (gb < w'.heap.size))) := Lib.hid fun wx hs => (HBy.out wx hs.2.1.out).mono (by
      rintro e w' ⟨rfl, hh⟩
      exact ⟨rfl, HSn.out _ _ hs hh⟩)
    have HRx : Hid (∀ wx, ((wx.cell? ⟨gb, 0, none⟩ = some (.slice A n c) ∧ wx.cell? ⟨gb, 1, none⟩ = some (.int .i64 nx)) ∧ Hid (Below w.heap.size w wx) ∧ Hid (gb < wx.heap.size)) → Calls Try.prog 54 #[.agg #[.slice A n c, .int .i64 nx]] wx fun e w' => e = .returned (.string T) ∧ ((w'.cell? ⟨gb, 0, none⟩ = some (.slice A n c) ∧ w'.cell? ⟨gb, 1, none⟩ = some (.int .i64 nx)) ∧ Hid (Below w.heap.size w w') ∧ Hid (gb < w'.heap.size))) := Lib.hid fun wx hs => (HRb.out wx hs.2.1.out).mono (by
      rintro e w' ⟨rfl, hh⟩
      exact ⟨rfl, HSn.out _ _ hs hh⟩)
    have HS4d := Lib.hid (HSn.out _ _ HS4.out (Below.refl _ _).drew)
    obtain ⟨⟨x0, x1⟩, -, -⟩ := HS4.out
    go_wp2_with (fail)
    go_region_held3 (fun wx => ((wx.cell? ⟨gb, 0, none⟩ = some (.slice A n c) ∧ wx.cell? ⟨gb, 1, none⟩ = some (.int .i64 nx)) ∧ Hid (Below w.heap.size w wx) ∧ Hid (gb < wx.heap.size)))
      (first | assumption | exact HS4d.out | exact HS4.out)
      (first
        | (go_at_call 23; (with_reducible refine (HOx.out _ (by assumption)).mono ?_); rintro e wn ⟨A2, c2, rfl, hro, hsn⟩)
        | (go_at_call 19; (with_reducible refine (HSx.out _ _ _ hro.out (by assumption)).mono ?_); rintro e wn ⟨rfl, hsn⟩)
        | (go_at_call 31; (with_reducible refine (HBx.out _ (by assumption)).mono ?_); rintro e wn ⟨rfl, hsn⟩)
        | (go_at_call 54; (with_reducible refine (HRx.out _ (by assumption)).mono ?_); rintro e wn ⟨rfl, hsn⟩))
    all_goals
      go_wp2
      refine bodyPost_ret (by simp [results, Try.results30, asAddr, go_sem]; rfl) rfl ?_
      exact ⟨rfl, hsn.2.1.out⟩
end Go.Proofs.Ytilbhnloelgpdaa
