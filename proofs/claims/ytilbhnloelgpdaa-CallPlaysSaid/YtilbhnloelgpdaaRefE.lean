/- The reference's book: Amend. -/
import Derived.Test.YtilbhnloelgpdaaRefC
namespace Go.Proofs.Ytilbhnloelgpdaa
open Go.RowKit
set_option linter.unusedVariables false
set_option linter.unusedSimpArgs false
set_option maxHeartbeats 16000000 in
set_option maxRecDepth 100000 in
theorem ramend_calls (w : World) (A : Option Addr) (b : Bk) (c : Nat) (id owner price amount : Int) (h : ORow w A b.l) (hok : b.Ok) :
    Calls Try.prog 49 #[rval A c b, .int .i64 id, .int .i64 owner, .int .i64 price, .int .i64 amount] w (RTo w A c b (b.amend id owner price amount)) := by
  have hl := hok.few
  have hn0 := hok.next0
  have hn1 := hok.next1
  have HOw := Lib.hid (fun wx (hb : Below w.heap.size w wx) => rown_calls wx A b c id owner (h.below hb) hl)
  have HWi := Lib.hid (fun wx (hb : Below w.heap.size w wx) i => without_at wx A b.l c i (h.below hb) hl)
  have HWn := Lib.hid (fun wx (hb : Below w.heap.size w wx) => without_none wx A b.l c (h.below hb) hl)
  unfold Listed at HWi HWn
  obtain ⟨n, hn⟩ : ∃ n, Hid (b.l.length = n) := ⟨_, Lib.hid rfl⟩
  obtain ⟨nx, hnx⟩ : ∃ nx, Hid (b.next = nx) := ⟨_, Lib.hid rfl⟩
  obtain ⟨R, hR⟩ : ∃ R, Hid (b.amend id owner price amount = R) := ⟨_, Lib.hid rfl⟩
  have hz := Lib.hid (fun (e : (b.mine id owner).2 = 0) => Bk.mine_zero e)
  rw [hnx.out] at hn0 hn1
  have hb0 : Hid (Below w.heap.size w ((w.alloc (.cells #[.slice A n c, .int .i64 nx] 53)).alloc (.cells #[.slice none 0 0, .int .i64 0] 53))) := Lib.hid (((Below.refl _ _).alloc (Nat.le_refl _) _).alloc (by simp) _)
  have B0 := Lib.hid ((Blk.new w 53 #[.slice A n c, .int .i64 nx]).alloc (.cells #[.slice none 0 0, .int .i64 0] 53))
  have B1 : Hid (Blk ((w.alloc (.cells #[.slice A n c, .int .i64 nx] 53)).alloc (.cells #[.slice none 0 0, .int .i64 0] 53)) (w.heap.size + 1) 53 #[.slice none 0 0, .int .i64 0]) := Lib.hid (by
    have h := Blk.new (w.alloc (.cells #[.slice A n c, .int .i64 nx] 53)) 53 #[.slice none 0 0, .int .i64 0]
    rw [show (w.alloc (.cells #[.slice A n c, .int .i64 nx] 53)).heap.size = w.heap.size + 1 from by simp] at h
    exact h)
  obtain ⟨gb, hgb⟩ : ∃ g, Hid (w.heap.size = g) := ⟨_, Lib.hid rfl⟩
  have H := Lib.hid h
  clear h hok
  by_cases hm : (b.mine id owner).2 = 0
  · obtain ⟨hi, _, hme⟩ := hz.out hm
    have hE : b.amend id owner price amount = (if ¬ ({ b.l.getD (Bk.ix b.l id) ord0 with price := price, amount := amount } : Ord).right = true then (b, 1) else if price = (b.l.getD (Bk.ix b.l id) ord0).price ∧ amount ≤ (b.l.getD (Bk.ix b.l id) ord0).amount then (⟨b.l.set (Bk.ix b.l id) { b.l.getD (Bk.ix b.l id) ord0 with price := price, amount := amount }, b.next⟩, 0) else if 9007199254740992 ≤ b.next then (b, 2) else (⟨b.l.eraseIdx (Bk.ix b.l id) ++ [{ b.l.getD (Bk.ix b.l id) ord0 with price := price, amount := amount, place := b.next }], b.next + 1⟩, 0)) := by
      unfold Bk.amend
      rw [if_neg (by rw [hm]; simp)]
    rw [hR.out] at hE ⊢
    unfold rval at HOw ⊢
    rw [hn.out, hnx.out] at HOw ⊢
    rw [hme] at HOw
    obtain ⟨i, hie⟩ : ∃ i, Hid (Bk.ix b.l id = i) := ⟨_, Lib.hid rfl⟩
    rw [hie.out] at hi HOw hE
    have hL : Hid (i < b.l.length) := Lib.hid hi
    rw [hn.out] at HWi HWn hi hl
    rw [hnx.out] at hE
    obtain ⟨bb, oo, rfl⟩ : ∃ b o, A = some ⟨b, o, none⟩ := by
      obtain ⟨b, o, e, _⟩ := H.out.cells hL.out
      exact ⟨b, o, e⟩
    have HC := Lib.hid (fun wx hh => ORow.six H.out hL.out (w' := wx) hh)
    have i0 : (0 : Int) ≤ (i : Int) := by omega
    have i1 : (i : Int) < (n : Int) := by omega
    have h00 : ((0 : Int) != 0) = false := rfl
    generalize b.l.getD i ord0 = q at HC hE
    obtain ⟨qi, qo, qp, qa, qpl, qb⟩ := q
    simp only at HC hE
    have HR : Hid (∀ wx, Calls Try.prog 37 #[.agg #[.int .i64 qi, .int .i64 qo, .int .i64 price, .int .i64 amount, .int .i64 qpl, .bool qb]] wx (Told wx (.bool (Ord.right ⟨qi, qo, price, amount, qpl, qb⟩)))) := Lib.hid fun wx => rright_calls wx ⟨qi, qo, price, amount, qpl, qb⟩
    generalize Ord.right ⟨qi, qo, price, amount, qpl, qb⟩ = r at HR hE
    clear hz hm hme
    by_cases hpq : price = qp
    · have hpB : (qp == price) = true := by simpa using hpq.symm
      cases r with
      | false =>
        have hE3 := Lib.hid hE
        rw [if_pos (by simp)] at hE3
        clear hE hpq
        by_cases haq : amount ≤ qa
        ·
          go_enter Try.func49, Try.ntmps49
          go_upto_region 1 with (fail)
          have hg : Hid (w.heap.size = gb) := hgb
          rw [hg.out] at B0 B1 ⊢
          generalize World.alloc (World.alloc w _) _ = wy at hb0 B0 B1 ⊢
          obtain ⟨x0, x1⟩ : wy.cell? ⟨gb, 0, none⟩ = some (.slice (some ⟨bb,oo,none⟩) n c) ∧ wy.cell? ⟨gb, 1, none⟩ = some (.int .i64 nx) := ⟨B0.out.cell 0, B0.out.cell 1⟩
          obtain ⟨z0, z1⟩ : wy.cell? ⟨gb + 1, 0, none⟩ = some (.slice none 0 0) ∧ wy.cell? ⟨gb + 1, 1, none⟩ = some (.int .i64 0) := ⟨B1.out.cell 0, B1.out.cell 1⟩
          obtain ⟨f0, f1⟩ : wy.frozen? ⟨gb + 1, 0, none⟩ = false ∧ wy.frozen? ⟨gb + 1, 1, none⟩ = false := ⟨B1.out.frozen 0, B1.out.frozen 1⟩
          have HX : Hid (∀ wx, Below wy.heap.size wy wx → (wx.cell? ⟨gb, 0, none⟩ = some (.slice (some ⟨bb,oo,none⟩) n c) ∧ wx.cell? ⟨gb, 1, none⟩ = some (.int .i64 nx)) ∧ (wx.cell? ⟨gb + 1, 0, none⟩ = some (.slice none 0 0) ∧ wx.cell? ⟨gb + 1, 1, none⟩ = some (.int .i64 0)) ∧ wx.frozen? ⟨gb + 1, 0, none⟩ = false ∧ wx.frozen? ⟨gb + 1, 1, none⟩ = false) := Lib.hid fun wx hb => by
            have b0 := B0.out.below hb B0.out.lt
            have b1 := B1.out.below hb B1.out.lt
            exact ⟨⟨b0.cell 0, b0.cell 1⟩, ⟨b1.cell 0, b1.cell 1⟩, b1.frozen 0, b1.frozen 1⟩
          have HGR : Hid (w.heap.size ≤ gb + 1 ∧ gb + 1 < wy.heap.size) := Lib.hid ⟨by rw [hg.out]; omega, B1.out.lt⟩
          go_upto_region 4 with (go_at_call 64; (with_reducible refine (HOw.out _ hb0.out).mono ?_); rintro e w1 ⟨rfl, hh⟩; have hb1 := Lib.hid hh; clear hh)
          clear x0 x1 z0 z1 f0 f1
          obtain ⟨⟨x0, x1⟩, -, -⟩ := HX.out w1 hb1.out
          obtain ⟨c0, c1', c2, c3, c4, c5⟩ := HC.out w1 (below_next hb0.out hb1.out)
          go_upto_region 5 with (fail)
          have hbx : Hid (Below wy.heap.size wy (w1.alloc (.cells #[.int .i64 qi, .int .i64 qo, .int .i64 qp, .int .i64 qa, .int .i64 qpl, .bool qb] 33))) := Lib.hid (hb1.out.alloc hb1.out.size _)
          have BX := Lib.hid (Blk.new w1 33 #[.int .i64 qi, .int .i64 qo, .int .i64 qp, .int .i64 qa, .int .i64 qpl, .bool qb])
          obtain ⟨go, hgo⟩ : ∃ go, Hid (w1.heap.size = go) := ⟨_, Lib.hid rfl⟩
          rw [hgo.out] at BX ⊢
          clear c0 c1' c2 c3 c4 c5 x0 x1
          generalize World.alloc w1 _ = w2 at hbx BX ⊢
          have hgoy : Hid (wy.heap.size ≤ go ∧ gb + 1 < go ∧ gb < go) := Lib.hid (by
            have h1 := hb1.out.size
            have h2 := HGR.out.2
            have h3 := hgo.out
            omega)
          obtain ⟨e0, e1, e2, e3, e4, e5⟩ : (w2.cell? ⟨go, 0, none⟩ = some (.int .i64 qi) ∧ w2.cell? ⟨go, 1, none⟩ = some (.int .i64 qo) ∧ w2.cell? ⟨go, 2, none⟩ = some (.int .i64 qp) ∧ w2.cell? ⟨go, 3, none⟩ = some (.int .i64 qa) ∧ w2.cell? ⟨go, 4, none⟩ = some (.int .i64 qpl) ∧ w2.cell? ⟨go, 5, none⟩ = some (.bool qb)) := ⟨BX.out.cell 0, BX.out.cell 1, BX.out.cell 2, BX.out.cell 3, BX.out.cell 4, BX.out.cell 5⟩
          have e2f : w2.frozen? ⟨go, 2, none⟩ = false := BX.out.frozen 2
          have e3f : w2.frozen? ⟨go, 3, none⟩ = false := BX.out.frozen 3
          go_upto_region 8 with (fail)
          obtain ⟨w3, hw3⟩ : ∃ w3, (w2.setCell ⟨go, 2, none⟩ (.int .i64 price)).setCell ⟨go, 3, none⟩ (.int .i64 amount) = w3 := ⟨_, rfl⟩
          have BO : Hid (Blk w3 go 33 #[.int .i64 qi, .int .i64 qo, .int .i64 price, .int .i64 amount, .int .i64 qpl, .bool qb]) := Lib.hid (by rw [← hw3]; exact blk_price BX.out _ _)
          have hb3 : Hid (Below wy.heap.size wy w3) := Lib.hid (by
            rw [← hw3]
            exact (hbx.out.setCell (p := ⟨go, 2, none⟩) hgoy.out.1 _).setCell (p := ⟨go, 3, none⟩) hgoy.out.1 _)
          rw [hw3]
          clear hw3 e0 e1 e2 e3 e4 e5 e2f e3f
          obtain ⟨e0, e1, e2, e3, e4, e5⟩ : w3.cell? ⟨go, 0, none⟩ = some (.int .i64 qi) ∧ w3.cell? ⟨go, 1, none⟩ = some (.int .i64 qo) ∧ w3.cell? ⟨go, 2, none⟩ = some (.int .i64 price) ∧ w3.cell? ⟨go, 3, none⟩ = some (.int .i64 amount) ∧ w3.cell? ⟨go, 4, none⟩ = some (.int .i64 qpl) ∧ w3.cell? ⟨go, 5, none⟩ = some (.bool qb) := ⟨BO.out.cell 0, BO.out.cell 1, BO.out.cell 2, BO.out.cell 3, BO.out.cell 4, BO.out.cell 5⟩
          go_wp2_with
            (go_at_call 37; (with_reducible refine (HR.out _).mono ?_); rintro e w4 ⟨rfl, hh⟩; have hh4 := Lib.hid hh; have hb4 := Lib.hid (below_next hb3.out hh); clear hh; obtain ⟨⟨y0, y1⟩, ⟨z0', z1'⟩, f0', f1'⟩ := HX.out w4 hb4.out)
          (try simp only [Exit.inBlock, Exit.then])
          refine bodyPost_ret (by simp [results, Try.results49, asAddr, go_sem, z0', z1']; rfl) rfl ?_
          exact rto_same (below_next hb0.out hb4.out) HGR.out.1 hn.out hnx.out hE3.out _ _
        ·
          go_enter Try.func49, Try.ntmps49
          go_upto_region 1 with (fail)
          have hg : Hid (w.heap.size = gb) := hgb
          rw [hg.out] at B0 B1 ⊢
          generalize World.alloc (World.alloc w _) _ = wy at hb0 B0 B1 ⊢
          obtain ⟨x0, x1⟩ : wy.cell? ⟨gb, 0, none⟩ = some (.slice (some ⟨bb,oo,none⟩) n c) ∧ wy.cell? ⟨gb, 1, none⟩ = some (.int .i64 nx) := ⟨B0.out.cell 0, B0.out.cell 1⟩
          obtain ⟨z0, z1⟩ : wy.cell? ⟨gb + 1, 0, none⟩ = some (.slice none 0 0) ∧ wy.cell? ⟨gb + 1, 1, none⟩ = some (.int .i64 0) := ⟨B1.out.cell 0, B1.out.cell 1⟩
          obtain ⟨f0, f1⟩ : wy.frozen? ⟨gb + 1, 0, none⟩ = false ∧ wy.frozen? ⟨gb + 1, 1, none⟩ = false := ⟨B1.out.frozen 0, B1.out.frozen 1⟩
          have HX : Hid (∀ wx, Below wy.heap.size wy wx → (wx.cell? ⟨gb, 0, none⟩ = some (.slice (some ⟨bb,oo,none⟩) n c) ∧ wx.cell? ⟨gb, 1, none⟩ = some (.int .i64 nx)) ∧ (wx.cell? ⟨gb + 1, 0, none⟩ = some (.slice none 0 0) ∧ wx.cell? ⟨gb + 1, 1, none⟩ = some (.int .i64 0)) ∧ wx.frozen? ⟨gb + 1, 0, none⟩ = false ∧ wx.frozen? ⟨gb + 1, 1, none⟩ = false) := Lib.hid fun wx hb => by
            have b0 := B0.out.below hb B0.out.lt
            have b1 := B1.out.below hb B1.out.lt
            exact ⟨⟨b0.cell 0, b0.cell 1⟩, ⟨b1.cell 0, b1.cell 1⟩, b1.frozen 0, b1.frozen 1⟩
          have HGR : Hid (w.heap.size ≤ gb + 1 ∧ gb + 1 < wy.heap.size) := Lib.hid ⟨by rw [hg.out]; omega, B1.out.lt⟩
          go_upto_region 4 with (go_at_call 64; (with_reducible refine (HOw.out _ hb0.out).mono ?_); rintro e w1 ⟨rfl, hh⟩; have hb1 := Lib.hid hh; clear hh)
          clear x0 x1 z0 z1 f0 f1
          obtain ⟨⟨x0, x1⟩, -, -⟩ := HX.out w1 hb1.out
          obtain ⟨c0, c1', c2, c3, c4, c5⟩ := HC.out w1 (below_next hb0.out hb1.out)
          go_upto_region 5 with (fail)
          have hbx : Hid (Below wy.heap.size wy (w1.alloc (.cells #[.int .i64 qi, .int .i64 qo, .int .i64 qp, .int .i64 qa, .int .i64 qpl, .bool qb] 33))) := Lib.hid (hb1.out.alloc hb1.out.size _)
          have BX := Lib.hid (Blk.new w1 33 #[.int .i64 qi, .int .i64 qo, .int .i64 qp, .int .i64 qa, .int .i64 qpl, .bool qb])
          obtain ⟨go, hgo⟩ : ∃ go, Hid (w1.heap.size = go) := ⟨_, Lib.hid rfl⟩
          rw [hgo.out] at BX ⊢
          clear c0 c1' c2 c3 c4 c5 x0 x1
          generalize World.alloc w1 _ = w2 at hbx BX ⊢
          have hgoy : Hid (wy.heap.size ≤ go ∧ gb + 1 < go ∧ gb < go) := Lib.hid (by
            have h1 := hb1.out.size
            have h2 := HGR.out.2
            have h3 := hgo.out
            omega)
          obtain ⟨e0, e1, e2, e3, e4, e5⟩ : (w2.cell? ⟨go, 0, none⟩ = some (.int .i64 qi) ∧ w2.cell? ⟨go, 1, none⟩ = some (.int .i64 qo) ∧ w2.cell? ⟨go, 2, none⟩ = some (.int .i64 qp) ∧ w2.cell? ⟨go, 3, none⟩ = some (.int .i64 qa) ∧ w2.cell? ⟨go, 4, none⟩ = some (.int .i64 qpl) ∧ w2.cell? ⟨go, 5, none⟩ = some (.bool qb)) := ⟨BX.out.cell 0, BX.out.cell 1, BX.out.cell 2, BX.out.cell 3, BX.out.cell 4, BX.out.cell 5⟩
          have e2f : w2.frozen? ⟨go, 2, none⟩ = false := BX.out.frozen 2
          have e3f : w2.frozen? ⟨go, 3, none⟩ = false := BX.out.frozen 3
          go_upto_region 8 with (fail)
          obtain ⟨w3, hw3⟩ : ∃ w3, (w2.setCell ⟨go, 2, none⟩ (.int .i64 price)).setCell ⟨go, 3, none⟩ (.int .i64 amount) = w3 := ⟨_, rfl⟩
          have BO : Hid (Blk w3 go 33 #[.int .i64 qi, .int .i64 qo, .int .i64 price, .int .i64 amount, .int .i64 qpl, .bool qb]) := Lib.hid (by rw [← hw3]; exact blk_price BX.out _ _)
          have hb3 : Hid (Below wy.heap.size wy w3) := Lib.hid (by
            rw [← hw3]
            exact (hbx.out.setCell (p := ⟨go, 2, none⟩) hgoy.out.1 _).setCell (p := ⟨go, 3, none⟩) hgoy.out.1 _)
          rw [hw3]
          clear hw3 e0 e1 e2 e3 e4 e5 e2f e3f
          obtain ⟨e0, e1, e2, e3, e4, e5⟩ : w3.cell? ⟨go, 0, none⟩ = some (.int .i64 qi) ∧ w3.cell? ⟨go, 1, none⟩ = some (.int .i64 qo) ∧ w3.cell? ⟨go, 2, none⟩ = some (.int .i64 price) ∧ w3.cell? ⟨go, 3, none⟩ = some (.int .i64 amount) ∧ w3.cell? ⟨go, 4, none⟩ = some (.int .i64 qpl) ∧ w3.cell? ⟨go, 5, none⟩ = some (.bool qb) := ⟨BO.out.cell 0, BO.out.cell 1, BO.out.cell 2, BO.out.cell 3, BO.out.cell 4, BO.out.cell 5⟩
          go_wp2_with
            (go_at_call 37; (with_reducible refine (HR.out _).mono ?_); rintro e w4 ⟨rfl, hh⟩; have hh4 := Lib.hid hh; have hb4 := Lib.hid (below_next hb3.out hh); clear hh; obtain ⟨⟨y0, y1⟩, ⟨z0', z1'⟩, f0', f1'⟩ := HX.out w4 hb4.out)
          (try simp only [Exit.inBlock, Exit.then])
          refine bodyPost_ret (by simp [results, Try.results49, asAddr, go_sem, z0', z1']; rfl) rfl ?_
          exact rto_same (below_next hb0.out hb4.out) HGR.out.1 hn.out hnx.out hE3.out _ _
      | true =>
        rw [if_neg (by simp)] at hE
        by_cases haq : amount ≤ qa
        · have hE3 := Lib.hid hE
          rw [if_pos ⟨hpq, haq⟩] at hE3
          clear hE hpq
          go_enter Try.func49, Try.ntmps49
          go_upto_region 1 with (fail)
          have hg : Hid (w.heap.size = gb) := hgb
          rw [hg.out] at B0 B1 ⊢
          generalize World.alloc (World.alloc w _) _ = wy at hb0 B0 B1 ⊢
          obtain ⟨x0, x1⟩ : wy.cell? ⟨gb, 0, none⟩ = some (.slice (some ⟨bb,oo,none⟩) n c) ∧ wy.cell? ⟨gb, 1, none⟩ = some (.int .i64 nx) := ⟨B0.out.cell 0, B0.out.cell 1⟩
          obtain ⟨z0, z1⟩ : wy.cell? ⟨gb + 1, 0, none⟩ = some (.slice none 0 0) ∧ wy.cell? ⟨gb + 1, 1, none⟩ = some (.int .i64 0) := ⟨B1.out.cell 0, B1.out.cell 1⟩
          obtain ⟨f0, f1⟩ : wy.frozen? ⟨gb + 1, 0, none⟩ = false ∧ wy.frozen? ⟨gb + 1, 1, none⟩ = false := ⟨B1.out.frozen 0, B1.out.frozen 1⟩
          have HX : Hid (∀ wx, Below wy.heap.size wy wx → (wx.cell? ⟨gb, 0, none⟩ = some (.slice (some ⟨bb,oo,none⟩) n c) ∧ wx.cell? ⟨gb, 1, none⟩ = some (.int .i64 nx)) ∧ (wx.cell? ⟨gb + 1, 0, none⟩ = some (.slice none 0 0) ∧ wx.cell? ⟨gb + 1, 1, none⟩ = some (.int .i64 0)) ∧ wx.frozen? ⟨gb + 1, 0, none⟩ = false ∧ wx.frozen? ⟨gb + 1, 1, none⟩ = false) := Lib.hid fun wx hb => by
            have b0 := B0.out.below hb B0.out.lt
            have b1 := B1.out.below hb B1.out.lt
            exact ⟨⟨b0.cell 0, b0.cell 1⟩, ⟨b1.cell 0, b1.cell 1⟩, b1.frozen 0, b1.frozen 1⟩
          have HGR : Hid (w.heap.size ≤ gb + 1 ∧ gb + 1 < wy.heap.size) := Lib.hid ⟨by rw [hg.out]; omega, B1.out.lt⟩
          go_upto_region 4 with (go_at_call 64; (with_reducible refine (HOw.out _ hb0.out).mono ?_); rintro e w1 ⟨rfl, hh⟩; have hb1 := Lib.hid hh; clear hh)
          clear x0 x1 z0 z1 f0 f1
          obtain ⟨⟨x0, x1⟩, -, -⟩ := HX.out w1 hb1.out
          obtain ⟨c0, c1', c2, c3, c4, c5⟩ := HC.out w1 (below_next hb0.out hb1.out)
          go_upto_region 5 with (fail)
          have hbx : Hid (Below wy.heap.size wy (w1.alloc (.cells #[.int .i64 qi, .int .i64 qo, .int .i64 qp, .int .i64 qa, .int .i64 qpl, .bool qb] 33))) := Lib.hid (hb1.out.alloc hb1.out.size _)
          have BX := Lib.hid (Blk.new w1 33 #[.int .i64 qi, .int .i64 qo, .int .i64 qp, .int .i64 qa, .int .i64 qpl, .bool qb])
          obtain ⟨go, hgo⟩ : ∃ go, Hid (w1.heap.size = go) := ⟨_, Lib.hid rfl⟩
          rw [hgo.out] at BX ⊢
          clear c0 c1' c2 c3 c4 c5 x0 x1
          generalize World.alloc w1 _ = w2 at hbx BX ⊢
          have hgoy : Hid (wy.heap.size ≤ go ∧ gb + 1 < go ∧ gb < go) := Lib.hid (by
            have h1 := hb1.out.size
            have h2 := HGR.out.2
            have h3 := hgo.out
            omega)
          obtain ⟨e0, e1, e2, e3, e4, e5⟩ : (w2.cell? ⟨go, 0, none⟩ = some (.int .i64 qi) ∧ w2.cell? ⟨go, 1, none⟩ = some (.int .i64 qo) ∧ w2.cell? ⟨go, 2, none⟩ = some (.int .i64 qp) ∧ w2.cell? ⟨go, 3, none⟩ = some (.int .i64 qa) ∧ w2.cell? ⟨go, 4, none⟩ = some (.int .i64 qpl) ∧ w2.cell? ⟨go, 5, none⟩ = some (.bool qb)) := ⟨BX.out.cell 0, BX.out.cell 1, BX.out.cell 2, BX.out.cell 3, BX.out.cell 4, BX.out.cell 5⟩
          have e2f : w2.frozen? ⟨go, 2, none⟩ = false := BX.out.frozen 2
          have e3f : w2.frozen? ⟨go, 3, none⟩ = false := BX.out.frozen 3
          go_upto_region 8 with (fail)
          obtain ⟨w3, hw3⟩ : ∃ w3, (w2.setCell ⟨go, 2, none⟩ (.int .i64 price)).setCell ⟨go, 3, none⟩ (.int .i64 amount) = w3 := ⟨_, rfl⟩
          have BO : Hid (Blk w3 go 33 #[.int .i64 qi, .int .i64 qo, .int .i64 price, .int .i64 amount, .int .i64 qpl, .bool qb]) := Lib.hid (by rw [← hw3]; exact blk_price BX.out _ _)
          have hb3 : Hid (Below wy.heap.size wy w3) := Lib.hid (by
            rw [← hw3]
            exact (hbx.out.setCell (p := ⟨go, 2, none⟩) hgoy.out.1 _).setCell (p := ⟨go, 3, none⟩) hgoy.out.1 _)
          rw [hw3]
          clear hw3 e0 e1 e2 e3 e4 e5 e2f e3f
          obtain ⟨e0, e1, e2, e3, e4, e5⟩ : w3.cell? ⟨go, 0, none⟩ = some (.int .i64 qi) ∧ w3.cell? ⟨go, 1, none⟩ = some (.int .i64 qo) ∧ w3.cell? ⟨go, 2, none⟩ = some (.int .i64 price) ∧ w3.cell? ⟨go, 3, none⟩ = some (.int .i64 amount) ∧ w3.cell? ⟨go, 4, none⟩ = some (.int .i64 qpl) ∧ w3.cell? ⟨go, 5, none⟩ = some (.bool qb) := ⟨BO.out.cell 0, BO.out.cell 1, BO.out.cell 2, BO.out.cell 3, BO.out.cell 4, BO.out.cell 5⟩
          go_upto_region 11 with
            (go_at_call 37; (with_reducible refine (HR.out _).mono ?_); rintro e w4 ⟨rfl, hh⟩; have hh4 := Lib.hid hh; have hb4 := Lib.hid (below_next hb3.out hh); clear hh; obtain ⟨⟨y0, y1⟩, ⟨z0', z1'⟩, f0', f1'⟩ := HX.out w4 hb4.out)
          have HOW4 := Lib.hid (below_next hb0.out hb4.out)
          have HWx := Lib.hid (HWn.out w4 HOW4.out)
          have BO4 := Lib.hid (BO.out.below hh4.out BO.out.lt)
          clear e0 e1 e2 e3 e4 e5
          go_upto_region 12 with (go_at_call 65; (with_reducible refine HWx.out.mono ?_); rintro e w5 ⟨A3, c3, rfl, hm5, hh⟩; have HSw := Lib.hid (show Sw w4 w5 A3 n c3 b.l from ⟨hm5, hn.out, hh⟩); clear hm5 hh)
          have hA3c : Hid (n ≤ c3) := Lib.hid (HSw.out.row.orow hn.out).1
          obtain ⟨b3, o3, rfl⟩ := HSw.out.lies (by omega)
          have hput := Lib.hid (HSw.out.put hi ⟨qi, qo, price, amount, qpl, qb⟩)
          have hbw5 := Lib.hid HSw.out.all
          have BO5 := Lib.hid (BO4.out.below hbw5.out BO4.out.lt)
          obtain ⟨e0, e1, e2, e3, e4, e5⟩ : w5.cell? ⟨go, 0, none⟩ = some (.int .i64 qi) ∧ w5.cell? ⟨go, 1, none⟩ = some (.int .i64 qo) ∧ w5.cell? ⟨go, 2, none⟩ = some (.int .i64 price) ∧ w5.cell? ⟨go, 3, none⟩ = some (.int .i64 amount) ∧ w5.cell? ⟨go, 4, none⟩ = some (.int .i64 qpl) ∧ w5.cell? ⟨go, 5, none⟩ = some (.bool qb) := ⟨BO5.out.cell 0, BO5.out.cell 1, BO5.out.cell 2, BO5.out.cell 3, BO5.out.cell 4, BO5.out.cell 5⟩
          obtain ⟨c0, c1', c2, c3', c4, c5⟩ := HSw.out.six hi
          obtain ⟨g0, g1, g2, g3, g4, g5⟩ : (w5.frozen? ⟨b3, o3 + i * 6, none⟩ = false ∧ w5.frozen? ⟨b3, o3 + i * 6 + 1, none⟩ = false ∧ w5.frozen? ⟨b3, o3 + i * 6 + 2, none⟩ = false ∧ w5.frozen? ⟨b3, o3 + i * 6 + 3, none⟩ = false ∧ w5.frozen? ⟨b3, o3 + i * 6 + 4, none⟩ = false ∧ w5.frozen? ⟨b3, o3 + i * 6 + 5, none⟩ = false) := ⟨(hput.out.1 0 (by decide)).2, (hput.out.1 1 (by decide)).2, (hput.out.1 2 (by decide)).2, (hput.out.1 3 (by decide)).2, (hput.out.1 4 (by decide)).2, (hput.out.1 5 (by decide)).2⟩
          clear y0 y1 z0' z1' f0' f1'
          go_upto_region 13 with (fail)
          generalize hw6 : World.setCell _ ⟨b3, o3 + i * 6 + 5, none⟩ _ = w6
          have HS6 : Hid (Sw w4 w6 (some ⟨b3, o3, none⟩) n c3 (b.l.set i ⟨qi, qo, price, amount, qpl, qb⟩)) := Lib.hid (by rw [← hw6]; exact hput.out.2)
          clear hw6 e0 e1 e2 e3 e4 e5 c0 c1' c2 c3' c4 c5 g0 g1 g2 g3 g4 g5
          obtain ⟨⟨y0, y1⟩, ⟨z0', z1'⟩, f0', f1'⟩ := HX.out w6 (below_next hb4.out HS6.out.all)
          go_wp2
          (try simp only [Exit.inBlock, Exit.then])
          refine bodyPost_ret (by simp [results, Try.results49, asAddr, go_sem, z0', z1']; rfl) rfl ?_
          exact rto_new (gr := gb + 1) HOW4.out HS6.out.row HS6.out.all ⟨HGR.out.1, Nat.lt_of_lt_of_le HGR.out.2 hb4.out.size⟩ HS6.out.len hE3.out _ _
        · rw [if_neg (fun hh => haq hh.2)] at hE
          clear hpq
          by_cases hfull : 9007199254740992 ≤ nx
          · have hE3 := Lib.hid hE
            rw [if_pos hfull] at hE3
            clear hE
            go_enter Try.func49, Try.ntmps49
            go_upto_region 1 with (fail)
            have hg : Hid (w.heap.size = gb) := hgb
            rw [hg.out] at B0 B1 ⊢
            generalize World.alloc (World.alloc w _) _ = wy at hb0 B0 B1 ⊢
            obtain ⟨x0, x1⟩ : wy.cell? ⟨gb, 0, none⟩ = some (.slice (some ⟨bb,oo,none⟩) n c) ∧ wy.cell? ⟨gb, 1, none⟩ = some (.int .i64 nx) := ⟨B0.out.cell 0, B0.out.cell 1⟩
            obtain ⟨z0, z1⟩ : wy.cell? ⟨gb + 1, 0, none⟩ = some (.slice none 0 0) ∧ wy.cell? ⟨gb + 1, 1, none⟩ = some (.int .i64 0) := ⟨B1.out.cell 0, B1.out.cell 1⟩
            obtain ⟨f0, f1⟩ : wy.frozen? ⟨gb + 1, 0, none⟩ = false ∧ wy.frozen? ⟨gb + 1, 1, none⟩ = false := ⟨B1.out.frozen 0, B1.out.frozen 1⟩
            have HX : Hid (∀ wx, Below wy.heap.size wy wx → (wx.cell? ⟨gb, 0, none⟩ = some (.slice (some ⟨bb,oo,none⟩) n c) ∧ wx.cell? ⟨gb, 1, none⟩ = some (.int .i64 nx)) ∧ (wx.cell? ⟨gb + 1, 0, none⟩ = some (.slice none 0 0) ∧ wx.cell? ⟨gb + 1, 1, none⟩ = some (.int .i64 0)) ∧ wx.frozen? ⟨gb + 1, 0, none⟩ = false ∧ wx.frozen? ⟨gb + 1, 1, none⟩ = false) := Lib.hid fun wx hb => by
              have b0 := B0.out.below hb B0.out.lt
              have b1 := B1.out.below hb B1.out.lt
              exact ⟨⟨b0.cell 0, b0.cell 1⟩, ⟨b1.cell 0, b1.cell 1⟩, b1.frozen 0, b1.frozen 1⟩
            have HGR : Hid (w.heap.size ≤ gb + 1 ∧ gb + 1 < wy.heap.size) := Lib.hid ⟨by rw [hg.out]; omega, B1.out.lt⟩
            go_upto_region 4 with (go_at_call 64; (with_reducible refine (HOw.out _ hb0.out).mono ?_); rintro e w1 ⟨rfl, hh⟩; have hb1 := Lib.hid hh; clear hh)
            clear x0 x1 z0 z1 f0 f1
            obtain ⟨⟨x0, x1⟩, -, -⟩ := HX.out w1 hb1.out
            obtain ⟨c0, c1', c2, c3, c4, c5⟩ := HC.out w1 (below_next hb0.out hb1.out)
            go_upto_region 5 with (fail)
            have hbx : Hid (Below wy.heap.size wy (w1.alloc (.cells #[.int .i64 qi, .int .i64 qo, .int .i64 qp, .int .i64 qa, .int .i64 qpl, .bool qb] 33))) := Lib.hid (hb1.out.alloc hb1.out.size _)
            have BX := Lib.hid (Blk.new w1 33 #[.int .i64 qi, .int .i64 qo, .int .i64 qp, .int .i64 qa, .int .i64 qpl, .bool qb])
            obtain ⟨go, hgo⟩ : ∃ go, Hid (w1.heap.size = go) := ⟨_, Lib.hid rfl⟩
            rw [hgo.out] at BX ⊢
            clear c0 c1' c2 c3 c4 c5 x0 x1
            generalize World.alloc w1 _ = w2 at hbx BX ⊢
            have hgoy : Hid (wy.heap.size ≤ go ∧ gb + 1 < go ∧ gb < go) := Lib.hid (by
              have h1 := hb1.out.size
              have h2 := HGR.out.2
              have h3 := hgo.out
              omega)
            obtain ⟨e0, e1, e2, e3, e4, e5⟩ : (w2.cell? ⟨go, 0, none⟩ = some (.int .i64 qi) ∧ w2.cell? ⟨go, 1, none⟩ = some (.int .i64 qo) ∧ w2.cell? ⟨go, 2, none⟩ = some (.int .i64 qp) ∧ w2.cell? ⟨go, 3, none⟩ = some (.int .i64 qa) ∧ w2.cell? ⟨go, 4, none⟩ = some (.int .i64 qpl) ∧ w2.cell? ⟨go, 5, none⟩ = some (.bool qb)) := ⟨BX.out.cell 0, BX.out.cell 1, BX.out.cell 2, BX.out.cell 3, BX.out.cell 4, BX.out.cell 5⟩
            have e2f : w2.frozen? ⟨go, 2, none⟩ = false := BX.out.frozen 2
            have e3f : w2.frozen? ⟨go, 3, none⟩ = false := BX.out.frozen 3
            go_upto_region 8 with (fail)
            obtain ⟨w3, hw3⟩ : ∃ w3, (w2.setCell ⟨go, 2, none⟩ (.int .i64 price)).setCell ⟨go, 3, none⟩ (.int .i64 amount) = w3 := ⟨_, rfl⟩
            have BO : Hid (Blk w3 go 33 #[.int .i64 qi, .int .i64 qo, .int .i64 price, .int .i64 amount, .int .i64 qpl, .bool qb]) := Lib.hid (by rw [← hw3]; exact blk_price BX.out _ _)
            have hb3 : Hid (Below wy.heap.size wy w3) := Lib.hid (by
              rw [← hw3]
              exact (hbx.out.setCell (p := ⟨go, 2, none⟩) hgoy.out.1 _).setCell (p := ⟨go, 3, none⟩) hgoy.out.1 _)
            rw [hw3]
            clear hw3 e0 e1 e2 e3 e4 e5 e2f e3f
            obtain ⟨e0, e1, e2, e3, e4, e5⟩ : w3.cell? ⟨go, 0, none⟩ = some (.int .i64 qi) ∧ w3.cell? ⟨go, 1, none⟩ = some (.int .i64 qo) ∧ w3.cell? ⟨go, 2, none⟩ = some (.int .i64 price) ∧ w3.cell? ⟨go, 3, none⟩ = some (.int .i64 amount) ∧ w3.cell? ⟨go, 4, none⟩ = some (.int .i64 qpl) ∧ w3.cell? ⟨go, 5, none⟩ = some (.bool qb) := ⟨BO.out.cell 0, BO.out.cell 1, BO.out.cell 2, BO.out.cell 3, BO.out.cell 4, BO.out.cell 5⟩
            go_wp2_with
              (go_at_call 37; (with_reducible refine (HR.out _).mono ?_); rintro e w4 ⟨rfl, hh⟩; have hh4 := Lib.hid hh; have hb4 := Lib.hid (below_next hb3.out hh); clear hh; obtain ⟨⟨y0, y1⟩, ⟨z0', z1'⟩, f0', f1'⟩ := HX.out w4 hb4.out)
            (try simp only [Exit.inBlock, Exit.then])
            refine bodyPost_ret (by simp [results, Try.results49, asAddr, go_sem, z0', z1']; rfl) rfl ?_
            exact rto_same (below_next hb0.out hb4.out) HGR.out.1 hn.out hnx.out hE3.out _ _
          · have hE3 := Lib.hid hE
            rw [if_neg hfull] at hE3
            clear hE
            have HWj : Hid (∀ wx, Below w.heap.size w wx → Calls Try.prog 65 #[.slice (some ⟨bb,oo,none⟩) n c, .int .i64 (i : Int)] wx fun e w' => ∃ A3 c3, e = .returned (.slice A3 (n - 1) c3) ∧ Mine wx w' 6 (.slice A3 (n - 1) c3) (n - 1) (ocells (b.l.eraseIdx i)) ∧ Below wx.heap.size wx w') := Lib.hid fun wx hb => by
              have := HWi.out wx hb i
              rwa [List.length_eraseIdx_of_lt hL.out, hn.out] at this
            have hL3n' : Hid ((b.l.eraseIdx i).length = n - 1) := Lib.hid (by rw [List.length_eraseIdx_of_lt hL.out, hn.out])
            obtain ⟨L3, hL3⟩ : ∃ L3, Hid (b.l.eraseIdx i = L3) := ⟨_, Lib.hid rfl⟩
            have hL3n : Hid (L3.length = n - 1) := Lib.hid (by rw [← hL3.out]; exact hL3n'.out)
            rw [hL3.out] at HWj hE3
            have qn : IntKind.i64.wrap (nx + 1) = nx + 1 := by rw [IntKind.wrap_i64]; omega
            obtain ⟨j1, hj1, hy0, hy1, hy2⟩ := info_parts info_order
            have HI1 := Lib.hid hj1
            have HY0 := Lib.hid hy0
            have HY1 := Lib.hid hy1
            have HY2 := Lib.hid hy2
            have hA1 : Hid (n - 1 + 1 ≤ maxLen) := Lib.hid (by unfold maxLen; omega)
            have hA2 : Hid ((n - 1 + 1) * 48 ≤ 140737488355328) := Lib.hid (by omega)
            clear hj1 hy0 hy1 hy2
            go_enter Try.func49, Try.ntmps49
            go_upto_region 1 with (fail)
            have hg : Hid (w.heap.size = gb) := hgb
            rw [hg.out] at B0 B1 ⊢
            generalize World.alloc (World.alloc w _) _ = wy at hb0 B0 B1 ⊢
            obtain ⟨x0, x1⟩ : wy.cell? ⟨gb, 0, none⟩ = some (.slice (some ⟨bb,oo,none⟩) n c) ∧ wy.cell? ⟨gb, 1, none⟩ = some (.int .i64 nx) := ⟨B0.out.cell 0, B0.out.cell 1⟩
            obtain ⟨z0, z1⟩ : wy.cell? ⟨gb + 1, 0, none⟩ = some (.slice none 0 0) ∧ wy.cell? ⟨gb + 1, 1, none⟩ = some (.int .i64 0) := ⟨B1.out.cell 0, B1.out.cell 1⟩
            obtain ⟨f0, f1⟩ : wy.frozen? ⟨gb + 1, 0, none⟩ = false ∧ wy.frozen? ⟨gb + 1, 1, none⟩ = false := ⟨B1.out.frozen 0, B1.out.frozen 1⟩
            have HX : Hid (∀ wx, Below wy.heap.size wy wx → (wx.cell? ⟨gb, 0, none⟩ = some (.slice (some ⟨bb,oo,none⟩) n c) ∧ wx.cell? ⟨gb, 1, none⟩ = some (.int .i64 nx)) ∧ (wx.cell? ⟨gb + 1, 0, none⟩ = some (.slice none 0 0) ∧ wx.cell? ⟨gb + 1, 1, none⟩ = some (.int .i64 0)) ∧ wx.frozen? ⟨gb + 1, 0, none⟩ = false ∧ wx.frozen? ⟨gb + 1, 1, none⟩ = false) := Lib.hid fun wx hb => by
              have b0 := B0.out.below hb B0.out.lt
              have b1 := B1.out.below hb B1.out.lt
              exact ⟨⟨b0.cell 0, b0.cell 1⟩, ⟨b1.cell 0, b1.cell 1⟩, b1.frozen 0, b1.frozen 1⟩
            have HGR : Hid (w.heap.size ≤ gb + 1 ∧ gb + 1 < wy.heap.size) := Lib.hid ⟨by rw [hg.out]; omega, B1.out.lt⟩
            go_upto_region 4 with (go_at_call 64; (with_reducible refine (HOw.out _ hb0.out).mono ?_); rintro e w1 ⟨rfl, hh⟩; have hb1 := Lib.hid hh; clear hh)
            clear x0 x1 z0 z1 f0 f1
            obtain ⟨⟨x0, x1⟩, -, -⟩ := HX.out w1 hb1.out
            obtain ⟨c0, c1', c2, c3, c4, c5⟩ := HC.out w1 (below_next hb0.out hb1.out)
            go_upto_region 5 with (fail)
            have hbx : Hid (Below wy.heap.size wy (w1.alloc (.cells #[.int .i64 qi, .int .i64 qo, .int .i64 qp, .int .i64 qa, .int .i64 qpl, .bool qb] 33))) := Lib.hid (hb1.out.alloc hb1.out.size _)
            have BX := Lib.hid (Blk.new w1 33 #[.int .i64 qi, .int .i64 qo, .int .i64 qp, .int .i64 qa, .int .i64 qpl, .bool qb])
            obtain ⟨go, hgo⟩ : ∃ go, Hid (w1.heap.size = go) := ⟨_, Lib.hid rfl⟩
            rw [hgo.out] at BX ⊢
            clear c0 c1' c2 c3 c4 c5 x0 x1
            generalize World.alloc w1 _ = w2 at hbx BX ⊢
            have hgoy : Hid (wy.heap.size ≤ go ∧ gb + 1 < go ∧ gb < go) := Lib.hid (by
              have h1 := hb1.out.size
              have h2 := HGR.out.2
              have h3 := hgo.out
              omega)
            obtain ⟨e0, e1, e2, e3, e4, e5⟩ : (w2.cell? ⟨go, 0, none⟩ = some (.int .i64 qi) ∧ w2.cell? ⟨go, 1, none⟩ = some (.int .i64 qo) ∧ w2.cell? ⟨go, 2, none⟩ = some (.int .i64 qp) ∧ w2.cell? ⟨go, 3, none⟩ = some (.int .i64 qa) ∧ w2.cell? ⟨go, 4, none⟩ = some (.int .i64 qpl) ∧ w2.cell? ⟨go, 5, none⟩ = some (.bool qb)) := ⟨BX.out.cell 0, BX.out.cell 1, BX.out.cell 2, BX.out.cell 3, BX.out.cell 4, BX.out.cell 5⟩
            have e2f : w2.frozen? ⟨go, 2, none⟩ = false := BX.out.frozen 2
            have e3f : w2.frozen? ⟨go, 3, none⟩ = false := BX.out.frozen 3
            go_upto_region 8 with (fail)
            obtain ⟨w3, hw3⟩ : ∃ w3, (w2.setCell ⟨go, 2, none⟩ (.int .i64 price)).setCell ⟨go, 3, none⟩ (.int .i64 amount) = w3 := ⟨_, rfl⟩
            have BO : Hid (Blk w3 go 33 #[.int .i64 qi, .int .i64 qo, .int .i64 price, .int .i64 amount, .int .i64 qpl, .bool qb]) := Lib.hid (by rw [← hw3]; exact blk_price BX.out _ _)
            have hb3 : Hid (Below wy.heap.size wy w3) := Lib.hid (by
              rw [← hw3]
              exact (hbx.out.setCell (p := ⟨go, 2, none⟩) hgoy.out.1 _).setCell (p := ⟨go, 3, none⟩) hgoy.out.1 _)
            rw [hw3]
            clear hw3 e0 e1 e2 e3 e4 e5 e2f e3f
            obtain ⟨e0, e1, e2, e3, e4, e5⟩ : w3.cell? ⟨go, 0, none⟩ = some (.int .i64 qi) ∧ w3.cell? ⟨go, 1, none⟩ = some (.int .i64 qo) ∧ w3.cell? ⟨go, 2, none⟩ = some (.int .i64 price) ∧ w3.cell? ⟨go, 3, none⟩ = some (.int .i64 amount) ∧ w3.cell? ⟨go, 4, none⟩ = some (.int .i64 qpl) ∧ w3.cell? ⟨go, 5, none⟩ = some (.bool qb) := ⟨BO.out.cell 0, BO.out.cell 1, BO.out.cell 2, BO.out.cell 3, BO.out.cell 4, BO.out.cell 5⟩
            go_upto_region 16 with
              (go_at_call 37; (with_reducible refine (HR.out _).mono ?_); rintro e w4 ⟨rfl, hh⟩; have hh4 := Lib.hid hh; have hb4 := Lib.hid (below_next hb3.out hh); clear hh; obtain ⟨⟨y0, y1⟩, ⟨z0', z1'⟩, f0', f1'⟩ := HX.out w4 hb4.out)
            have BO4 := Lib.hid (BO.out.below hh4.out BO.out.lt)
            clear e0 e1 e2 e3 e4 e5 f0' f1' z0' z1'
            have e4 : w4.cell? ⟨go, 4, none⟩ = some (.int .i64 qpl) := BO4.out.cell 4
            have e4f : w4.frozen? ⟨go, 4, none⟩ = false := BO4.out.frozen 4
            go_upto_region 17 with (fail)
            obtain ⟨w5, hw5⟩ : ∃ w5, w4.setCell ⟨go, 4, none⟩ (.int .i64 nx) = w5 := ⟨_, rfl⟩
            have D1 : Hid (Blk w5 go 33 #[.int .i64 qi, .int .i64 qo, .int .i64 price, .int .i64 amount, .int .i64 nx, .bool qb]) := Lib.hid (by rw [← hw5]; exact blk_place BO4.out _)
            have hby5 : Hid (Below wy.heap.size wy w5) := Lib.hid (by rw [← hw5]; exact hb4.out.setCell (p := ⟨go, 4, none⟩) hgoy.out.1 _)
            have hbw : Hid (Below w.heap.size w w5) := Lib.hid (below_next hb0.out hby5.out)
            rw [hw5]
            clear hw5 e4 e4f y0 y1
            have HY : Hid (∀ wx, Below w5.heap.size w5 wx → ((wx.cell? ⟨go, 0, none⟩ = some (.int .i64 qi) ∧ wx.cell? ⟨go, 1, none⟩ = some (.int .i64 qo) ∧ wx.cell? ⟨go, 2, none⟩ = some (.int .i64 price) ∧ wx.cell? ⟨go, 3, none⟩ = some (.int .i64 amount) ∧ wx.cell? ⟨go, 4, none⟩ = some (.int .i64 nx) ∧ wx.cell? ⟨go, 5, none⟩ = some (.bool qb)) ∧ wx.cell? ⟨gb, 0, none⟩ = some (.slice (some ⟨bb,oo,none⟩) n c) ∧ wx.cell? ⟨gb, 1, none⟩ = some (.int .i64 nx)) ∧ ((wx.cell? ⟨gb + 1, 0, none⟩ = some (.slice none 0 0) ∧ wx.cell? ⟨gb + 1, 1, none⟩ = some (.int .i64 0)) ∧ wx.frozen? ⟨gb + 1, 0, none⟩ = false ∧ wx.frozen? ⟨gb + 1, 1, none⟩ = false)) := Lib.hid fun wx hb => by
              obtain ⟨a1, a2, a3, a4⟩ := HX.out wx (below_next hby5.out hb)
              have b1 := D1.out.below hb D1.out.lt
              exact ⟨⟨⟨b1.cell 0, b1.cell 1, b1.cell 2, b1.cell 3, b1.cell 4, b1.cell 5⟩, a1.1, a1.2⟩, a2, a3, a4⟩
            have hgo1 : Hid (go ≠ gb + 1) := Lib.hid (by have := hgoy.out; omega)
            have HS2 : Hid (∀ (wx : World) (v0 v1 : Value) (wz : World), wz = ((wx.setCell ⟨gb + 1, 0, none⟩ v0).setCell ⟨gb + 1, 1, none⟩ v1) → ((wx.cell? ⟨go, 0, none⟩ = some (.int .i64 qi) ∧ wx.cell? ⟨go, 1, none⟩ = some (.int .i64 qo) ∧ wx.cell? ⟨go, 2, none⟩ = some (.int .i64 price) ∧ wx.cell? ⟨go, 3, none⟩ = some (.int .i64 amount) ∧ wx.cell? ⟨go, 4, none⟩ = some (.int .i64 nx) ∧ wx.cell? ⟨go, 5, none⟩ = some (.bool qb)) ∧ wx.cell? ⟨gb, 0, none⟩ = some (.slice (some ⟨bb,oo,none⟩) n c) ∧ wx.cell? ⟨gb, 1, none⟩ = some (.int .i64 nx)) → ((wz.cell? ⟨go, 0, none⟩ = some (.int .i64 qi) ∧ wz.cell? ⟨go, 1, none⟩ = some (.int .i64 qo) ∧ wz.cell? ⟨go, 2, none⟩ = some (.int .i64 price) ∧ wz.cell? ⟨go, 3, none⟩ = some (.int .i64 amount) ∧ wz.cell? ⟨go, 4, none⟩ = some (.int .i64 nx) ∧ wz.cell? ⟨go, 5, none⟩ = some (.bool qb)) ∧ wz.cell? ⟨gb, 0, none⟩ = some (.slice (some ⟨bb,oo,none⟩) n c) ∧ wz.cell? ⟨gb, 1, none⟩ = some (.int .i64 nx))) := Lib.hid fun wx v0 v1 wz hwz ⟨⟨q0, q1, q2, q3, q4, q5⟩, r0, r1⟩ => by
              subst hwz
              exact ⟨⟨far2 q0 hgo1.out _ _, far2 q1 hgo1.out _ _, far2 q2 hgo1.out _ _, far2 q3 hgo1.out _ _, far2 q4 hgo1.out _ _, far2 q5 hgo1.out _ _⟩, far2 r0 (by omega) _ _, far2 r1 (by omega) _ _⟩
            have hg3 : Hid (w.heap.size ≤ gb + 1 ∧ gb + 1 < w5.heap.size) := Lib.hid ⟨HGR.out.1, Nat.lt_of_lt_of_le HGR.out.2 hby5.out.size⟩
            have HS0 : Hid ((w5.cell? ⟨go, 0, none⟩ = some (.int .i64 qi) ∧ w5.cell? ⟨go, 1, none⟩ = some (.int .i64 qo) ∧ w5.cell? ⟨go, 2, none⟩ = some (.int .i64 price) ∧ w5.cell? ⟨go, 3, none⟩ = some (.int .i64 amount) ∧ w5.cell? ⟨go, 4, none⟩ = some (.int .i64 nx) ∧ w5.cell? ⟨go, 5, none⟩ = some (.bool qb)) ∧ w5.cell? ⟨gb, 0, none⟩ = some (.slice (some ⟨bb,oo,none⟩) n c) ∧ w5.cell? ⟨gb, 1, none⟩ = some (.int .i64 nx)) := Lib.hid (HY.out _ (Below.refl _ _)).1
            have HKw : Hid (∀ wx, Below w5.heap.size w5 wx → Calls Try.prog 65 #[.slice (some ⟨bb,oo,none⟩) n c, .int .i64 (i : Int)] wx fun e w' => ∃ A3 c3, e = .returned (.slice A3 (n - 1) c3) ∧ Hid (Mine w5 w' 6 (.slice A3 (n - 1) c3) (n - 1) (ocells L3)) ∧ Hid (Below w5.heap.size w5 w') ∧ Hid (Below wx.heap.size wx w')) := Lib.hid fun wx hb => (HWj.out wx (below_next hbw.out hb)).mono fun e w' ⟨A3, c3, e1, e2, e3⟩ => ⟨A3, c3, e1, Lib.hid (e2.base hb.size), Lib.hid (below_next hb e3), Lib.hid e3⟩
            have HSa : Hid (∀ wQ5, Below (w5.alloc (.cells #[.int .i64 qi, .int .i64 qo, .int .i64 price, .int .i64 amount, .int .i64 nx, .bool qb] 33)).heap.size (w5.alloc (.cells #[.int .i64 qi, .int .i64 qo, .int .i64 price, .int .i64 amount, .int .i64 nx, .bool qb] 33)) wQ5 → Src Try.prog 6 22 (.slice (some ⟨w5.heap.size, 0, none⟩) 1 1) 1 (ocell ⟨qi, qo, price, amount, nx, qb⟩) wQ5) := Lib.hid fun wQ5 hb => by
              have hbQ5 : Blk wQ5 w5.heap.size 33 (ocell ⟨qi, qo, price, amount, nx, qb⟩).toArray := (Blk.new w5 33 (ocell ⟨qi, qo, price, amount, nx, qb⟩).toArray).below hb (Blk.new w5 33 (ocell ⟨qi, qo, price, amount, nx, qb⟩).toArray).lt
              refine Src.ofSlice _ Try.underlying22 ⟨w5.heap.size, 0, none⟩ 1 1 (ocell ⟨qi, qo, price, amount, nx, qb⟩) rfl (fun j u hu => ?_) (by simp [ocell, Value.oneCell'])
              rw [show (⟨w5.heap.size, 0, none⟩ : Addr).add j = ⟨w5.heap.size, j, none⟩ from by simp [Addr.add_lit], hbQ5.cell j, ← hu]
              simp
            have HSb : Hid (∀ wx : World, Src Try.prog 6 22 (.slice (some ⟨wx.heap.size, 0, none⟩) 1 1) 1 (ocell ⟨qi, qo, price, amount, nx, qb⟩) (wx.alloc (.cells (ocell ⟨qi, qo, price, amount, nx, qb⟩).toArray 33))) := Lib.hid fun wx => src_new Try.underlying22 wx _ _ 1 1 rfl (by simp [ocell, Value.oneCell'])
            obtain ⟨⟨⟨k0, k1, k2, k3, k4, k5⟩, y0, y1⟩, ⟨z0', z1'⟩, f0', f1'⟩ := HY.out w5 (Below.refl _ _)
            go_region_held3 (fun wx => ((wx.cell? ⟨go, 0, none⟩ = some (.int .i64 qi) ∧ wx.cell? ⟨go, 1, none⟩ = some (.int .i64 qo) ∧ wx.cell? ⟨go, 2, none⟩ = some (.int .i64 price) ∧ wx.cell? ⟨go, 3, none⟩ = some (.int .i64 amount) ∧ wx.cell? ⟨go, 4, none⟩ = some (.int .i64 nx) ∧ wx.cell? ⟨go, 5, none⟩ = some (.bool qb)) ∧ wx.cell? ⟨gb, 0, none⟩ = some (.slice (some ⟨bb,oo,none⟩) n c) ∧ wx.cell? ⟨gb, 1, none⟩ = some (.int .i64 nx)))
              (first
                | exact HS0.out
                | exact (HY.out _ (Below.refl _ _).drew).1
                | exact (HY.out _ ((Below.refl _ _).alloc (Nat.le_refl _) _)).1
                | exact (HY.out _ ((Below.refl _ _).alloc (Nat.le_refl _) _).drew).1
                | (with_reducible exact (HY.out _ hbQ4.out).1)
                | (with_reducible exact (HY.out _ (hbQ4.out.alloc hbQ4.out.size _)).1)
                | (with_reducible exact (HY.out _ hbQ5).1)
                | exact HS2.out _ _ _ _ rfl (HY.out _ hbQ5).1)
              (first
                | (go_at_call 65; first
                  | ((with_reducible refine (HKw.out w5.drew (Below.refl _ _).drew).mono ?_); rintro e wQ4 ⟨A3, c3, rfl, hmQ4, hbQ4, hbA⟩)
                  | ((with_reducible refine (HKw.out (w5.alloc _).drew ((Below.refl _ _).alloc (Nat.le_refl _) _).drew).mono ?_); rintro e wQ4 ⟨A3, c3, rfl, hmQ4, hbQ4, hbA⟩))
                | (refine step_append_mine rfl (.tmp 73) (.tmp 75) 22 22 rfl 33 j1 (.agg #[.int .i64 0, .int .i64 0, .int .i64 0, .int .i64 0, .int .i64 0, .bool false]) 48 Try.underlying22 HI1.out HY0.out HY1.out HY2.out rfl (by decide) rfl (hmQ4.out.alloc _) (hbQ4.out.alloc hbQ4.out.size _) _ 1 (ocell ⟨qi, qo, price, amount, nx, qb⟩) rfl (HSb.out wQ4) hA1.out hA2.out ?_; intro A5 c5' wQ5 hmQ5 hbQ5; obtain ⟨-, ⟨z0'', z1''⟩, f0'', f1''⟩ := HY.out _ hbQ5)
                | (refine step_append_mine rfl (.tmp 73) (.tmp 75) 22 22 rfl 33 j1 (.agg #[.int .i64 0, .int .i64 0, .int .i64 0, .int .i64 0, .int .i64 0, .bool false]) 48 Try.underlying22 HI1.out HY0.out HY1.out HY2.out rfl (by decide) rfl hmQ4.out hbQ4.out _ 1 (ocell ⟨qi, qo, price, amount, nx, qb⟩) rfl (HSa.out wQ4 (below_next (Below.refl _ _).drew hbA.out)) hA1.out hA2.out ?_; intro A5 c5' wQ5 hmQ5 hbQ5; obtain ⟨-, ⟨z0'', z1''⟩, f0'', f1''⟩ := HY.out _ hbQ5))
            all_goals
              go_wp2
              (try simp only [Exit.inBlock, Exit.then])
              refine bodyPost_ret (by simp [results, Try.results49, asAddr, go_sem, z0'', z1'']; rfl) rfl ?_
              exact rto_new (L := L3 ++ [(⟨qi, qo, price, amount, nx, qb⟩ : Ord)]) (gr := gb + 1) hbw.out (by rw [ocells_append]; exact hmQ5) hbQ5 hg3.out (by rw [List.length_append, hL3n.out]; rfl) hE3.out _ _
    · have hpB : (qp == price) = false := by simpa using fun e => hpq e.symm
      cases r with
      | false =>
        have hE3 := Lib.hid hE
        rw [if_pos (by simp)] at hE3
        clear hE hpq
        go_enter Try.func49, Try.ntmps49
        go_upto_region 1 with (fail)
        have hg : Hid (w.heap.size = gb) := hgb
        rw [hg.out] at B0 B1 ⊢
        generalize World.alloc (World.alloc w _) _ = wy at hb0 B0 B1 ⊢
        obtain ⟨x0, x1⟩ : wy.cell? ⟨gb, 0, none⟩ = some (.slice (some ⟨bb,oo,none⟩) n c) ∧ wy.cell? ⟨gb, 1, none⟩ = some (.int .i64 nx) := ⟨B0.out.cell 0, B0.out.cell 1⟩
        obtain ⟨z0, z1⟩ : wy.cell? ⟨gb + 1, 0, none⟩ = some (.slice none 0 0) ∧ wy.cell? ⟨gb + 1, 1, none⟩ = some (.int .i64 0) := ⟨B1.out.cell 0, B1.out.cell 1⟩
        obtain ⟨f0, f1⟩ : wy.frozen? ⟨gb + 1, 0, none⟩ = false ∧ wy.frozen? ⟨gb + 1, 1, none⟩ = false := ⟨B1.out.frozen 0, B1.out.frozen 1⟩
        have HX : Hid (∀ wx, Below wy.heap.size wy wx → (wx.cell? ⟨gb, 0, none⟩ = some (.slice (some ⟨bb,oo,none⟩) n c) ∧ wx.cell? ⟨gb, 1, none⟩ = some (.int .i64 nx)) ∧ (wx.cell? ⟨gb + 1, 0, none⟩ = some (.slice none 0 0) ∧ wx.cell? ⟨gb + 1, 1, none⟩ = some (.int .i64 0)) ∧ wx.frozen? ⟨gb + 1, 0, none⟩ = false ∧ wx.frozen? ⟨gb + 1, 1, none⟩ = false) := Lib.hid fun wx hb => by
          have b0 := B0.out.below hb B0.out.lt
          have b1 := B1.out.below hb B1.out.lt
          exact ⟨⟨b0.cell 0, b0.cell 1⟩, ⟨b1.cell 0, b1.cell 1⟩, b1.frozen 0, b1.frozen 1⟩
        have HGR : Hid (w.heap.size ≤ gb + 1 ∧ gb + 1 < wy.heap.size) := Lib.hid ⟨by rw [hg.out]; omega, B1.out.lt⟩
        go_upto_region 4 with (go_at_call 64; (with_reducible refine (HOw.out _ hb0.out).mono ?_); rintro e w1 ⟨rfl, hh⟩; have hb1 := Lib.hid hh; clear hh)
        clear x0 x1 z0 z1 f0 f1
        obtain ⟨⟨x0, x1⟩, -, -⟩ := HX.out w1 hb1.out
        obtain ⟨c0, c1', c2, c3, c4, c5⟩ := HC.out w1 (below_next hb0.out hb1.out)
        go_upto_region 5 with (fail)
        have hbx : Hid (Below wy.heap.size wy (w1.alloc (.cells #[.int .i64 qi, .int .i64 qo, .int .i64 qp, .int .i64 qa, .int .i64 qpl, .bool qb] 33))) := Lib.hid (hb1.out.alloc hb1.out.size _)
        have BX := Lib.hid (Blk.new w1 33 #[.int .i64 qi, .int .i64 qo, .int .i64 qp, .int .i64 qa, .int .i64 qpl, .bool qb])
        obtain ⟨go, hgo⟩ : ∃ go, Hid (w1.heap.size = go) := ⟨_, Lib.hid rfl⟩
        rw [hgo.out] at BX ⊢
        clear c0 c1' c2 c3 c4 c5 x0 x1
        generalize World.alloc w1 _ = w2 at hbx BX ⊢
        have hgoy : Hid (wy.heap.size ≤ go ∧ gb + 1 < go ∧ gb < go) := Lib.hid (by
          have h1 := hb1.out.size
          have h2 := HGR.out.2
          have h3 := hgo.out
          omega)
        obtain ⟨e0, e1, e2, e3, e4, e5⟩ : (w2.cell? ⟨go, 0, none⟩ = some (.int .i64 qi) ∧ w2.cell? ⟨go, 1, none⟩ = some (.int .i64 qo) ∧ w2.cell? ⟨go, 2, none⟩ = some (.int .i64 qp) ∧ w2.cell? ⟨go, 3, none⟩ = some (.int .i64 qa) ∧ w2.cell? ⟨go, 4, none⟩ = some (.int .i64 qpl) ∧ w2.cell? ⟨go, 5, none⟩ = some (.bool qb)) := ⟨BX.out.cell 0, BX.out.cell 1, BX.out.cell 2, BX.out.cell 3, BX.out.cell 4, BX.out.cell 5⟩
        have e2f : w2.frozen? ⟨go, 2, none⟩ = false := BX.out.frozen 2
        have e3f : w2.frozen? ⟨go, 3, none⟩ = false := BX.out.frozen 3
        go_upto_region 8 with (fail)
        obtain ⟨w3, hw3⟩ : ∃ w3, (w2.setCell ⟨go, 2, none⟩ (.int .i64 price)).setCell ⟨go, 3, none⟩ (.int .i64 amount) = w3 := ⟨_, rfl⟩
        have BO : Hid (Blk w3 go 33 #[.int .i64 qi, .int .i64 qo, .int .i64 price, .int .i64 amount, .int .i64 qpl, .bool qb]) := Lib.hid (by rw [← hw3]; exact blk_price BX.out _ _)
        have hb3 : Hid (Below wy.heap.size wy w3) := Lib.hid (by
          rw [← hw3]
          exact (hbx.out.setCell (p := ⟨go, 2, none⟩) hgoy.out.1 _).setCell (p := ⟨go, 3, none⟩) hgoy.out.1 _)
        rw [hw3]
        clear hw3 e0 e1 e2 e3 e4 e5 e2f e3f
        obtain ⟨e0, e1, e2, e3, e4, e5⟩ : w3.cell? ⟨go, 0, none⟩ = some (.int .i64 qi) ∧ w3.cell? ⟨go, 1, none⟩ = some (.int .i64 qo) ∧ w3.cell? ⟨go, 2, none⟩ = some (.int .i64 price) ∧ w3.cell? ⟨go, 3, none⟩ = some (.int .i64 amount) ∧ w3.cell? ⟨go, 4, none⟩ = some (.int .i64 qpl) ∧ w3.cell? ⟨go, 5, none⟩ = some (.bool qb) := ⟨BO.out.cell 0, BO.out.cell 1, BO.out.cell 2, BO.out.cell 3, BO.out.cell 4, BO.out.cell 5⟩
        go_wp2_with
          (go_at_call 37; (with_reducible refine (HR.out _).mono ?_); rintro e w4 ⟨rfl, hh⟩; have hh4 := Lib.hid hh; have hb4 := Lib.hid (below_next hb3.out hh); clear hh; obtain ⟨⟨y0, y1⟩, ⟨z0', z1'⟩, f0', f1'⟩ := HX.out w4 hb4.out)
        (try simp only [Exit.inBlock, Exit.then])
        refine bodyPost_ret (by simp [results, Try.results49, asAddr, go_sem, z0', z1']; rfl) rfl ?_
        exact rto_same (below_next hb0.out hb4.out) HGR.out.1 hn.out hnx.out hE3.out _ _
      | true =>
        rw [if_neg (by simp), if_neg (fun hh => hpq hh.1)] at hE
        clear hpq
        by_cases hfull : 9007199254740992 ≤ nx
        · have hE3 := Lib.hid hE
          rw [if_pos hfull] at hE3
          clear hE
          go_enter Try.func49, Try.ntmps49
          go_upto_region 1 with (fail)
          have hg : Hid (w.heap.size = gb) := hgb
          rw [hg.out] at B0 B1 ⊢
          generalize World.alloc (World.alloc w _) _ = wy at hb0 B0 B1 ⊢
          obtain ⟨x0, x1⟩ : wy.cell? ⟨gb, 0, none⟩ = some (.slice (some ⟨bb,oo,none⟩) n c) ∧ wy.cell? ⟨gb, 1, none⟩ = some (.int .i64 nx) := ⟨B0.out.cell 0, B0.out.cell 1⟩
          obtain ⟨z0, z1⟩ : wy.cell? ⟨gb + 1, 0, none⟩ = some (.slice none 0 0) ∧ wy.cell? ⟨gb + 1, 1, none⟩ = some (.int .i64 0) := ⟨B1.out.cell 0, B1.out.cell 1⟩
          obtain ⟨f0, f1⟩ : wy.frozen? ⟨gb + 1, 0, none⟩ = false ∧ wy.frozen? ⟨gb + 1, 1, none⟩ = false := ⟨B1.out.frozen 0, B1.out.frozen 1⟩
          have HX : Hid (∀ wx, Below wy.heap.size wy wx → (wx.cell? ⟨gb, 0, none⟩ = some (.slice (some ⟨bb,oo,none⟩) n c) ∧ wx.cell? ⟨gb, 1, none⟩ = some (.int .i64 nx)) ∧ (wx.cell? ⟨gb + 1, 0, none⟩ = some (.slice none 0 0) ∧ wx.cell? ⟨gb + 1, 1, none⟩ = some (.int .i64 0)) ∧ wx.frozen? ⟨gb + 1, 0, none⟩ = false ∧ wx.frozen? ⟨gb + 1, 1, none⟩ = false) := Lib.hid fun wx hb => by
            have b0 := B0.out.below hb B0.out.lt
            have b1 := B1.out.below hb B1.out.lt
            exact ⟨⟨b0.cell 0, b0.cell 1⟩, ⟨b1.cell 0, b1.cell 1⟩, b1.frozen 0, b1.frozen 1⟩
          have HGR : Hid (w.heap.size ≤ gb + 1 ∧ gb + 1 < wy.heap.size) := Lib.hid ⟨by rw [hg.out]; omega, B1.out.lt⟩
          go_upto_region 4 with (go_at_call 64; (with_reducible refine (HOw.out _ hb0.out).mono ?_); rintro e w1 ⟨rfl, hh⟩; have hb1 := Lib.hid hh; clear hh)
          clear x0 x1 z0 z1 f0 f1
          obtain ⟨⟨x0, x1⟩, -, -⟩ := HX.out w1 hb1.out
          obtain ⟨c0, c1', c2, c3, c4, c5⟩ := HC.out w1 (below_next hb0.out hb1.out)
          go_upto_region 5 with (fail)
          have hbx : Hid (Below wy.heap.size wy (w1.alloc (.cells #[.int .i64 qi, .int .i64 qo, .int .i64 qp, .int .i64 qa, .int .i64 qpl, .bool qb] 33))) := Lib.hid (hb1.out.alloc hb1.out.size _)
          have BX := Lib.hid (Blk.new w1 33 #[.int .i64 qi, .int .i64 qo, .int .i64 qp, .int .i64 qa, .int .i64 qpl, .bool qb])
          obtain ⟨go, hgo⟩ : ∃ go, Hid (w1.heap.size = go) := ⟨_, Lib.hid rfl⟩
          rw [hgo.out] at BX ⊢
          clear c0 c1' c2 c3 c4 c5 x0 x1
          generalize World.alloc w1 _ = w2 at hbx BX ⊢
          have hgoy : Hid (wy.heap.size ≤ go ∧ gb + 1 < go ∧ gb < go) := Lib.hid (by
            have h1 := hb1.out.size
            have h2 := HGR.out.2
            have h3 := hgo.out
            omega)
          obtain ⟨e0, e1, e2, e3, e4, e5⟩ : (w2.cell? ⟨go, 0, none⟩ = some (.int .i64 qi) ∧ w2.cell? ⟨go, 1, none⟩ = some (.int .i64 qo) ∧ w2.cell? ⟨go, 2, none⟩ = some (.int .i64 qp) ∧ w2.cell? ⟨go, 3, none⟩ = some (.int .i64 qa) ∧ w2.cell? ⟨go, 4, none⟩ = some (.int .i64 qpl) ∧ w2.cell? ⟨go, 5, none⟩ = some (.bool qb)) := ⟨BX.out.cell 0, BX.out.cell 1, BX.out.cell 2, BX.out.cell 3, BX.out.cell 4, BX.out.cell 5⟩
          have e2f : w2.frozen? ⟨go, 2, none⟩ = false := BX.out.frozen 2
          have e3f : w2.frozen? ⟨go, 3, none⟩ = false := BX.out.frozen 3
          go_upto_region 8 with (fail)
          obtain ⟨w3, hw3⟩ : ∃ w3, (w2.setCell ⟨go, 2, none⟩ (.int .i64 price)).setCell ⟨go, 3, none⟩ (.int .i64 amount) = w3 := ⟨_, rfl⟩
          have BO : Hid (Blk w3 go 33 #[.int .i64 qi, .int .i64 qo, .int .i64 price, .int .i64 amount, .int .i64 qpl, .bool qb]) := Lib.hid (by rw [← hw3]; exact blk_price BX.out _ _)
          have hb3 : Hid (Below wy.heap.size wy w3) := Lib.hid (by
            rw [← hw3]
            exact (hbx.out.setCell (p := ⟨go, 2, none⟩) hgoy.out.1 _).setCell (p := ⟨go, 3, none⟩) hgoy.out.1 _)
          rw [hw3]
          clear hw3 e0 e1 e2 e3 e4 e5 e2f e3f
          obtain ⟨e0, e1, e2, e3, e4, e5⟩ : w3.cell? ⟨go, 0, none⟩ = some (.int .i64 qi) ∧ w3.cell? ⟨go, 1, none⟩ = some (.int .i64 qo) ∧ w3.cell? ⟨go, 2, none⟩ = some (.int .i64 price) ∧ w3.cell? ⟨go, 3, none⟩ = some (.int .i64 amount) ∧ w3.cell? ⟨go, 4, none⟩ = some (.int .i64 qpl) ∧ w3.cell? ⟨go, 5, none⟩ = some (.bool qb) := ⟨BO.out.cell 0, BO.out.cell 1, BO.out.cell 2, BO.out.cell 3, BO.out.cell 4, BO.out.cell 5⟩
          go_wp2_with
            (go_at_call 37; (with_reducible refine (HR.out _).mono ?_); rintro e w4 ⟨rfl, hh⟩; have hh4 := Lib.hid hh; have hb4 := Lib.hid (below_next hb3.out hh); clear hh; obtain ⟨⟨y0, y1⟩, ⟨z0', z1'⟩, f0', f1'⟩ := HX.out w4 hb4.out)
          (try simp only [Exit.inBlock, Exit.then])
          refine bodyPost_ret (by simp [results, Try.results49, asAddr, go_sem, z0', z1']; rfl) rfl ?_
          exact rto_same (below_next hb0.out hb4.out) HGR.out.1 hn.out hnx.out hE3.out _ _
        · have hE3 := Lib.hid hE
          rw [if_neg hfull] at hE3
          clear hE
          have HWj : Hid (∀ wx, Below w.heap.size w wx → Calls Try.prog 65 #[.slice (some ⟨bb,oo,none⟩) n c, .int .i64 (i : Int)] wx fun e w' => ∃ A3 c3, e = .returned (.slice A3 (n - 1) c3) ∧ Mine wx w' 6 (.slice A3 (n - 1) c3) (n - 1) (ocells (b.l.eraseIdx i)) ∧ Below wx.heap.size wx w') := Lib.hid fun wx hb => by
            have := HWi.out wx hb i
            rwa [List.length_eraseIdx_of_lt hL.out, hn.out] at this
          have hL3n' : Hid ((b.l.eraseIdx i).length = n - 1) := Lib.hid (by rw [List.length_eraseIdx_of_lt hL.out, hn.out])
          obtain ⟨L3, hL3⟩ : ∃ L3, Hid (b.l.eraseIdx i = L3) := ⟨_, Lib.hid rfl⟩
          have hL3n : Hid (L3.length = n - 1) := Lib.hid (by rw [← hL3.out]; exact hL3n'.out)
          rw [hL3.out] at HWj hE3
          have qn : IntKind.i64.wrap (nx + 1) = nx + 1 := by rw [IntKind.wrap_i64]; omega
          obtain ⟨j1, hj1, hy0, hy1, hy2⟩ := info_parts info_order
          have HI1 := Lib.hid hj1
          have HY0 := Lib.hid hy0
          have HY1 := Lib.hid hy1
          have HY2 := Lib.hid hy2
          have hA1 : Hid (n - 1 + 1 ≤ maxLen) := Lib.hid (by unfold maxLen; omega)
          have hA2 : Hid ((n - 1 + 1) * 48 ≤ 140737488355328) := Lib.hid (by omega)
          clear hj1 hy0 hy1 hy2
          go_enter Try.func49, Try.ntmps49
          go_upto_region 1 with (fail)
          have hg : Hid (w.heap.size = gb) := hgb
          rw [hg.out] at B0 B1 ⊢
          generalize World.alloc (World.alloc w _) _ = wy at hb0 B0 B1 ⊢
          obtain ⟨x0, x1⟩ : wy.cell? ⟨gb, 0, none⟩ = some (.slice (some ⟨bb,oo,none⟩) n c) ∧ wy.cell? ⟨gb, 1, none⟩ = some (.int .i64 nx) := ⟨B0.out.cell 0, B0.out.cell 1⟩
          obtain ⟨z0, z1⟩ : wy.cell? ⟨gb + 1, 0, none⟩ = some (.slice none 0 0) ∧ wy.cell? ⟨gb + 1, 1, none⟩ = some (.int .i64 0) := ⟨B1.out.cell 0, B1.out.cell 1⟩
          obtain ⟨f0, f1⟩ : wy.frozen? ⟨gb + 1, 0, none⟩ = false ∧ wy.frozen? ⟨gb + 1, 1, none⟩ = false := ⟨B1.out.frozen 0, B1.out.frozen 1⟩
          have HX : Hid (∀ wx, Below wy.heap.size wy wx → (wx.cell? ⟨gb, 0, none⟩ = some (.slice (some ⟨bb,oo,none⟩) n c) ∧ wx.cell? ⟨gb, 1, none⟩ = some (.int .i64 nx)) ∧ (wx.cell? ⟨gb + 1, 0, none⟩ = some (.slice none 0 0) ∧ wx.cell? ⟨gb + 1, 1, none⟩ = some (.int .i64 0)) ∧ wx.frozen? ⟨gb + 1, 0, none⟩ = false ∧ wx.frozen? ⟨gb + 1, 1, none⟩ = false) := Lib.hid fun wx hb => by
            have b0 := B0.out.below hb B0.out.lt
            have b1 := B1.out.below hb B1.out.lt
            exact ⟨⟨b0.cell 0, b0.cell 1⟩, ⟨b1.cell 0, b1.cell 1⟩, b1.frozen 0, b1.frozen 1⟩
          have HGR : Hid (w.heap.size ≤ gb + 1 ∧ gb + 1 < wy.heap.size) := Lib.hid ⟨by rw [hg.out]; omega, B1.out.lt⟩
          go_upto_region 4 with (go_at_call 64; (with_reducible refine (HOw.out _ hb0.out).mono ?_); rintro e w1 ⟨rfl, hh⟩; have hb1 := Lib.hid hh; clear hh)
          clear x0 x1 z0 z1 f0 f1
          obtain ⟨⟨x0, x1⟩, -, -⟩ := HX.out w1 hb1.out
          obtain ⟨c0, c1', c2, c3, c4, c5⟩ := HC.out w1 (below_next hb0.out hb1.out)
          go_upto_region 5 with (fail)
          have hbx : Hid (Below wy.heap.size wy (w1.alloc (.cells #[.int .i64 qi, .int .i64 qo, .int .i64 qp, .int .i64 qa, .int .i64 qpl, .bool qb] 33))) := Lib.hid (hb1.out.alloc hb1.out.size _)
          have BX := Lib.hid (Blk.new w1 33 #[.int .i64 qi, .int .i64 qo, .int .i64 qp, .int .i64 qa, .int .i64 qpl, .bool qb])
          obtain ⟨go, hgo⟩ : ∃ go, Hid (w1.heap.size = go) := ⟨_, Lib.hid rfl⟩
          rw [hgo.out] at BX ⊢
          clear c0 c1' c2 c3 c4 c5 x0 x1
          generalize World.alloc w1 _ = w2 at hbx BX ⊢
          have hgoy : Hid (wy.heap.size ≤ go ∧ gb + 1 < go ∧ gb < go) := Lib.hid (by
            have h1 := hb1.out.size
            have h2 := HGR.out.2
            have h3 := hgo.out
            omega)
          obtain ⟨e0, e1, e2, e3, e4, e5⟩ : (w2.cell? ⟨go, 0, none⟩ = some (.int .i64 qi) ∧ w2.cell? ⟨go, 1, none⟩ = some (.int .i64 qo) ∧ w2.cell? ⟨go, 2, none⟩ = some (.int .i64 qp) ∧ w2.cell? ⟨go, 3, none⟩ = some (.int .i64 qa) ∧ w2.cell? ⟨go, 4, none⟩ = some (.int .i64 qpl) ∧ w2.cell? ⟨go, 5, none⟩ = some (.bool qb)) := ⟨BX.out.cell 0, BX.out.cell 1, BX.out.cell 2, BX.out.cell 3, BX.out.cell 4, BX.out.cell 5⟩
          have e2f : w2.frozen? ⟨go, 2, none⟩ = false := BX.out.frozen 2
          have e3f : w2.frozen? ⟨go, 3, none⟩ = false := BX.out.frozen 3
          go_upto_region 8 with (fail)
          obtain ⟨w3, hw3⟩ : ∃ w3, (w2.setCell ⟨go, 2, none⟩ (.int .i64 price)).setCell ⟨go, 3, none⟩ (.int .i64 amount) = w3 := ⟨_, rfl⟩
          have BO : Hid (Blk w3 go 33 #[.int .i64 qi, .int .i64 qo, .int .i64 price, .int .i64 amount, .int .i64 qpl, .bool qb]) := Lib.hid (by rw [← hw3]; exact blk_price BX.out _ _)
          have hb3 : Hid (Below wy.heap.size wy w3) := Lib.hid (by
            rw [← hw3]
            exact (hbx.out.setCell (p := ⟨go, 2, none⟩) hgoy.out.1 _).setCell (p := ⟨go, 3, none⟩) hgoy.out.1 _)
          rw [hw3]
          clear hw3 e0 e1 e2 e3 e4 e5 e2f e3f
          obtain ⟨e0, e1, e2, e3, e4, e5⟩ : w3.cell? ⟨go, 0, none⟩ = some (.int .i64 qi) ∧ w3.cell? ⟨go, 1, none⟩ = some (.int .i64 qo) ∧ w3.cell? ⟨go, 2, none⟩ = some (.int .i64 price) ∧ w3.cell? ⟨go, 3, none⟩ = some (.int .i64 amount) ∧ w3.cell? ⟨go, 4, none⟩ = some (.int .i64 qpl) ∧ w3.cell? ⟨go, 5, none⟩ = some (.bool qb) := ⟨BO.out.cell 0, BO.out.cell 1, BO.out.cell 2, BO.out.cell 3, BO.out.cell 4, BO.out.cell 5⟩
          go_upto_region 16 with
            (go_at_call 37; (with_reducible refine (HR.out _).mono ?_); rintro e w4 ⟨rfl, hh⟩; have hh4 := Lib.hid hh; have hb4 := Lib.hid (below_next hb3.out hh); clear hh; obtain ⟨⟨y0, y1⟩, ⟨z0', z1'⟩, f0', f1'⟩ := HX.out w4 hb4.out)
          have BO4 := Lib.hid (BO.out.below hh4.out BO.out.lt)
          clear e0 e1 e2 e3 e4 e5 f0' f1' z0' z1'
          have e4 : w4.cell? ⟨go, 4, none⟩ = some (.int .i64 qpl) := BO4.out.cell 4
          have e4f : w4.frozen? ⟨go, 4, none⟩ = false := BO4.out.frozen 4
          go_upto_region 17 with (fail)
          obtain ⟨w5, hw5⟩ : ∃ w5, w4.setCell ⟨go, 4, none⟩ (.int .i64 nx) = w5 := ⟨_, rfl⟩
          have D1 : Hid (Blk w5 go 33 #[.int .i64 qi, .int .i64 qo, .int .i64 price, .int .i64 amount, .int .i64 nx, .bool qb]) := Lib.hid (by rw [← hw5]; exact blk_place BO4.out _)
          have hby5 : Hid (Below wy.heap.size wy w5) := Lib.hid (by rw [← hw5]; exact hb4.out.setCell (p := ⟨go, 4, none⟩) hgoy.out.1 _)
          have hbw : Hid (Below w.heap.size w w5) := Lib.hid (below_next hb0.out hby5.out)
          rw [hw5]
          clear hw5 e4 e4f y0 y1
          have HY : Hid (∀ wx, Below w5.heap.size w5 wx → ((wx.cell? ⟨go, 0, none⟩ = some (.int .i64 qi) ∧ wx.cell? ⟨go, 1, none⟩ = some (.int .i64 qo) ∧ wx.cell? ⟨go, 2, none⟩ = some (.int .i64 price) ∧ wx.cell? ⟨go, 3, none⟩ = some (.int .i64 amount) ∧ wx.cell? ⟨go, 4, none⟩ = some (.int .i64 nx) ∧ wx.cell? ⟨go, 5, none⟩ = some (.bool qb)) ∧ wx.cell? ⟨gb, 0, none⟩ = some (.slice (some ⟨bb,oo,none⟩) n c) ∧ wx.cell? ⟨gb, 1, none⟩ = some (.int .i64 nx)) ∧ ((wx.cell? ⟨gb + 1, 0, none⟩ = some (.slice none 0 0) ∧ wx.cell? ⟨gb + 1, 1, none⟩ = some (.int .i64 0)) ∧ wx.frozen? ⟨gb + 1, 0, none⟩ = false ∧ wx.frozen? ⟨gb + 1, 1, none⟩ = false)) := Lib.hid fun wx hb => by
            obtain ⟨a1, a2, a3, a4⟩ := HX.out wx (below_next hby5.out hb)
            have b1 := D1.out.below hb D1.out.lt
            exact ⟨⟨⟨b1.cell 0, b1.cell 1, b1.cell 2, b1.cell 3, b1.cell 4, b1.cell 5⟩, a1.1, a1.2⟩, a2, a3, a4⟩
          have hgo1 : Hid (go ≠ gb + 1) := Lib.hid (by have := hgoy.out; omega)
          have HS2 : Hid (∀ (wx : World) (v0 v1 : Value) (wz : World), wz = ((wx.setCell ⟨gb + 1, 0, none⟩ v0).setCell ⟨gb + 1, 1, none⟩ v1) → ((wx.cell? ⟨go, 0, none⟩ = some (.int .i64 qi) ∧ wx.cell? ⟨go, 1, none⟩ = some (.int .i64 qo) ∧ wx.cell? ⟨go, 2, none⟩ = some (.int .i64 price) ∧ wx.cell? ⟨go, 3, none⟩ = some (.int .i64 amount) ∧ wx.cell? ⟨go, 4, none⟩ = some (.int .i64 nx) ∧ wx.cell? ⟨go, 5, none⟩ = some (.bool qb)) ∧ wx.cell? ⟨gb, 0, none⟩ = some (.slice (some ⟨bb,oo,none⟩) n c) ∧ wx.cell? ⟨gb, 1, none⟩ = some (.int .i64 nx)) → ((wz.cell? ⟨go, 0, none⟩ = some (.int .i64 qi) ∧ wz.cell? ⟨go, 1, none⟩ = some (.int .i64 qo) ∧ wz.cell? ⟨go, 2, none⟩ = some (.int .i64 price) ∧ wz.cell? ⟨go, 3, none⟩ = some (.int .i64 amount) ∧ wz.cell? ⟨go, 4, none⟩ = some (.int .i64 nx) ∧ wz.cell? ⟨go, 5, none⟩ = some (.bool qb)) ∧ wz.cell? ⟨gb, 0, none⟩ = some (.slice (some ⟨bb,oo,none⟩) n c) ∧ wz.cell? ⟨gb, 1, none⟩ = some (.int .i64 nx))) := Lib.hid fun wx v0 v1 wz hwz ⟨⟨q0, q1, q2, q3, q4, q5⟩, r0, r1⟩ => by
            subst hwz
            exact ⟨⟨far2 q0 hgo1.out _ _, far2 q1 hgo1.out _ _, far2 q2 hgo1.out _ _, far2 q3 hgo1.out _ _, far2 q4 hgo1.out _ _, far2 q5 hgo1.out _ _⟩, far2 r0 (by omega) _ _, far2 r1 (by omega) _ _⟩
          have hg3 : Hid (w.heap.size ≤ gb + 1 ∧ gb + 1 < w5.heap.size) := Lib.hid ⟨HGR.out.1, Nat.lt_of_lt_of_le HGR.out.2 hby5.out.size⟩
          have HS0 : Hid ((w5.cell? ⟨go, 0, none⟩ = some (.int .i64 qi) ∧ w5.cell? ⟨go, 1, none⟩ = some (.int .i64 qo) ∧ w5.cell? ⟨go, 2, none⟩ = some (.int .i64 price) ∧ w5.cell? ⟨go, 3, none⟩ = some (.int .i64 amount) ∧ w5.cell? ⟨go, 4, none⟩ = some (.int .i64 nx) ∧ w5.cell? ⟨go, 5, none⟩ = some (.bool qb)) ∧ w5.cell? ⟨gb, 0, none⟩ = some (.slice (some ⟨bb,oo,none⟩) n c) ∧ w5.cell? ⟨gb, 1, none⟩ = some (.int .i64 nx)) := Lib.hid (HY.out _ (Below.refl _ _)).1
          have HKw : Hid (∀ wx, Below w5.heap.size w5 wx → Calls Try.prog 65 #[.slice (some ⟨bb,oo,none⟩) n c, .int .i64 (i : Int)] wx fun e w' => ∃ A3 c3, e = .returned (.slice A3 (n - 1) c3) ∧ Hid (Mine w5 w' 6 (.slice A3 (n - 1) c3) (n - 1) (ocells L3)) ∧ Hid (Below w5.heap.size w5 w') ∧ Hid (Below wx.heap.size wx w')) := Lib.hid fun wx hb => (HWj.out wx (below_next hbw.out hb)).mono fun e w' ⟨A3, c3, e1, e2, e3⟩ => ⟨A3, c3, e1, Lib.hid (e2.base hb.size), Lib.hid (below_next hb e3), Lib.hid e3⟩
          have HSa : Hid (∀ wQ5, Below (w5.alloc (.cells #[.int .i64 qi, .int .i64 qo, .int .i64 price, .int .i64 amount, .int .i64 nx, .bool qb] 33)).heap.size (w5.alloc (.cells #[.int .i64 qi, .int .i64 qo, .int .i64 price, .int .i64 amount, .int .i64 nx, .bool qb] 33)) wQ5 → Src Try.prog 6 22 (.slice (some ⟨w5.heap.size, 0, none⟩) 1 1) 1 (ocell ⟨qi, qo, price, amount, nx, qb⟩) wQ5) := Lib.hid fun wQ5 hb => by
            have hbQ5 : Blk wQ5 w5.heap.size 33 (ocell ⟨qi, qo, price, amount, nx, qb⟩).toArray := (Blk.new w5 33 (ocell ⟨qi, qo, price, amount, nx, qb⟩).toArray).below hb (Blk.new w5 33 (ocell ⟨qi, qo, price, amount, nx, qb⟩).toArray).lt
            refine Src.ofSlice _ Try.underlying22 ⟨w5.heap.size, 0, none⟩ 1 1 (ocell ⟨qi, qo, price, amount, nx, qb⟩) rfl (fun j u hu => ?_) (by simp [ocell, Value.oneCell'])
            rw [show (⟨w5.heap.size, 0, none⟩ : Addr).add j = ⟨w5.heap.size, j, none⟩ from by simp [Addr.add_lit], hbQ5.cell j, ← hu]
            simp
          have HSb : Hid (∀ wx : World, Src Try.prog 6 22 (.slice (some ⟨wx.heap.size, 0, none⟩) 1 1) 1 (ocell ⟨qi, qo, price, amount, nx, qb⟩) (wx.alloc (.cells (ocell ⟨qi, qo, price, amount, nx, qb⟩).toArray 33))) := Lib.hid fun wx => src_new Try.underlying22 wx _ _ 1 1 rfl (by simp [ocell, Value.oneCell'])
          obtain ⟨⟨⟨k0, k1, k2, k3, k4, k5⟩, y0, y1⟩, ⟨z0', z1'⟩, f0', f1'⟩ := HY.out w5 (Below.refl _ _)
          go_region_held3 (fun wx => ((wx.cell? ⟨go, 0, none⟩ = some (.int .i64 qi) ∧ wx.cell? ⟨go, 1, none⟩ = some (.int .i64 qo) ∧ wx.cell? ⟨go, 2, none⟩ = some (.int .i64 price) ∧ wx.cell? ⟨go, 3, none⟩ = some (.int .i64 amount) ∧ wx.cell? ⟨go, 4, none⟩ = some (.int .i64 nx) ∧ wx.cell? ⟨go, 5, none⟩ = some (.bool qb)) ∧ wx.cell? ⟨gb, 0, none⟩ = some (.slice (some ⟨bb,oo,none⟩) n c) ∧ wx.cell? ⟨gb, 1, none⟩ = some (.int .i64 nx)))
            (first
              | exact HS0.out
              | exact (HY.out _ (Below.refl _ _).drew).1
              | exact (HY.out _ ((Below.refl _ _).alloc (Nat.le_refl _) _)).1
              | exact (HY.out _ ((Below.refl _ _).alloc (Nat.le_refl _) _).drew).1
              | (with_reducible exact (HY.out _ hbQ4.out).1)
              | (with_reducible exact (HY.out _ (hbQ4.out.alloc hbQ4.out.size _)).1)
              | (with_reducible exact (HY.out _ hbQ5).1)
              | exact HS2.out _ _ _ _ rfl (HY.out _ hbQ5).1)
            (first
              | (go_at_call 65; first
                | ((with_reducible refine (HKw.out w5.drew (Below.refl _ _).drew).mono ?_); rintro e wQ4 ⟨A3, c3, rfl, hmQ4, hbQ4, hbA⟩)
                | ((with_reducible refine (HKw.out (w5.alloc _).drew ((Below.refl _ _).alloc (Nat.le_refl _) _).drew).mono ?_); rintro e wQ4 ⟨A3, c3, rfl, hmQ4, hbQ4, hbA⟩))
              | (refine step_append_mine rfl (.tmp 73) (.tmp 75) 22 22 rfl 33 j1 (.agg #[.int .i64 0, .int .i64 0, .int .i64 0, .int .i64 0, .int .i64 0, .bool false]) 48 Try.underlying22 HI1.out HY0.out HY1.out HY2.out rfl (by decide) rfl (hmQ4.out.alloc _) (hbQ4.out.alloc hbQ4.out.size _) _ 1 (ocell ⟨qi, qo, price, amount, nx, qb⟩) rfl (HSb.out wQ4) hA1.out hA2.out ?_; intro A5 c5' wQ5 hmQ5 hbQ5; obtain ⟨-, ⟨z0'', z1''⟩, f0'', f1''⟩ := HY.out _ hbQ5)
              | (refine step_append_mine rfl (.tmp 73) (.tmp 75) 22 22 rfl 33 j1 (.agg #[.int .i64 0, .int .i64 0, .int .i64 0, .int .i64 0, .int .i64 0, .bool false]) 48 Try.underlying22 HI1.out HY0.out HY1.out HY2.out rfl (by decide) rfl hmQ4.out hbQ4.out _ 1 (ocell ⟨qi, qo, price, amount, nx, qb⟩) rfl (HSa.out wQ4 (below_next (Below.refl _ _).drew hbA.out)) hA1.out hA2.out ?_; intro A5 c5' wQ5 hmQ5 hbQ5; obtain ⟨-, ⟨z0'', z1''⟩, f0'', f1''⟩ := HY.out _ hbQ5))
          all_goals
            go_wp2
            (try simp only [Exit.inBlock, Exit.then])
            refine bodyPost_ret (by simp [results, Try.results49, asAddr, go_sem, z0'', z1'']; rfl) rfl ?_
            exact rto_new (L := L3 ++ [(⟨qi, qo, price, amount, nx, qb⟩ : Ord)]) (gr := gb + 1) hbw.out (by rw [ocells_append]; exact hmQ5) hbQ5 hg3.out (by rw [List.length_append, hL3n.out]; rfl) hE3.out _ _
  · have hE : Hid (R = (b, (b.mine id owner).2)) := Lib.hid (by rw [← hR.out]; unfold Bk.amend; rw [if_pos hm])
    rw [hR.out]
    unfold rval at HOw ⊢
    rw [hn.out, hnx.out] at HOw ⊢
    have hmne : ((b.mine id owner).2 != 0) = true := by simpa using hm
    obtain ⟨T, hT⟩ : ∃ T, Hid (b.mine id owner = T) := ⟨_, Lib.hid rfl⟩
    rw [hT.out] at HOw hE hmne
    obtain ⟨T1, T2⟩ := T
    simp only at HOw hE hmne
    clear hm hz
    go_enter Try.func49, Try.ntmps49
    go_upto_region 1 with (fail)
    have hg : Hid (w.heap.size = gb) := hgb
    rw [hg.out] at B0 B1 ⊢
    generalize World.alloc (World.alloc w _) _ = wy at hb0 B0 B1 ⊢
    obtain ⟨x0, x1⟩ : wy.cell? ⟨gb, 0, none⟩ = some (.slice A n c) ∧ wy.cell? ⟨gb, 1, none⟩ = some (.int .i64 nx) := ⟨B0.out.cell 0, B0.out.cell 1⟩
    obtain ⟨z0, z1⟩ : wy.cell? ⟨gb + 1, 0, none⟩ = some (.slice none 0 0) ∧ wy.cell? ⟨gb + 1, 1, none⟩ = some (.int .i64 0) := ⟨B1.out.cell 0, B1.out.cell 1⟩
    obtain ⟨f0, f1⟩ : wy.frozen? ⟨gb + 1, 0, none⟩ = false ∧ wy.frozen? ⟨gb + 1, 1, none⟩ = false := ⟨B1.out.frozen 0, B1.out.frozen 1⟩
    have HX : Hid (∀ wx, Below wy.heap.size wy wx → (wx.cell? ⟨gb, 0, none⟩ = some (.slice A n c) ∧ wx.cell? ⟨gb, 1, none⟩ = some (.int .i64 nx)) ∧ (wx.cell? ⟨gb + 1, 0, none⟩ = some (.slice none 0 0) ∧ wx.cell? ⟨gb + 1, 1, none⟩ = some (.int .i64 0)) ∧ wx.frozen? ⟨gb + 1, 0, none⟩ = false ∧ wx.frozen? ⟨gb + 1, 1, none⟩ = false) := Lib.hid fun wx hb => by
      have b0 := B0.out.below hb B0.out.lt
      have b1 := B1.out.below hb B1.out.lt
      exact ⟨⟨b0.cell 0, b0.cell 1⟩, ⟨b1.cell 0, b1.cell 1⟩, b1.frozen 0, b1.frozen 1⟩
    have HGR : Hid (w.heap.size ≤ gb + 1 ∧ gb + 1 < wy.heap.size) := Lib.hid ⟨by rw [hg.out]; omega, B1.out.lt⟩
    go_wp2_with (go_at_call 64; (with_reducible refine (HOw.out _ hb0.out).mono ?_); rintro e w1 ⟨rfl, hh⟩; have hb1 := Lib.hid hh; clear hh; obtain ⟨⟨y0, y1⟩, ⟨z0', z1'⟩, f0', f1'⟩ := HX.out w1 hb1.out)
    (try simp only [Exit.inBlock, Exit.then])
    refine bodyPost_ret (by simp [results, Try.results49, asAddr, go_sem, z0', z1']; rfl) rfl ?_
    exact rto_same (below_next hb0.out hb1.out) HGR.out.1 hn.out hnx.out hE.out _ _
end Go.Proofs.Ytilbhnloelgpdaa
