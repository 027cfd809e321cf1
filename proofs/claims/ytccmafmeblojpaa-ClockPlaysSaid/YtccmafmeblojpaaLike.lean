/- The walk of like. -/
import Derived.Test.YtccmafmeblojpaaLk
namespace Go.Proofs.Ytccmafmeblojpaa
open Go.RowKit
set_option linter.unusedVariables false
set_option linter.unusedSimpArgs false
theorem sale_len (a : Auc) : a.sale.2.1.length ≤ a.l.length := by
  unfold Auc.sale
  split
  · exact Nat.zero_le _
  split
  · simp
  split
  · rw [show (a.price, a.nowl, (0 : Int)).2.1 = a.nowl from rfl, Auc.nowl_length]; exact Nat.le_refl _
  · show (List.zipWith _ _ _).length ≤ _
    rw [List.length_zipWith, Auc.nowl_length]; exact Nat.min_le_left _ _
set_option maxHeartbeats 16000000 in
set_option maxRecDepth 100000 in
theorem like_calls (w : World) (g gl : Nat) (a : Auc) (A : Option Addr) (XS : List (Option Addr × Nat)) (n c : Nat) (hA : AtA w g gl a) (hB : Beside a n) (hn : XS.length = n) (hcn : n ≤ c) (h : RA A XS a w) :
    Calls Try.prog 31 #[.pointer (some ⟨g, 0, none⟩), rval a A n c] w fun e w' => e = .returned (.bool true) ∧ Below w.heap.size w w' := by
  have HA := Lib.hid (fun wx (hb : Below w.heap.size w wx) => hA.below hb)
  have HR := Lib.hid (fun wx (hb : Below w.heap.size w wx) => h.below hb)
  have hp := hB.pos
  have hfw := hB.few
  have HB := Lib.hid hB
  have HN := Lib.hid hn
  have hsll := sale_len a
  have hm16 := hB.ok.len.2
  have hm1 := hB.ok.len.1
  have KSale := Lib.hid (fun wx (hb : Below w.heap.size w wx) => sale_calls wx g gl a (hA.below hb) hB.fair)
  have KRSale := Lib.hid (fun wx (hb : Below w.heap.size w wx) => rsale_calls wx a A XS n c hB hn hcn (h.below hb))
  have KDem := Lib.hid (fun wx (hb : Below w.heap.size w wx) => demand_calls wx g gl a (hA.below hb))
  have KNow := Lib.hid (fun wx (hb : Below w.heap.size w wx) => rnow_calls wx a A XS n c hn hp hfw (h.below hb))
  have KSum : Hid (∀ wx, Below w.heap.size w wx → Calls Try.prog 16 #[.slice (XS.getD (n - 1) (none, 0)).1 a.l.length (XS.getD (n - 1) (none, 0)).2] wx fun e w' => e = .returned (.int .i64 a.nowl.sum) ∧ ∃ k, w' = wx.drewN k) := Lib.hid fun wx hb => by
    have h4 := (h.below hb).now
    rw [hn] at h4
    have h5 := hB.ok.len.2
    exact refsum_calls wx _ _ _ a.nowl (Auc.nowl_length a) (by omega) (Auc.nowl_bound hB.ok) h4
  have KPr := Lib.hid (fun wx (hb : Below w.heap.size w wx) => price_calls wx g gl a (hA.below hb))
  have KRPr := Lib.hid (fun wx => rprice_calls wx a A n c hB)
  have KLa := Lib.hid (fun wx (hb : Below w.heap.size w wx) => last_calls wx g gl a (hA.below hb))
  have KRLa := Lib.hid (fun wx => rlast_calls wx a A n c hB)
  have KSup := Lib.hid (fun wx (hb : Below w.heap.size w wx) => supply_calls wx g gl a (hA.below hb))
  have KRnd : Hid (∀ wx, Below w.heap.size w wx → Calls Try.prog 21 #[.pointer (some ⟨g, 0, none⟩)] wx fun e w' => e = .returned (.int .i64 (n : Int)) ∧ w' = wx) := Lib.hid fun wx hb => by
    have := round_calls wx g gl a (hA.below hb)
    rwa [hB.round] at this
  have KSt := Lib.hid (fun wx (hb : Below w.heap.size w wx) => state_calls wx g gl a (hA.below hb))
  have KWa := Lib.hid (fun wx (hb : Below w.heap.size w wx) (i : Nat) hi => wants_calls wx g gl a (hA.below hb) i hi)
  have KWo := Lib.hid (fun wx (hb : Below w.heap.size w wx) who hw => wants_out wx g gl a (hA.below hb) who hw)
  have KRW := Lib.hid (fun wx (hb : Below w.heap.size w wx) (i : Nat) hi => rwas_calls wx a A XS n c hB hn (h.below hb) i hi)
  have KBy := Lib.hid (fun wx (hb : Below w.heap.size w wx) => bytes_calls wx g gl a (hA.below hb))
  have KRBy := Lib.hid (fun wx (hb : Below w.heap.size w wx) => rbytes_calls wx a A XS n c hB hn hcn (h.below hb))
  have KRow : Hid (∀ wx, Below w.heap.size w wx → IRow wx (XS.getD (n - 1) (none, 0)).1 a.nowl) := Lib.hid fun wx hb => by
    have h4 := (h.below hb).now
    rwa [hn] at h4
  have hdn : a.nowl.sum = a.demand := rfl
  rw [hdn] at KSum
  obtain ⟨m, hm⟩ : ∃ m, Hid (a.l.length = m) := ⟨_, Lib.hid rfl⟩
  obtain ⟨LX, hLX⟩ : ∃ LX, Hid (XS.getD (n - 1) (none, 0) = LX) := ⟨_, Lib.hid rfl⟩
  rw [hm.out, hLX.out] at KNow KSum
  rw [hLX.out] at KRow
  rw [hm.out] at KWa KWo KRW hsll hm16 hm1
  obtain ⟨X1, X2⟩ := LX
  simp only at KNow KSum KRow
  obtain ⟨nb, no, rfl⟩ := (KRow.out w (Below.refl _ _)).some (i := 0) (by rw [Auc.nowl_length, hm.out]; exact hm1)
  have hel : Hid (∀ wx i, i < m → Below w.heap.size w wx → wx.cell? ⟨nb, no + i, none⟩ = some (.int .i64 (a.l.getD i (0, 0)).2)) := Lib.hid fun wx i hi hb => by
    rw [← Auc.nowl_at a (by rw [hm.out]; exact hi)]
    exact IRow.cell (KRow.out wx hb) (by rw [Auc.nowl_length, hm.out]; exact hi)
  obtain ⟨sl, hsl⟩ : ∃ sl, Hid (a.sale = sl) := ⟨_, Lib.hid rfl⟩
  rw [hsl.out] at KSale KRSale hsll
  obtain ⟨s1, sL, s3⟩ := sl
  unfold RSold at KRSale
  simp only at KSale KRSale hsll
  obtain ⟨sk, hsk⟩ : ∃ sk, Hid (sL.length = sk) := ⟨_, Lib.hid rfl⟩
  rw [hsk.out] at KRSale hsll
  have hb0 : Hid (Below w.heap.size w (w.alloc (.cells #[.int .i64 a.supply, .int .i64 a.start, .int .i64 a.step, .int .i64 a.state, .slice A n c] 56))) := Lib.hid ((Below.refl _ _).alloc (Nat.le_refl _) _)
  have B0 : Hid (Blk (w.alloc (.cells #[.int .i64 a.supply, .int .i64 a.start, .int .i64 a.step, .int .i64 a.state, .slice A n c] 56)) w.heap.size 56 #[.int .i64 a.supply, .int .i64 a.start, .int .i64 a.step, .int .i64 a.state, .slice A n c]) := Lib.hid (Blk.new w 56 #[.int .i64 a.supply, .int .i64 a.start, .int .i64 a.step, .int .i64 a.state, .slice A n c])
  clear hA hB hn hcn h hp hfw hdn hm1
  unfold rval at KRSale KNow KRPr KRLa KRW KRBy
  unfold rval
  go_enter Try.func31, Try.ntmps31
  go_upto_region 1 with (fail)
  obtain ⟨g1, hg1⟩ : ∃ g1, w.heap.size = g1 := ⟨_, rfl⟩
  rw [hg1] at B0 ⊢
  clear hg1
  generalize World.alloc w _ = wy at hb0 B0 ⊢
  have HXc : Hid (∀ wx : World, Below wy.heap.size wy wx → (wx.cell? ⟨g1, 0, none⟩ = some (.int .i64 a.supply) ∧ wx.cell? ⟨g1, 1, none⟩ = some (.int .i64 a.start) ∧ wx.cell? ⟨g1, 2, none⟩ = some (.int .i64 a.step) ∧ wx.cell? ⟨g1, 3, none⟩ = some (.int .i64 a.state) ∧ wx.cell? ⟨g1, 4, none⟩ = some (.slice A n c))) := Lib.hid fun wx hb => by
    have b0 := B0.out.below hb B0.out.lt
    exact ⟨b0.cell 0, b0.cell 1, b0.cell 2, b0.cell 3, b0.cell 4⟩
  go_upto_region 2 with (first
    | (go_at_call 27; (with_reducible refine (KSale.out _ hb0.out).mono ?_); rintro e w4 ⟨v, rfl, hg, hh⟩; obtain ⟨GA, gc, rfl, hr⟩ := hg.row; have HG := Lib.hid hr; have hb4 := Lib.hid hh; clear hg hr hh))
  rw [hsk.out]
  obtain ⟨c0, c1, c2, c3, c4⟩ := HXc.out w4 hb4.out
  go_upto_region 3 with (first
    | (go_at_call 39; (with_reducible refine (KRSale.out _ (below_next hb0.out hb4.out)).mono ?_); rintro e w5 ⟨RB, rk, rc, rfl, rfl, hr, hh⟩; have HRr := Lib.hid hr; have hb5 := Lib.hid (below_next hb4.out hh); have HG5 := Lib.hid (HG.out.below hh); clear hr hh))
  clear c0 c1 c2 c3 c4
  have Hw5 := Lib.hid (below_next hb0.out hb5.out)
  have HS : Hid (∀ wx, Below w5.heap.size w5 wx → ((wx.cell? ⟨g1, 0, none⟩ = some (.int .i64 a.supply) ∧ wx.cell? ⟨g1, 1, none⟩ = some (.int .i64 a.start) ∧ wx.cell? ⟨g1, 2, none⟩ = some (.int .i64 a.step) ∧ wx.cell? ⟨g1, 3, none⟩ = some (.int .i64 a.state) ∧ wx.cell? ⟨g1, 4, none⟩ = some (.slice A n c)) ∧ Hid (Below w5.heap.size w5 wx))) := Lib.hid fun wx hb => ⟨HXc.out wx (below_next hb5.out hb), Lib.hid hb⟩
  have FDemand : Hid (∀ wx, ((wx.cell? ⟨g1, 0, none⟩ = some (.int .i64 a.supply) ∧ wx.cell? ⟨g1, 1, none⟩ = some (.int .i64 a.start) ∧ wx.cell? ⟨g1, 2, none⟩ = some (.int .i64 a.step) ∧ wx.cell? ⟨g1, 3, none⟩ = some (.int .i64 a.state) ∧ wx.cell? ⟨g1, 4, none⟩ = some (.slice A n c)) ∧ Hid (Below w5.heap.size w5 wx)) → Calls Try.prog 22 #[.pointer (some ⟨g, 0, none⟩)] wx fun e w' => e = .returned (.int .i64 a.demand) ∧ ((w'.cell? ⟨g1, 0, none⟩ = some (.int .i64 a.supply) ∧ w'.cell? ⟨g1, 1, none⟩ = some (.int .i64 a.start) ∧ w'.cell? ⟨g1, 2, none⟩ = some (.int .i64 a.step) ∧ w'.cell? ⟨g1, 3, none⟩ = some (.int .i64 a.state) ∧ w'.cell? ⟨g1, 4, none⟩ = some (.slice A n c)) ∧ Hid (Below w5.heap.size w5 w'))) := Lib.hid fun wx hx => (KDem.out wx (below_next Hw5.out hx.2.out)).mono fun e w' ⟨h1, h2⟩ => ⟨h1, HS.out w' (below_next hx.2.out h2)⟩
  have FNow : Hid (∀ wx, ((wx.cell? ⟨g1, 0, none⟩ = some (.int .i64 a.supply) ∧ wx.cell? ⟨g1, 1, none⟩ = some (.int .i64 a.start) ∧ wx.cell? ⟨g1, 2, none⟩ = some (.int .i64 a.step) ∧ wx.cell? ⟨g1, 3, none⟩ = some (.int .i64 a.state) ∧ wx.cell? ⟨g1, 4, none⟩ = some (.slice A n c)) ∧ Hid (Below w5.heap.size w5 wx)) → Calls Try.prog 40 #[.agg #[.int .i64 a.supply, .int .i64 a.start, .int .i64 a.step, .int .i64 a.state, .slice A n c]] wx fun e w' => e = .returned (.slice (some ⟨nb, no, none⟩) m X2) ∧ ((w'.cell? ⟨g1, 0, none⟩ = some (.int .i64 a.supply) ∧ w'.cell? ⟨g1, 1, none⟩ = some (.int .i64 a.start) ∧ w'.cell? ⟨g1, 2, none⟩ = some (.int .i64 a.step) ∧ w'.cell? ⟨g1, 3, none⟩ = some (.int .i64 a.state) ∧ w'.cell? ⟨g1, 4, none⟩ = some (.slice A n c)) ∧ Hid (Below w5.heap.size w5 w'))) := Lib.hid fun wx hx => (KNow.out wx (below_next Hw5.out hx.2.out)).mono fun e w' ⟨h1, h2⟩ => ⟨h1, HS.out w' (below_next hx.2.out h2)⟩
  have FSum : Hid (∀ wx, ((wx.cell? ⟨g1, 0, none⟩ = some (.int .i64 a.supply) ∧ wx.cell? ⟨g1, 1, none⟩ = some (.int .i64 a.start) ∧ wx.cell? ⟨g1, 2, none⟩ = some (.int .i64 a.step) ∧ wx.cell? ⟨g1, 3, none⟩ = some (.int .i64 a.state) ∧ wx.cell? ⟨g1, 4, none⟩ = some (.slice A n c)) ∧ Hid (Below w5.heap.size w5 wx)) → Calls Try.prog 16 #[.slice (some ⟨nb, no, none⟩) m X2] wx fun e w' => e = .returned (.int .i64 a.demand) ∧ ((w'.cell? ⟨g1, 0, none⟩ = some (.int .i64 a.supply) ∧ w'.cell? ⟨g1, 1, none⟩ = some (.int .i64 a.start) ∧ w'.cell? ⟨g1, 2, none⟩ = some (.int .i64 a.step) ∧ w'.cell? ⟨g1, 3, none⟩ = some (.int .i64 a.state) ∧ w'.cell? ⟨g1, 4, none⟩ = some (.slice A n c)) ∧ Hid (Below w5.heap.size w5 w'))) := Lib.hid fun wx hx => (KSum.out wx (below_next Hw5.out hx.2.out)).mono fun e w' ⟨h1, d, h2⟩ => ⟨h1, by rw [h2]; exact HS.out _ (below_draw hx.2.out d)⟩
  have FPrice : Hid (∀ wx, ((wx.cell? ⟨g1, 0, none⟩ = some (.int .i64 a.supply) ∧ wx.cell? ⟨g1, 1, none⟩ = some (.int .i64 a.start) ∧ wx.cell? ⟨g1, 2, none⟩ = some (.int .i64 a.step) ∧ wx.cell? ⟨g1, 3, none⟩ = some (.int .i64 a.state) ∧ wx.cell? ⟨g1, 4, none⟩ = some (.slice A n c)) ∧ Hid (Below w5.heap.size w5 wx)) → Calls Try.prog 20 #[.pointer (some ⟨g, 0, none⟩)] wx fun e w' => e = .returned (.int .i64 a.price) ∧ ((w'.cell? ⟨g1, 0, none⟩ = some (.int .i64 a.supply) ∧ w'.cell? ⟨g1, 1, none⟩ = some (.int .i64 a.start) ∧ w'.cell? ⟨g1, 2, none⟩ = some (.int .i64 a.step) ∧ w'.cell? ⟨g1, 3, none⟩ = some (.int .i64 a.state) ∧ w'.cell? ⟨g1, 4, none⟩ = some (.slice A n c)) ∧ Hid (Below w5.heap.size w5 w'))) := Lib.hid fun wx hx => (KPr.out wx (below_next Hw5.out hx.2.out)).mono fun e w' ⟨h1, d, h2⟩ => ⟨h1, by rw [h2]; exact HS.out _ (below_draw hx.2.out d)⟩
  have FRPrice : Hid (∀ wx, ((wx.cell? ⟨g1, 0, none⟩ = some (.int .i64 a.supply) ∧ wx.cell? ⟨g1, 1, none⟩ = some (.int .i64 a.start) ∧ wx.cell? ⟨g1, 2, none⟩ = some (.int .i64 a.step) ∧ wx.cell? ⟨g1, 3, none⟩ = some (.int .i64 a.state) ∧ wx.cell? ⟨g1, 4, none⟩ = some (.slice A n c)) ∧ Hid (Below w5.heap.size w5 wx)) → Calls Try.prog 41 #[.agg #[.int .i64 a.supply, .int .i64 a.start, .int .i64 a.step, .int .i64 a.state, .slice A n c]] wx fun e w' => e = .returned (.int .i64 a.price) ∧ ((w'.cell? ⟨g1, 0, none⟩ = some (.int .i64 a.supply) ∧ w'.cell? ⟨g1, 1, none⟩ = some (.int .i64 a.start) ∧ w'.cell? ⟨g1, 2, none⟩ = some (.int .i64 a.step) ∧ w'.cell? ⟨g1, 3, none⟩ = some (.int .i64 a.state) ∧ w'.cell? ⟨g1, 4, none⟩ = some (.slice A n c)) ∧ Hid (Below w5.heap.size w5 w'))) := Lib.hid fun wx hx => (KRPr.out wx).mono fun e w' ⟨h1, h2⟩ => ⟨h1, HS.out w' (below_next hx.2.out h2)⟩
  have FLast : Hid (∀ wx, ((wx.cell? ⟨g1, 0, none⟩ = some (.int .i64 a.supply) ∧ wx.cell? ⟨g1, 1, none⟩ = some (.int .i64 a.start) ∧ wx.cell? ⟨g1, 2, none⟩ = some (.int .i64 a.step) ∧ wx.cell? ⟨g1, 3, none⟩ = some (.int .i64 a.state) ∧ wx.cell? ⟨g1, 4, none⟩ = some (.slice A n c)) ∧ Hid (Below w5.heap.size w5 wx)) → Calls Try.prog 32 #[.pointer (some ⟨g, 0, none⟩)] wx fun e w' => e = .returned (.int .i64 a.last) ∧ ((w'.cell? ⟨g1, 0, none⟩ = some (.int .i64 a.supply) ∧ w'.cell? ⟨g1, 1, none⟩ = some (.int .i64 a.start) ∧ w'.cell? ⟨g1, 2, none⟩ = some (.int .i64 a.step) ∧ w'.cell? ⟨g1, 3, none⟩ = some (.int .i64 a.state) ∧ w'.cell? ⟨g1, 4, none⟩ = some (.slice A n c)) ∧ Hid (Below w5.heap.size w5 w'))) := Lib.hid fun wx hx => (KLa.out wx (below_next Hw5.out hx.2.out)).mono fun e w' ⟨h1, d, h2⟩ => ⟨h1, by rw [h2]; exact HS.out _ (below_draw hx.2.out d)⟩
  have FRLast : Hid (∀ wx, ((wx.cell? ⟨g1, 0, none⟩ = some (.int .i64 a.supply) ∧ wx.cell? ⟨g1, 1, none⟩ = some (.int .i64 a.start) ∧ wx.cell? ⟨g1, 2, none⟩ = some (.int .i64 a.step) ∧ wx.cell? ⟨g1, 3, none⟩ = some (.int .i64 a.state) ∧ wx.cell? ⟨g1, 4, none⟩ = some (.slice A n c)) ∧ Hid (Below w5.heap.size w5 wx)) → Calls Try.prog 42 #[.agg #[.int .i64 a.supply, .int .i64 a.start, .int .i64 a.step, .int .i64 a.state, .slice A n c]] wx fun e w' => e = .returned (.int .i64 a.last) ∧ ((w'.cell? ⟨g1, 0, none⟩ = some (.int .i64 a.supply) ∧ w'.cell? ⟨g1, 1, none⟩ = some (.int .i64 a.start) ∧ w'.cell? ⟨g1, 2, none⟩ = some (.int .i64 a.step) ∧ w'.cell? ⟨g1, 3, none⟩ = some (.int .i64 a.state) ∧ w'.cell? ⟨g1, 4, none⟩ = some (.slice A n c)) ∧ Hid (Below w5.heap.size w5 w'))) := Lib.hid fun wx hx => (KRLa.out wx).mono fun e w' ⟨h1, h2⟩ => ⟨h1, HS.out w' (below_next hx.2.out h2)⟩
  have FSupply : Hid (∀ wx, ((wx.cell? ⟨g1, 0, none⟩ = some (.int .i64 a.supply) ∧ wx.cell? ⟨g1, 1, none⟩ = some (.int .i64 a.start) ∧ wx.cell? ⟨g1, 2, none⟩ = some (.int .i64 a.step) ∧ wx.cell? ⟨g1, 3, none⟩ = some (.int .i64 a.state) ∧ wx.cell? ⟨g1, 4, none⟩ = some (.slice A n c)) ∧ Hid (Below w5.heap.size w5 wx)) → Calls Try.prog 33 #[.pointer (some ⟨g, 0, none⟩)] wx fun e w' => e = .returned (.int .i64 a.supply) ∧ ((w'.cell? ⟨g1, 0, none⟩ = some (.int .i64 a.supply) ∧ w'.cell? ⟨g1, 1, none⟩ = some (.int .i64 a.start) ∧ w'.cell? ⟨g1, 2, none⟩ = some (.int .i64 a.step) ∧ w'.cell? ⟨g1, 3, none⟩ = some (.int .i64 a.state) ∧ w'.cell? ⟨g1, 4, none⟩ = some (.slice A n c)) ∧ Hid (Below w5.heap.size w5 w'))) := Lib.hid fun wx hx => (KSup.out wx (below_next Hw5.out hx.2.out)).mono fun e w' ⟨h1, h2⟩ => ⟨h1, by rw [h2]; exact hx⟩
  have FRound : Hid (∀ wx, ((wx.cell? ⟨g1, 0, none⟩ = some (.int .i64 a.supply) ∧ wx.cell? ⟨g1, 1, none⟩ = some (.int .i64 a.start) ∧ wx.cell? ⟨g1, 2, none⟩ = some (.int .i64 a.step) ∧ wx.cell? ⟨g1, 3, none⟩ = some (.int .i64 a.state) ∧ wx.cell? ⟨g1, 4, none⟩ = some (.slice A n c)) ∧ Hid (Below w5.heap.size w5 wx)) → Calls Try.prog 21 #[.pointer (some ⟨g, 0, none⟩)] wx fun e w' => e = .returned (.int .i64 (n : Int)) ∧ ((w'.cell? ⟨g1, 0, none⟩ = some (.int .i64 a.supply) ∧ w'.cell? ⟨g1, 1, none⟩ = some (.int .i64 a.start) ∧ w'.cell? ⟨g1, 2, none⟩ = some (.int .i64 a.step) ∧ w'.cell? ⟨g1, 3, none⟩ = some (.int .i64 a.state) ∧ w'.cell? ⟨g1, 4, none⟩ = some (.slice A n c)) ∧ Hid (Below w5.heap.size w5 w'))) := Lib.hid fun wx hx => (KRnd.out wx (below_next Hw5.out hx.2.out)).mono fun e w' ⟨h1, h2⟩ => ⟨h1, by rw [h2]; exact hx⟩
  have FState : Hid (∀ wx, ((wx.cell? ⟨g1, 0, none⟩ = some (.int .i64 a.supply) ∧ wx.cell? ⟨g1, 1, none⟩ = some (.int .i64 a.start) ∧ wx.cell? ⟨g1, 2, none⟩ = some (.int .i64 a.step) ∧ wx.cell? ⟨g1, 3, none⟩ = some (.int .i64 a.state) ∧ wx.cell? ⟨g1, 4, none⟩ = some (.slice A n c)) ∧ Hid (Below w5.heap.size w5 wx)) → Calls Try.prog 24 #[.pointer (some ⟨g, 0, none⟩)] wx fun e w' => e = .returned (.int .i64 a.state) ∧ ((w'.cell? ⟨g1, 0, none⟩ = some (.int .i64 a.supply) ∧ w'.cell? ⟨g1, 1, none⟩ = some (.int .i64 a.start) ∧ w'.cell? ⟨g1, 2, none⟩ = some (.int .i64 a.step) ∧ w'.cell? ⟨g1, 3, none⟩ = some (.int .i64 a.state) ∧ w'.cell? ⟨g1, 4, none⟩ = some (.slice A n c)) ∧ Hid (Below w5.heap.size w5 w'))) := Lib.hid fun wx hx => (KSt.out wx (below_next Hw5.out hx.2.out)).mono fun e w' ⟨h1, h2⟩ => ⟨h1, by rw [h2]; exact hx⟩
  have FNum : Hid (∀ wx, ((wx.cell? ⟨g1, 0, none⟩ = some (.int .i64 a.supply) ∧ wx.cell? ⟨g1, 1, none⟩ = some (.int .i64 a.start) ∧ wx.cell? ⟨g1, 2, none⟩ = some (.int .i64 a.step) ∧ wx.cell? ⟨g1, 3, none⟩ = some (.int .i64 a.state) ∧ wx.cell? ⟨g1, 4, none⟩ = some (.slice A n c)) ∧ Hid (Below w5.heap.size w5 wx)) → Calls Try.prog 15 #[.slice GA sk gc, .slice RB sk rc] wx fun e w' => e = .returned (.bool true) ∧ ((w'.cell? ⟨g1, 0, none⟩ = some (.int .i64 a.supply) ∧ w'.cell? ⟨g1, 1, none⟩ = some (.int .i64 a.start) ∧ w'.cell? ⟨g1, 2, none⟩ = some (.int .i64 a.step) ∧ w'.cell? ⟨g1, 3, none⟩ = some (.int .i64 a.state) ∧ w'.cell? ⟨g1, 4, none⟩ = some (.slice A n c)) ∧ Hid (Below w5.heap.size w5 w'))) := Lib.hid fun wx hx => (numbers_same wx GA RB gc rc sk sL hsk.out (by omega) (HG5.out.below hx.2.out) (HRr.out.below hx.2.out)).mono fun e w' ⟨h1, d, h2⟩ => ⟨h1, by rw [h2]; exact HS.out _ (below_draw hx.2.out d)⟩
  have HS0 := HS.out w5.drew (Below.refl _ _).drew
  obtain ⟨d, hd⟩ : ∃ d, Hid (a.demand = d) := ⟨_, Lib.hid rfl⟩
  rw [hd.out] at FDemand FSum
  obtain ⟨pr, hpr⟩ : ∃ pr, Hid (a.price = pr) := ⟨_, Lib.hid rfl⟩
  rw [hpr.out] at FPrice FRPrice
  obtain ⟨la, hla⟩ : ∃ la, Hid (a.last = la) := ⟨_, Lib.hid rfl⟩
  rw [hla.out] at FLast FRLast
  clear KSale KRSale KDem KSum KPr KRPr KLa KRLa KSup KRnd KSt
  go_cut [83] from 26 to 83 (fun s83 wc => s83 = .bool false ∧ Hid (Below w5.heap.size w5 wc))
  case first =>
    have HS1 := Lib.hid HS0
    clear HS0
    go_region_held3 (fun wx => ((wx.cell? ⟨g1, 0, none⟩ = some (.int .i64 a.supply) ∧ wx.cell? ⟨g1, 1, none⟩ = some (.int .i64 a.start) ∧ wx.cell? ⟨g1, 2, none⟩ = some (.int .i64 a.step) ∧ wx.cell? ⟨g1, 3, none⟩ = some (.int .i64 a.state) ∧ wx.cell? ⟨g1, 4, none⟩ = some (.slice A n c)) ∧ Hid (Below w5.heap.size w5 wx)))
      (first | assumption | exact HS1.out)
      (first
        | (go_at_call 22; (with_reducible refine (FDemand.out _ (by assumption)).mono ?_); rintro e wn ⟨rfl, hsn⟩)
        | (go_at_call 40; (with_reducible refine (FNow.out _ (by assumption)).mono ?_); rintro e wn ⟨rfl, hsn⟩)
        | (go_at_call 16; (with_reducible refine (FSum.out _ (by assumption)).mono ?_); rintro e wn ⟨rfl, hsn⟩)
        | (go_at_call 20; (with_reducible refine (FPrice.out _ (by assumption)).mono ?_); rintro e wn ⟨rfl, hsn⟩)
        | (go_at_call 41; (with_reducible refine (FRPrice.out _ (by assumption)).mono ?_); rintro e wn ⟨rfl, hsn⟩)
        | (go_at_call 32; (with_reducible refine (FLast.out _ (by assumption)).mono ?_); rintro e wn ⟨rfl, hsn⟩)
        | (go_at_call 42; (with_reducible refine (FRLast.out _ (by assumption)).mono ?_); rintro e wn ⟨rfl, hsn⟩)
        | (go_at_call 33; (with_reducible refine (FSupply.out _ (by assumption)).mono ?_); rintro e wn ⟨rfl, hsn⟩)
        | (go_at_call 21; (with_reducible refine (FRound.out _ (by assumption)).mono ?_); rintro e wn ⟨rfl, hsn⟩)
        | (go_at_call 24; (with_reducible refine (FState.out _ (by assumption)).mono ?_); rintro e wn ⟨rfl, hsn⟩)
        | (go_at_call 15; (with_reducible refine (FNum.out _ (by assumption)).mono ?_); rintro e wn ⟨rfl, hsn⟩))
    all_goals
      go_wp2_with fail
      go_meet
      exact ⟨rfl, hsn.2⟩
  case rest =>
    obtain ⟨rfl, hbc⟩ := hcut
    have hm' : (m : Int) ≤ 16 := by omega
    clear FDemand FSum FPrice FRPrice FLast FRLast FSupply FRound FState FNum HS0
    go_wp2
    go_loopg [11] (m + 3) (fun gk s11 wr => ∃ (k : Nat) (z : Int), gk = m + 3 - k ∧ k ≤ m + 2 ∧ s11 = .int .i64 z ∧ Hid (z + 1 = (k : Int)) ∧ Hid (Below w5.heap.size w5 wr))
    case atStart => exact ⟨0, -1, rfl, Nat.zero_le _, rfl, Lib.hid rfl, hbc⟩
    case round =>
      clear hbc
      obtain ⟨k, z, rfl, hk, rfl, hz, hb⟩ := hrel
      have HBw := Lib.hid (below_next Hw5.out hb.out)
      obtain ⟨c0, c1, c2, c3, c4⟩ := HXc.out wr (below_next hb5.out hb.out)
      have hk' := Lib.hid hk
      have zlo : -1 ≤ z := by have := hz.out; omega
      have zhi : z ≤ (m : Int) + 1 := by have := hz.out; omega
      clear hk
      by_cases hout : z < 0 ∨ z = (m : Int)
      · have hle : z ≤ (m : Int) := by omega
        have KW := Lib.hid (fun wx hb => KWo.out wx hb z hout)
        have hz2 : Hid (k + 1 ≤ m + 2) := Lib.hid (by have := hz.out; omega)
        by_cases hneg : z < 0
        · clear hout
          go_wp2_with (first
            | (go_at_call 40; (with_reducible refine (KNow.out _ HBw.out).mono ?_); rintro e w7 ⟨rfl, hh⟩; have hb7 := Lib.hid (below_next hb.out hh); have HB7 := Lib.hid (below_next HBw.out hh); clear hh)
            | (go_at_call 26; (with_reducible refine (KW.out _ HB7.out).mono ?_); rintro e w8 ⟨rfl, nd, hw⟩; have hb8 : Hid (Below w5.heap.size w5 w8) := Lib.hid (by rw [hw]; exact below_draw hb7.out nd); clear hw))
          go_roundg (m + 3 - (k + 1))
          case measure => have := hz2.out; omega
          case rel => exact ⟨k + 1, z + 1, rfl, hz2.out, by first | rfl | go_num, Lib.hid (by have := hz.out; omega), hb8⟩
        · obtain rfl : z = (m : Int) := by omega
          have hneg0 : (0 : Int) ≤ (m : Int) := by omega
          clear hout hneg
          go_wp2_with (first
            | (go_at_call 40; first
              | ((with_reducible refine (KNow.out _ HB8.out).mono ?_); rintro e w9 ⟨rfl, hh⟩; have hb9 := Lib.hid (below_next hb8.out hh); clear hh)
              | ((with_reducible refine (KNow.out _ HBw.out).mono ?_); rintro e w7 ⟨rfl, hh⟩; have hb7 := Lib.hid (below_next hb.out hh); have HB7 := Lib.hid (below_next HBw.out hh); clear hh))
            | (go_at_call 26; (with_reducible refine (KW.out _ HB7.out).mono ?_); rintro e w8 ⟨rfl, nd, hw⟩; have hb8 : Hid (Below w5.heap.size w5 w8) := Lib.hid (by rw [hw]; exact below_draw hb7.out nd); have HB8 := Lib.hid (below_next Hw5.out hb8.out); clear hw; obtain ⟨c0, c1, c2, c3, c4⟩ := HXc.out w8 (below_next hb5.out hb8.out)))
          go_roundg (m + 3 - (k + 1))
          case measure => have := hz2.out; omega
          case rel => exact ⟨k + 1, (m : Int) + 1, rfl, hz2.out, by first | rfl | go_num, Lib.hid (by have := hz.out; omega), hb9⟩
      · by_cases hin : z < (m : Int)
        · obtain ⟨i, rfl⟩ : ∃ i : Nat, z = (i : Int) := ⟨z.toNat, by omega⟩
          have i0 : (0 : Int) ≤ (i : Int) := by omega
          have him : i < m := by omega
          have hle : (i : Int) ≤ (m : Int) := by omega
          have hne : ¬ i = m := by omega
          have hneI : ¬ (i : Int) = (m : Int) := by omega
          have hneB : (i == m) = false := by simpa using hne
          have hneBI : ((i : Int) == (m : Int)) = false := by simpa using hneI
          have KW := Lib.hid (fun wx hb => KWa.out wx hb i him)
          have KRWi := Lib.hid (fun wx hb => KRW.out wx hb i him)
          have HEl := Lib.hid (fun wx hb => hel.out wx i him hb)
          rw [Auc.wasl_at a (by rw [hm.out]; exact him)] at KRWi
          generalize (a.l.getD i (0, 0)).1 = p1 at KW KRWi
          generalize (a.l.getD i (0, 0)).2 = p2 at KW HEl
          have hz2 : Hid (k + 1 ≤ m + 2) := Lib.hid (by have := hz.out; omega)
          clear hout zlo zhi
          go_wp2_with (first
            | (go_at_call 40; first
              | ((with_reducible refine (KNow.out _ HB10.out).mono ?_); rintro e w11 ⟨rfl, hh⟩; have hb11 := Lib.hid (below_next hb10.out hh); clear hh; have k2 := HEl.out w11 (below_next Hw5.out hb11.out))
              | ((with_reducible refine (KNow.out _ HB8.out).mono ?_); rintro e w9 ⟨rfl, hh⟩; have hb9 := Lib.hid (below_next hb8.out hh); have HB9 := Lib.hid (below_next HB8.out hh); clear hh; obtain ⟨c0, c1, c2, c3, c4⟩ := HXc.out w9 (below_next hb5.out hb9.out))
              | ((with_reducible refine (KNow.out _ HBw.out).mono ?_); rintro e w7 ⟨rfl, hh⟩; have hb7 := Lib.hid (below_next hb.out hh); have HB7 := Lib.hid (below_next HBw.out hh); clear hh))
            | (go_at_call 43; (with_reducible refine (KRWi.out _ HB9.out).mono ?_); rintro e w10 ⟨rfl, hh⟩; have hb10 := Lib.hid (below_next hb9.out hh); have HB10 := Lib.hid (below_next HB9.out hh); clear hh; obtain ⟨c0, c1, c2, c3, c4⟩ := HXc.out w10 (below_next hb5.out hb10.out))
            | (go_at_call 26; (with_reducible refine (KW.out _ HB7.out).mono ?_); rintro e w8 ⟨rfl, nd, hw⟩; have hb8 : Hid (Below w5.heap.size w5 w8) := Lib.hid (by rw [hw]; exact below_draw hb7.out nd); have HB8 := Lib.hid (below_next Hw5.out hb8.out); clear hw; obtain ⟨c0, c1, c2, c3, c4⟩ := HXc.out w8 (below_next hb5.out hb8.out)))
          go_roundg (m + 3 - (k + 1))
          case measure => have := hz2.out; omega
          case rel => exact ⟨k + 1, ((i + 1 : Nat) : Int), rfl, hz2.out, by go_num, Lib.hid (by have := hz.out; omega), hb11⟩
        · obtain rfl : z = (m : Int) + 1 := by omega
          have hgt : ¬ (m : Int) + 1 ≤ (m : Int) := by omega
          clear hout hin zlo zhi
          go_upto_region 14 with (first
            | (go_at_call 40; (with_reducible refine (KNow.out _ HBw.out).mono ?_); rintro e w7 ⟨rfl, hh⟩; have hb7 := Lib.hid (below_next hb.out hh); clear hh))
          clear c0 c1 c2 c3 c4
          have HS1 := Lib.hid (HS.out w7.drew (below_draw hb7.out 1))
          have FBy : Hid (∀ wx, ((wx.cell? ⟨g1, 0, none⟩ = some (.int .i64 a.supply) ∧ wx.cell? ⟨g1, 1, none⟩ = some (.int .i64 a.start) ∧ wx.cell? ⟨g1, 2, none⟩ = some (.int .i64 a.step) ∧ wx.cell? ⟨g1, 3, none⟩ = some (.int .i64 a.state) ∧ wx.cell? ⟨g1, 4, none⟩ = some (.slice A n c)) ∧ Hid (Below w5.heap.size w5 wx)) → Calls Try.prog 28 #[.pointer (some ⟨g, 0, none⟩)] wx fun e w' => e = .returned (.string a.bytes) ∧ ((w'.cell? ⟨g1, 0, none⟩ = some (.int .i64 a.supply) ∧ w'.cell? ⟨g1, 1, none⟩ = some (.int .i64 a.start) ∧ w'.cell? ⟨g1, 2, none⟩ = some (.int .i64 a.step) ∧ w'.cell? ⟨g1, 3, none⟩ = some (.int .i64 a.state) ∧ w'.cell? ⟨g1, 4, none⟩ = some (.slice A n c)) ∧ Hid (Below w5.heap.size w5 w'))) := Lib.hid fun wx hx => (KBy.out wx (below_next Hw5.out hx.2.out)).mono fun e w' ⟨h1, h2⟩ => ⟨h1, HS.out w' (below_next hx.2.out h2)⟩
          have FRBy : Hid (∀ wx, ((wx.cell? ⟨g1, 0, none⟩ = some (.int .i64 a.supply) ∧ wx.cell? ⟨g1, 1, none⟩ = some (.int .i64 a.start) ∧ wx.cell? ⟨g1, 2, none⟩ = some (.int .i64 a.step) ∧ wx.cell? ⟨g1, 3, none⟩ = some (.int .i64 a.state) ∧ wx.cell? ⟨g1, 4, none⟩ = some (.slice A n c)) ∧ Hid (Below w5.heap.size w5 wx)) → Calls Try.prog 44 #[.agg #[.int .i64 a.supply, .int .i64 a.start, .int .i64 a.step, .int .i64 a.state, .slice A n c]] wx fun e w' => e = .returned (.string a.bytes) ∧ ((w'.cell? ⟨g1, 0, none⟩ = some (.int .i64 a.supply) ∧ w'.cell? ⟨g1, 1, none⟩ = some (.int .i64 a.start) ∧ w'.cell? ⟨g1, 2, none⟩ = some (.int .i64 a.step) ∧ w'.cell? ⟨g1, 3, none⟩ = some (.int .i64 a.state) ∧ w'.cell? ⟨g1, 4, none⟩ = some (.slice A n c)) ∧ Hid (Below w5.heap.size w5 w'))) := Lib.hid fun wx hx => (KRBy.out wx (below_next Hw5.out hx.2.out)).mono fun e w' ⟨h1, h2⟩ => ⟨h1, HS.out w' (below_next hx.2.out h2)⟩
          generalize a.bytes = bt at FBy FRBy
          go_region_held3 (fun wx => ((wx.cell? ⟨g1, 0, none⟩ = some (.int .i64 a.supply) ∧ wx.cell? ⟨g1, 1, none⟩ = some (.int .i64 a.start) ∧ wx.cell? ⟨g1, 2, none⟩ = some (.int .i64 a.step) ∧ wx.cell? ⟨g1, 3, none⟩ = some (.int .i64 a.state) ∧ wx.cell? ⟨g1, 4, none⟩ = some (.slice A n c)) ∧ Hid (Below w5.heap.size w5 wx)))
            (first | assumption | exact HS1.out)
            (first
              | (go_at_call 28; (with_reducible refine (FBy.out _ (by assumption)).mono ?_); rintro e wn ⟨rfl, hsn⟩)
              | (go_at_call 44; (with_reducible refine (FRBy.out _ (by assumption)).mono ?_); rintro e wn ⟨rfl, hsn⟩))
          all_goals
            go_wp2
            go_ret
            exact ⟨rfl, below_next Hw5.out hsn.2.out⟩
end Go.Proofs.Ytccmafmeblojpaa
