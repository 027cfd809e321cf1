/- The walk of ClockPlays: an auction of any lot answers whatever comes, and stands then, as the document says. -/
import Derived.Test.YtccmafmeblojpaaPb
namespace Go.Proofs.Ytccmafmeblojpaa
open Go.RowKit
set_option linter.unusedVariables false
set_option linter.unusedSimpArgs false
set_option maxHeartbeats 8000000 in
set_option maxRecDepth 100000 in
theorem cplays_bad (w : World) (l0 l1 l2 l3 : Int) (A : Option Addr) (m c : Nat) (h : ¬ goodLot l0 l1 l2 l3) :
    Calls Try.prog 8 #[.agg #[.int .i64 l0, .int .i64 l1, .int .i64 l2, .int .i64 l3], .slice A m c] w fun e w' => e = .returned (.bool true) ∧ Below w.heap.size w w' := by
  have HN := Lib.hid (fun w => new_bad l0 l1 l2 l3 w (by unfold goodLot at h; omega))
  have HR := Lib.hid (fun w => rnew_bad w l0 l1 l2 l3 h)
  have HW := Lib.hid (fun w => awake_calls w)
  have hb0 : Hid (Below w.heap.size w (w.alloc (.cells #[.int .i64 l0, .int .i64 l1, .int .i64 l2, .int .i64 l3] 37))) := Lib.hid ((Below.refl _ _).alloc (Nat.le_refl _) _)
  have B0 : Hid (Blk (w.alloc (.cells #[.int .i64 l0, .int .i64 l1, .int .i64 l2, .int .i64 l3] 37)) w.heap.size 37 #[.int .i64 l0, .int .i64 l1, .int .i64 l2, .int .i64 l3]) := Lib.hid (Blk.new _ _ _)
  clear h
  go_enter Try.func8, Try.ntmps8
  go_upto_region 1 with (fail)
  obtain ⟨g0, hg0⟩ : ∃ g0, w.heap.size = g0 := ⟨_, rfl⟩
  rw [hg0] at B0 ⊢
  clear hg0
  generalize World.alloc w _ = wy at hb0 B0 ⊢
  have c0 : wy.cell? ⟨g0, 0, none⟩ = some (.int .i64 l0) := B0.out.cell 0
  have c1 : wy.cell? ⟨g0, 1, none⟩ = some (.int .i64 l1) := B0.out.cell 1
  have c2 : wy.cell? ⟨g0, 2, none⟩ = some (.int .i64 l2) := B0.out.cell 2
  have c3 : wy.cell? ⟨g0, 3, none⟩ = some (.int .i64 l3) := B0.out.cell 3
  go_wp2_with (first
    | (go_at_call 18; (with_reducible refine (HN.out _).mono ?_); rintro e w1 ⟨rfl, rfl⟩)
    | (go_at_call 29; (with_reducible refine (HR.out _).mono ?_); rintro e w2 ⟨rfl, hh⟩; have hb2 := Lib.hid hh; clear hh)
    | (go_at_call 14; (with_reducible refine (HW.out _).mono ?_); rintro e w3 ⟨rfl, hh⟩; have hb3 := Lib.hid hh; clear hh))
  go_ret
  exact ⟨rfl, below_next hb0.out (below_next (hb2.out.alloc hb2.out.size _) hb3.out)⟩
/-- What step has left in the box that is made for its answer. -/
def TurnTo (wr : World) (g gl : Nat) (A : Option Addr) (XS : List (Option Addr × Nat)) (a r : Auc) (n gt : Nat) (A2 : Option Addr) (n2 c2 : Nat) (wc : World) : Prop :=
  ∃ XS2 wt w5, XS2.length = n2 ∧ n2 ≤ c2 ∧ (n2 : Int) = r.round ∧ Below wr.heap.size wr wt ∧ AtA w5 g gl r ∧ Only (feet2 g gl) wt w5 ∧ Lasts wt w5 (RA A XS a) (RA A2 XS2 r) ∧ wr.heap.size ≤ gt ∧ (gt < wt.heap.size ∨ w5.heap.size ≤ gt) ∧ Only (fun b => b = gt) w5 wc ∧
    Blk wc gt 56 #[.int .i64 r.supply, .int .i64 r.start, .int .i64 r.step, .int .i64 r.state, .slice A2 n2 c2] ∧ (∀ b, b < wr.heap.size → ¬ feet2 g gl b → wc.heap[b]? = wr.heap[b]?)
theorem Only.alloc1 {S : Nat → Prop} {w w1 : World} (h : Only S w w1) (o : Obj) : Only S w (w1.alloc o) := h.then_below ((Below.refl _ _).alloc (Nat.le_refl _) _)
section
variable {wr wt w5 : World} {g gl n n2 c2 : Nat} {A A2 : Option Addr} {XS XS2 : List (Option Addr × Nat)} {a r : Auc}
theorem turnTo_call (hg : g < wr.heap.size ∧ gl < wr.heap.size) (hl : XS2.length = n2) (hc : n2 ≤ c2) (hr : (n2 : Int) = r.round) (ht : Below wr.heap.size wr wt) (h5 : AtA w5 g gl r) (ho : Only (feet2 g gl) wt w5) (hla : Lasts wt w5 (RA A XS a) (RA A2 XS2 r)) :
    TurnTo wr g gl A XS a r n w5.heap.size A2 n2 c2 (w5.alloc (.cells #[.int .i64 r.supply, .int .i64 r.start, .int .i64 r.step, .int .i64 r.state, .slice A2 n2 c2] 56)) := by
  have h1 := ht.size
  have h2 := ho.size
  refine ⟨XS2, wt, w5, hl, hc, hr, ht, h5, ho, hla, by omega, .inr (Nat.le_refl _), (Only.refl _ _).alloc1 _, Blk.new _ _ _, fun b hb hf => ?_⟩
  rw [heap_alloc_old w5 _ (by omega), ho.block b (by omega) hf, ht.block b hb]
theorem turnTo_alloc (hg : g < wr.heap.size ∧ gl < wr.heap.size) (hl : XS2.length = n2) (hc : n2 ≤ c2) (hr : (n2 : Int) = r.round) (ht : Below wr.heap.size wr wt) (hs : wr.heap.size < wt.heap.size) (h5 : AtA w5 g gl r) (ho : Only (feet2 g gl) wt w5) (hla : Lasts wt w5 (RA A XS a) (RA A2 XS2 r)) (hB : Blk w5 wr.heap.size 56 #[.int .i64 0, .int .i64 0, .int .i64 0, .int .i64 0, .slice none 0 0]) :
    TurnTo wr g gl A XS a r n wr.heap.size A2 n2 c2 (((((w5.setCell ⟨wr.heap.size, 0, none⟩ (.int .i64 r.supply)).setCell ⟨wr.heap.size, 1, none⟩ (.int .i64 r.start)).setCell ⟨wr.heap.size, 2, none⟩ (.int .i64 r.step)).setCell ⟨wr.heap.size, 3, none⟩ (.int .i64 r.state)).setCell ⟨wr.heap.size, 4, none⟩ (.slice A2 n2 c2)) := by
  have hO := only_five (g := wr.heap.size) (Only.refl (fun b => b = wr.heap.size) w5) rfl (.int .i64 r.supply) (.int .i64 r.start) (.int .i64 r.step) (.int .i64 r.state) (.slice A2 n2 c2)
  have h1 := ht.size
  have h2 := ho.size
  refine ⟨XS2, wt, w5, hl, hc, hr, ht, h5, ho, hla, Nat.le_refl _, .inl hs, hO, ((((hB.set_ 0 _).set_ 1 _).set_ 2 _).set_ 3 _).set_ 4 _, fun b hb hf => ?_⟩
  rw [hO.block b (by omega) (by show ¬ b = _; omega), ho.block b (by omega) hf, ht.block b hb]
end
set_option maxHeartbeats 16000000 in
set_option maxRecDepth 100000 in
theorem cplays_good (w : World) (l0 l1 l2 : Int) (l3 : Nat) (A : Option Addr) (m c : Nat) (Z : Nat → Int) (hZ : Script w A m Z) (h : goodLot l0 l1 l2 l3) :
    Calls Try.prog 8 #[.agg #[.int .i64 l0, .int .i64 l1, .int .i64 l2, .int .i64 (l3 : Int)], .slice A m c] w fun e w' => e = .returned (.bool true) ∧ Below w.heap.size w w' := by
  have HZ := Lib.hid hZ
  have HN : Hid (∀ w, Calls Try.prog 18 #[.int .i64 l0, .int .i64 l1, .int .i64 l2, .int .i64 (l3 : Int)] w fun e w' => ∃ g gl, e = .returned (.tuple #[.pointer (some ⟨g, 0, none⟩), .int .i64 0]) ∧ Aw w w' g gl (Auc.fresh l0 l1 l2 l3)) := Lib.hid fun w => by
    obtain ⟨q1, q2, q3, q4, q5, q6, q7, q8⟩ := h
    exact Aw.new w l0 l1 l2 l3 ⟨q1, q2⟩ ⟨q3, q4⟩ ⟨q5, q6⟩ (by omega)
  have HR := Lib.hid (fun w => rnew_good w l0 l1 l2 l3 h)
  have HSd := Lib.hid (Beside.fresh h)
  obtain ⟨a0, ha0⟩ : ∃ a0, Hid (Auc.fresh l0 l1 l2 l3 = a0) := ⟨_, Lib.hid rfl⟩
  rw [ha0.out] at HN HR HSd
  have HW := Lib.hid (fun w => awake_calls w)
  have hb0 : Hid (Below w.heap.size w (w.alloc (.cells #[.int .i64 l0, .int .i64 l1, .int .i64 l2, .int .i64 (l3 : Int)] 37))) := Lib.hid ((Below.refl _ _).alloc (Nat.le_refl _) _)
  have B0 : Hid (Blk (w.alloc (.cells #[.int .i64 l0, .int .i64 l1, .int .i64 l2, .int .i64 (l3 : Int)] 37)) w.heap.size 37 #[.int .i64 l0, .int .i64 l1, .int .i64 l2, .int .i64 (l3 : Int)]) := Lib.hid (Blk.new _ _ _)
  clear hZ h
  go_enter Try.func8, Try.ntmps8
  go_upto_region 1 with (fail)
  obtain ⟨g0, hg0⟩ : ∃ g0, w.heap.size = g0 := ⟨_, rfl⟩
  rw [hg0] at B0 ⊢
  clear hg0
  generalize World.alloc w _ = wy at hb0 B0 ⊢
  have HXb : Hid (∀ wx, Below wy.heap.size wy wx → wx.cell? ⟨g0, 0, none⟩ = some (.int .i64 l0) ∧ wx.cell? ⟨g0, 1, none⟩ = some (.int .i64 l1) ∧ wx.cell? ⟨g0, 2, none⟩ = some (.int .i64 l2) ∧ wx.cell? ⟨g0, 3, none⟩ = some (.int .i64 (l3 : Int))) := Lib.hid fun wx hb => by
    have b0 := B0.out.below hb B0.out.lt
    exact ⟨b0.cell 0, b0.cell 1, b0.cell 2, b0.cell 3⟩
  obtain ⟨b0, b1, b2, b3⟩ := HXb.out wy (Below.refl _ _)
  unfold rval at HR
  go_upto_region 3 with (first
    | (go_at_call 18; (refine (HN.out _).mono ?_); rintro e w1 ⟨g, gl, rfl, hh⟩; have H0 := Lib.hid hh; clear hh; obtain ⟨b0, b1, b2, b3⟩ := HXb.out w1 H0.out.all)
    | (go_at_call 29; (refine (HR.out _).mono ?_); rintro e w2 ⟨A2, XS2, c2, rfl, hx1, hx2, hh, hla⟩; have hb2 := Lib.hid hh; have HLa := Lib.hid hla; have HX1 := Lib.hid hx1; have HX2 := Lib.hid hx2; clear hh hla hx1 hx2))
  have HB0 : Hid (Both wy (w2.alloc (.cells #[.int .i64 a0.supply, .int .i64 a0.start, .int .i64 a0.step, .int .i64 a0.state, .slice A2 1 c2] 56)) g gl w2.heap.size A2 XS2 a0 1 c2) := Lib.hid (by
    have h2 := H0.out.below hb2.out
    have hbx : Below w2.heap.size w2 (w2.alloc (.cells #[.int .i64 a0.supply, .int .i64 a0.start, .int .i64 a0.step, .int .i64 a0.state, .slice A2 1 c2] 56)) := (Below.refl _ _).alloc (Nat.le_refl _) _
    have p1 := H0.out.at_.head.lt
    have p2 := H0.out.at_.list.lt
    have p3 := hb2.out.size
    refine ⟨h2.at_.below hbx, ⟨fun b => w1.heap.size ≤ b ∧ b < w2.heap.size, fun b hb => ⟨Nat.lt_of_lt_of_le hb.2 hbx.size, by omega, by omega, by omega⟩, fun W' hs hW => HLa.out W' (Nat.le_trans hbx.size hs) (fun b hb1 hb2 => (hW b ⟨hb1, hb2⟩).trans (heap_alloc_old w2 _ hb2)) trivial⟩, h2.head, h2.list, h2.all.size, ⟨by omega, by omega⟩, below_next h2.all hbx, Blk.new _ _ _, HSd.out, HX1.out, HX2.out⟩)
  obtain ⟨gb, hgb⟩ : ∃ gb, w2.heap.size = gb := ⟨_, rfl⟩
  rw [hgb] at HB0 ⊢
  clear hgb H0 hb2 HN HR HLa HX1 HX2 HXb b0 b1 b2 b3
  generalize World.alloc w2 _ = wz at HB0 ⊢
  have HZy := Lib.hid (fun wx (hb : Below wy.heap.size wy wx) i (hi : i < m) => fun b o (e : A = some ⟨b, o, none⟩) => (Script.cells (e ▸ HZ.out) hi (below_next hb0.out hb)))
  go_wp2
  go_loopg [9] 101 (fun gk s9 wr => ∃ (i : Nat) (a : Auc) (A' : Option Addr) (XS : List (Option Addr × Nat)) (n c' : Nat), gk = 101 - i ∧ i ≤ min m 100 ∧ s9 = .int .i64 (i : Int) ∧ Hid (Both wy wr g gl gb A' XS a n c') ∧ Hid (n ≤ i + 1))
  case atStart => exact ⟨0, _, A2, XS2, 1, _, rfl, Nat.zero_le _, rfl, HB0, Lib.hid (Nat.le_refl _)⟩
  case round =>
    clear HB0
    obtain ⟨i, a, A', XS, n, c', rfl, hi, rfl, H, HF⟩ := hrel
    have i0 : (0 : Int) ≤ (i : Int) := by omega
    have HLk : Hid (∀ (wr : World) a A' XS n c', Both wy wr g gl gb A' XS a n c' → Calls Try.prog 31 #[.pointer (some ⟨g, 0, none⟩), .agg #[.int .i64 a.supply, .int .i64 a.start, .int .i64 a.step, .int .i64 a.state, .slice A' n c']] wr fun e w' => e = .returned (.bool true) ∧ Below wr.heap.size wr w') := Lib.hid fun wr a A' XS n c' hB => like_calls wr g gl a A' XS n c' hB.at_ hB.side hB.len hB.cap hB.ra
    by_cases hgo : i < m ∧ i < 100
    · obtain ⟨hin, hi100⟩ := hgo
      have i100 : (i : Int) < 100 := by omega
      have hinI : (i : Int) < (m : Int) := by omega
      obtain ⟨bs, os, rfl⟩ := HZ.out.at_ hin
      have HTo := Lib.hid (fun wx (hb : Below wr.heap.size wr wx) => step_calls wx g gl a A' XS n c' (H.out.at_.below hb) H.out.side H.out.len H.out.cap (H.out.ra.below hb) (Z (i * 3)) (Z (i * 3 + 1)) (Z (i * 3 + 2)))
      have HAct := Lib.hid (fun (n' : Nat) (hn : (n' : Int) = (a.act (Z (i * 3)) (Z (i * 3 + 1)) (Z (i * 3 + 2))).round) => H.out.side.act (Z (i * 3)) (Z (i * 3 + 1)) (Z (i * 3 + 2)) hn (by have := HF.out; omega))
      have HTurn := Lib.hid (fun (wt w5 wc : World) (gt n' c2 : Nat) (A2 : Option Addr) (XS2 : List (Option Addr × Nat)) (r : Auc) => H.out.turn (wt := wt) (w5 := w5) (wc := wc) (gt := gt) (n' := n') (c' := c2) (A' := A2) (XS' := XS2) (r := r))
      have HC := Lib.hid (fun wx (hb : Below wr.heap.size wr wx) => HZy.out wx (below_next H.out.all hb) i hin bs os rfl)
      have HBx := Lib.hid H.out.box
      have HApt := Lib.hid H.out.apart
      have HAll := Lib.hid H.out.all
      have HHd := Lib.hid (show wy.heap.size ≤ g ∧ wy.heap.size ≤ gl from ⟨H.out.head, H.out.list⟩)
      have HGl := Lib.hid (show g < wr.heap.size ∧ gl < wr.heap.size from ⟨H.out.at_.head.lt, H.out.at_.list.lt⟩)
      clear H
      unfold StepTo rval at HTo
      generalize Z (i * 3) = y0 at HC HTo HAct
      generalize Z (i * 3 + 1) = y1 at HC HTo HAct
      generalize Z (i * 3 + 2) = y2 at HC HTo HAct
      obtain ⟨r, hr⟩ : ∃ r, Hid (a.act y0 y1 y2 = r) := ⟨_, Lib.hid rfl⟩
      rw [hr.out] at HTo HAct
      have Hd0 : Hid (Below wr.heap.size wr wr.drew) := Lib.hid (Below.refl _ _).drew
      have HSx : Hid (∀ wx : World, Below wr.heap.size wr wx → (((wx.cell? ⟨gb, 0, none⟩ = some (.int .i64 a.supply)) ∧ (wx.cell? ⟨gb, 1, none⟩ = some (.int .i64 a.start)) ∧ (wx.cell? ⟨gb, 2, none⟩ = some (.int .i64 a.step)) ∧ (wx.cell? ⟨gb, 3, none⟩ = some (.int .i64 a.state)) ∧ (wx.cell? ⟨gb, 4, none⟩ = some (.slice A' n c'))) ∧ wx.cell? ⟨bs, os + i * 3, none⟩ = some (.int .i64 y0) ∧ wx.cell? ⟨bs, os + i * 3 + 1, none⟩ = some (.int .i64 y1) ∧ wx.cell? ⟨bs, os + i * 3 + 2, none⟩ = some (.int .i64 y2))) := Lib.hid fun wx hb => by
        have b1 := HBx.out.below hb HBx.out.lt
        obtain ⟨z0, z1, z2⟩ := HC.out wx hb
        exact ⟨⟨b1.cell 0, b1.cell 1, b1.cell 2, b1.cell 3, b1.cell 4⟩, z0, z1, z2⟩
      have hbs := Lib.hid (show bs < w.heap.size from by
        obtain ⟨b', o', e, h1, _⟩ := Row.at_ HZ.out (k := i * 3) (by omega)
        cases e; exact h1)
      have hbs2 : Hid (bs < wr.heap.size ∧ bs ≠ g ∧ bs ≠ gl) := Lib.hid (by
        have h1 := hbs.out
        have h2 := hb0.out.size
        have h3 := HAll.out.size
        have h4 := HHd.out
        omega)
      have HSo : Hid (∀ wt wx : World, Below wr.heap.size wr wt → Only (fun b => b = g ∨ b = gl ∨ wr.heap.size ≤ b) wt wx → (((wx.cell? ⟨gb, 0, none⟩ = some (.int .i64 a.supply)) ∧ (wx.cell? ⟨gb, 1, none⟩ = some (.int .i64 a.start)) ∧ (wx.cell? ⟨gb, 2, none⟩ = some (.int .i64 a.step)) ∧ (wx.cell? ⟨gb, 3, none⟩ = some (.int .i64 a.state)) ∧ (wx.cell? ⟨gb, 4, none⟩ = some (.slice A' n c'))) ∧ wx.cell? ⟨bs, os + i * 3, none⟩ = some (.int .i64 y0) ∧ wx.cell? ⟨bs, os + i * 3 + 1, none⟩ = some (.int .i64 y1) ∧ wx.cell? ⟨bs, os + i * 3 + 2, none⟩ = some (.int .i64 y2))) := Lib.hid fun wt wx hb ho => by
        have b1 := (HBx.out.below hb HBx.out.lt).only ho (by
          have := HApt.out
          have := HBx.out.lt
          rintro (hh | hh | hh) <;> omega)
        obtain ⟨z0, z1, z2⟩ := HC.out wt hb
        have hk : ∀ o, wx.cell? ⟨bs, o, none⟩ = wt.cell? ⟨bs, o, none⟩ := fun o => World.cell?_of_block (a := ⟨bs, o, none⟩) (ho.block bs (Nat.lt_of_lt_of_le hbs2.out.1 hb.size) (by
          have := hbs2.out
          rintro (hh | hh | hh) <;> omega))
        exact ⟨⟨b1.cell 0, b1.cell 1, b1.cell 2, b1.cell 3, b1.cell 4⟩, (hk _).trans z0, (hk _).trans z1, (hk _).trans z2⟩
      have Hd1 : Hid (Below wr.heap.size wr (wr.alloc (.cells #[.int .i64 0, .int .i64 0, .int .i64 0, .int .i64 0, .slice none 0 0] 56)).drew) := Lib.hid ((Below.refl _ _).alloc (Nat.le_refl _) _).drew
      have BN : Hid (Blk (wr.alloc (.cells #[.int .i64 0, .int .i64 0, .int .i64 0, .int .i64 0, .slice none 0 0] 56)).drew wr.heap.size 56 #[.int .i64 0, .int .i64 0, .int .i64 0, .int .i64 0, .slice none 0 0]) := Lib.hid (Blk.new wr _ _).drew
      have HT0 := Lib.hid (HTo.out _ Hd0.out)
      have HT1 := Lib.hid (HTo.out _ Hd1.out)
      have HSz1 : Hid (wr.heap.size < (wr.alloc (.cells #[.int .i64 0, .int .i64 0, .int .i64 0, .int .i64 0, .slice none 0 0] 56)).drew.heap.size) := Lib.hid BN.out.lt
      have HGr : Hid (g < wr.heap.size ∧ gl < wr.heap.size) := Lib.hid HGl.out
      have mono : Hid (∀ wt wx, Only (feet2 g gl) wt wx → Only (fun b => b = g ∨ b = gl ∨ wr.heap.size ≤ b) wt wx) := Lib.hid fun wt wx ho => ho.mono fun k hk => hk.elim .inl fun hh => .inr (.inl hh)
      clear HTo
      go_upto_region 10 with (fail)
      go_cut [10, 11] from 57 to 85 (fun s10 s11 wc => ∃ gt A2 n2 c2, s10 = .pointer (some ⟨gt, 0, none⟩) ∧ s11 = .bool true ∧ Hid (TurnTo wr g gl A' XS a r n gt A2 n2 c2 wc))
      case first =>
        go_region_held3 (fun wx => (((wx.cell? ⟨gb, 0, none⟩ = some (.int .i64 a.supply)) ∧ (wx.cell? ⟨gb, 1, none⟩ = some (.int .i64 a.start)) ∧ (wx.cell? ⟨gb, 2, none⟩ = some (.int .i64 a.step)) ∧ (wx.cell? ⟨gb, 3, none⟩ = some (.int .i64 a.state)) ∧ (wx.cell? ⟨gb, 4, none⟩ = some (.slice A' n c'))) ∧ wx.cell? ⟨bs, os + i * 3, none⟩ = some (.int .i64 y0) ∧ wx.cell? ⟨bs, os + i * 3 + 1, none⟩ = some (.int .i64 y1) ∧ wx.cell? ⟨bs, os + i * 3 + 2, none⟩ = some (.int .i64 y2)))
          (first | (with_reducible exact HSx.out _ Hd0.out) | (with_reducible exact HSx.out _ Hd1.out) | (with_reducible exact HSo.out _ _ Hd0.out hq0.out) | (with_reducible exact HSo.out _ _ Hd0.out (hq0.out.alloc1 _)) | (with_reducible exact HSo.out _ _ Hd1.out hq1.out) | (with_reducible exact HSo.out _ _ Hd1.out (only_five (g := wr.heap.size) hq1.out (.inr (.inr (Nat.le_refl _))) _ _ _ _ _)))
          (first
            | (go_at_call 30; (with_reducible refine (HT0.out).mono ?_); rintro e w5 ⟨A2, XS2, c2, rfl, hc2, hr2, h5, ho5, hla⟩; have hq0 := Lib.hid (mono.out _ _ ho5); have HC2 := Lib.hid hc2; have HR2 := Lib.hid hr2; have HA5 := Lib.hid h5; have HO5 := Lib.hid ho5; have HLa := Lib.hid hla; clear hc2 hr2 h5 ho5 hla)
            | (go_at_call 30; (with_reducible refine (HT1.out).mono ?_); rintro e w5 ⟨A2, XS2, c2, rfl, hc2, hr2, h5, ho5, hla⟩; have hq1 := Lib.hid (mono.out _ _ ho5); have HC2 := Lib.hid hc2; have HR2 := Lib.hid hr2; have HA5 := Lib.hid h5; have HO5 := Lib.hid ho5; have HLa := Lib.hid hla; have B12 := Lib.hid (BN.out.only ho5 (by have := HGr.out; rintro (hh | hh) <;> omega)); clear hc2 hr2 h5 ho5 hla; have e0 : w5.cell? ⟨wr.heap.size, 0, none⟩ = some (.int .i64 0) := B12.out.cell 0; have e1 : w5.cell? ⟨wr.heap.size, 1, none⟩ = some (.int .i64 0) := B12.out.cell 1; have e2 : w5.cell? ⟨wr.heap.size, 2, none⟩ = some (.int .i64 0) := B12.out.cell 2; have e3 : w5.cell? ⟨wr.heap.size, 3, none⟩ = some (.int .i64 0) := B12.out.cell 3; have e4 : w5.cell? ⟨wr.heap.size, 4, none⟩ = some (.slice none 0 0) := B12.out.cell 4; have f0 := B12.out.frozen 0; have f1 := B12.out.frozen 1; have f2 := B12.out.frozen 2; have f3 := B12.out.frozen 3; have f4 := B12.out.frozen 4))
        · go_wp2_with fail
          go_meet
          exact ⟨_, A2, XS2.length, c2, rfl, rfl, Lib.hid (turnTo_call HGr.out rfl HC2.out HR2.out Hd0.out HA5.out HO5.out HLa.out)⟩
        · go_wp2_with fail
          go_meet
          exact ⟨_, A2, XS2.length, c2, rfl, rfl, Lib.hid (turnTo_alloc HGr.out rfl HC2.out HR2.out Hd1.out HSz1.out HA5.out HO5.out HLa.out B12.out)⟩
      case rest =>
        obtain ⟨gt, A2, n2, c2, rfl, rfl, HTt⟩ := hcut
        clear HT0 HT1 HSx HSo Hd0 Hd1 BN HSz1 mono
        obtain ⟨XS2, wt, w5, t1, t2, t3, t4, t5, t6, t7, t8, t9, t10, t11, t12⟩ := HTt.out
        have HBt := Lib.hid t11
        have HA2 := HAct.out n2 t3
        have HBg : Hid (Blk wc gb 56 (abox a A' n c')) := Lib.hid ((t12 gb HBx.out.lt (by have := HApt.out; rintro (hh | hh) <;> omega)).trans HBx.out)
        have HTn := Lib.hid (HTurn.out wt w5 wc gt n2 c2 A2 XS2 r HA2.1 t1 t2 t4 t5 t6 t7 t8 t9 t10)
        have HF2 : Hid (n2 ≤ i + 1 + 1) := Lib.hid (by have := HA2.2; have := HF.out; omega)
        clear t1 t2 t3 t4 t5 t6 t7 t8 t9 t10 t11 t12 HTt HTurn HAct HA2 HF
        have g0' : wc.cell? ⟨gt, 0, none⟩ = some (.int .i64 r.supply) := HBt.out.cell 0
        have g1' : wc.cell? ⟨gt, 1, none⟩ = some (.int .i64 r.start) := HBt.out.cell 1
        have g2' : wc.cell? ⟨gt, 2, none⟩ = some (.int .i64 r.step) := HBt.out.cell 2
        have g3' : wc.cell? ⟨gt, 3, none⟩ = some (.int .i64 r.state) := HBt.out.cell 3
        have g4' : wc.cell? ⟨gt, 4, none⟩ = some (.slice A2 n2 c2) := HBt.out.cell 4
        have e0 : wc.cell? ⟨gb, 0, none⟩ = some (.int .i64 a.supply) := HBg.out.cell 0
        have e1 : wc.cell? ⟨gb, 1, none⟩ = some (.int .i64 a.start) := HBg.out.cell 1
        have e2 : wc.cell? ⟨gb, 2, none⟩ = some (.int .i64 a.step) := HBg.out.cell 2
        have e3 : wc.cell? ⟨gb, 3, none⟩ = some (.int .i64 a.state) := HBg.out.cell 3
        have e4 : wc.cell? ⟨gb, 4, none⟩ = some (.slice A' n c') := HBg.out.cell 4
        have f0 := HBg.out.frozen 0
        have f1 := HBg.out.frozen 1
        have f2 := HBg.out.frozen 2
        have f3 := HBg.out.frozen 3
        have f4 := HBg.out.frozen 4
        go_upto_region 12 with (fail)
        clear g0' g1' g2' g3' g4' e0 e1 e2 e3 e4 f0 f1 f2 f3 f4
        generalize World.setCell (World.setCell (World.setCell (World.setCell (World.setCell wc _ _) _ _) _ _) _ _) _ _ = w6 at HTn ⊢
        have b0 : w6.cell? ⟨gb, 0, none⟩ = some (.int .i64 r.supply) := HTn.out.box.cell 0
        have b1 : w6.cell? ⟨gb, 1, none⟩ = some (.int .i64 r.start) := HTn.out.box.cell 1
        have b2 : w6.cell? ⟨gb, 2, none⟩ = some (.int .i64 r.step) := HTn.out.box.cell 2
        have b3 : w6.cell? ⟨gb, 3, none⟩ = some (.int .i64 r.state) := HTn.out.box.cell 3
        have b4 : w6.cell? ⟨gb, 4, none⟩ = some (.slice A2 n2 c2) := HTn.out.box.cell 4
        have HLx := Lib.hid (HLk.out w6 _ _ _ _ _ HTn.out)
        go_wp2_with (first
          | (go_at_call 31; (with_reducible refine (HLx.out).mono ?_); rintro e w7 ⟨rfl, hh⟩; have hb7 := Lib.hid hh; clear hh))
        go_roundg (101 - (i + 1))
        case measure => omega
        case rel => exact ⟨i + 1, r, A2, XS2, n2, c2, rfl, by omega, by go_num, Lib.hid (HTn.out.below hb7.out), HF2⟩
    · have HLx := Lib.hid (HLk.out _ a A' XS n c' H.out)
      have b0 : wr.cell? ⟨gb, 0, none⟩ = some (.int .i64 a.supply) := H.out.box.cell 0
      have b1 : wr.cell? ⟨gb, 1, none⟩ = some (.int .i64 a.start) := H.out.box.cell 1
      have b2 : wr.cell? ⟨gb, 2, none⟩ = some (.int .i64 a.step) := H.out.box.cell 2
      have b3 : wr.cell? ⟨gb, 3, none⟩ = some (.int .i64 a.state) := H.out.box.cell 3
      have b4 : wr.cell? ⟨gb, 4, none⟩ = some (.slice A' n c') := H.out.box.cell 4
      by_cases hin : i < m
      · have hi60I : ¬ (i : Int) < 100 := by omega
        have hinI : (i : Int) < (m : Int) := by omega
        clear hgo hi
        go_wp2_with (first
          | (go_at_call 31; (with_reducible refine (HLx.out).mono ?_); rintro e w7 ⟨rfl, hh⟩; have hb7 := Lib.hid hh; clear hh)
          | (go_at_call 14; (with_reducible refine (HW.out _).mono ?_); rintro e w8 ⟨rfl, hh⟩; have hb8 := Lib.hid hh; clear hh))
        go_ret
        exact ⟨rfl, below_next hb0.out (below_next (below_next H.out.all hb7.out) hb8.out)⟩
      · clear hgo hi
        go_wp2_with (first
          | (go_at_call 31; (with_reducible refine (HLx.out).mono ?_); rintro e w7 ⟨rfl, hh⟩; have hb7 := Lib.hid hh; clear hh)
          | (go_at_call 14; (with_reducible refine (HW.out _).mono ?_); rintro e w8 ⟨rfl, hh⟩; have hb8 := Lib.hid hh; clear hh))
        go_ret
        exact ⟨rfl, below_next hb0.out (below_next (below_next H.out.all hb7.out) hb8.out)⟩
theorem ClockPlays_walk (w : World) (l0 l1 l2 l3 : Int) (A : Option Addr) (m c : Nat) (Z : Nat → Int) (hZ : Script w A m Z) :
    Calls Try.prog 8 #[.agg #[.int .i64 l0, .int .i64 l1, .int .i64 l2, .int .i64 l3], .slice A m c] w fun e w' => e = .returned (.bool true) ∧ Below w.heap.size w w' := by
  by_cases h : goodLot l0 l1 l2 l3
  · obtain ⟨k, rfl⟩ : ∃ k : Nat, l3 = (k : Int) := ⟨l3.toNat, by unfold goodLot at h; omega⟩
    exact cplays_good w l0 l1 l2 k A m c Z hZ h
  · exact cplays_bad w l0 l1 l2 l3 A m c h
end Go.Proofs.Ytccmafmeblojpaa
