/- A book that there is not; the walk of CallNobody. -/
import Derived.Test.YtilbhnloelgpdaaBkA
import Derived.Test.YtilbhnloelgpdaaRSame
namespace Go.Proofs.Ytilbhnloelgpdaa
open Go.RowKit
set_option linter.unusedVariables false
set_option linter.unusedSimpArgs false
set_option maxHeartbeats 2000000 in
theorem nclear_calls (w : World) : Calls Try.prog 24 #[.pointer none] w (Told w (.tuple #[.int .i64 0, .int .i64 0, .slice none 0 0])) := by
  go_enter Try.func24, Try.ntmps24
  go_wp2
  (try simp only [Exit.inBlock, Exit.then])
  refine bodyPost_ret (by simp [results, Try.results24, asAddr, go_sem]; rfl) rfl ?_
  exact ⟨rfl, Below.refl _ _⟩
set_option maxHeartbeats 2000000 in
theorem norders_calls (w : World) : Calls Try.prog 23 #[.pointer none] w (Told w (.slice none 0 0)) := by
  go_enter Try.func23, Try.ntmps23
  go_wp2
  refine bodyPost_ret (by simp [results, Try.results23, asAddr, go_sem]; rfl) rfl ?_
  exact ⟨rfl, Below.refl _ _⟩
set_option maxHeartbeats 2000000 in
theorem nbytes_calls (w : World) : Calls Try.prog 31 #[.pointer none] w (Told w (.string ⟨#[]⟩)) := by
  go_enter Try.func31, Try.ntmps31
  go_wp2
  refine bodyPost_ret (by simp [results, Try.results31, asAddr, go_sem]; rfl) rfl ?_
  exact ⟨rfl, Below.refl _ _⟩
set_option maxHeartbeats 2000000 in
theorem nmine_calls (w : World) (id owner : Int) : Calls Try.prog 46 #[.pointer none, .int .i64 id, .int .i64 owner] w (Told w (.tuple #[.int .i64 0, .int .i64 1])) := by
  go_enter Try.func46, Try.ntmps46
  go_wp2
  refine bodyPost_ret (by simp [results, Try.results46, asAddr, go_sem]; rfl) rfl ?_
  exact ⟨rfl, Below.refl _ _⟩
set_option maxHeartbeats 2000000 in
theorem ncancel_calls (w : World) (id owner : Int) : Calls Try.prog 33 #[.pointer none, .int .i64 id, .int .i64 owner] w (Told w (.int .i64 1)) := by
  have HM := Lib.hid (nmine_calls w id owner)
  go_enter Try.func33, Try.ntmps33
  go_wp2_with (go_at_call 46; (with_reducible refine HM.out.mono ?_); rintro e w1 ⟨rfl, hh⟩; have hb1 := Lib.hid hh; clear hh)
  refine bodyPost_ret (by simp [results, Try.results33, asAddr, go_sem]; rfl) rfl ?_
  exact ⟨rfl, hb1.out⟩
set_option maxHeartbeats 2000000 in
theorem namend_calls (w : World) (id owner p a : Int) : Calls Try.prog 27 #[.pointer none, .int .i64 id, .int .i64 owner, .int .i64 p, .int .i64 a] w (Told w (.int .i64 1)) := by
  have HM := Lib.hid (nmine_calls w id owner)
  go_enter Try.func27, Try.ntmps27
  go_wp2_with (go_at_call 46; (with_reducible refine HM.out.mono ?_); rintro e w1 ⟨rfl, hh⟩; have hb1 := Lib.hid hh; clear hh)
  refine bodyPost_ret (by simp [results, Try.results27, asAddr, go_sem]; rfl) rfl ?_
  exact ⟨rfl, hb1.out⟩
set_option maxHeartbeats 2000000 in
theorem nput_calls (w : World) (q : Ord) : Calls Try.prog 32 #[.pointer none, oval q] w (Told w (.int .i64 1)) := by
  obtain ⟨qi, qo, qp, qa, qpl, qb⟩ := q
  unfold oval
  simp only
  have hb0 : Hid (Below w.heap.size w (w.alloc (.cells #[.int .i64 qi, .int .i64 qo, .int .i64 qp, .int .i64 qa, .int .i64 qpl, .bool qb] 33))) := Lib.hid ((Below.refl _ _).alloc (Nat.le_refl _) _)
  go_enter Try.func32, Try.ntmps32
  go_wp2
  refine bodyPost_ret (by simp [results, Try.results32, asAddr, go_sem]; rfl) rfl ?_
  exact ⟨rfl, hb0.out⟩
set_option maxHeartbeats 4000000 in
theorem nget_calls (w : World) (id : Int) : Calls Try.prog 26 #[.pointer none, .int .i64 id] w (Told w (.tuple #[oval ord0, .bool false])) := by
  have hb0 : Hid (Below w.heap.size w (w.alloc (.cells #[.int .i64 0, .int .i64 0, .int .i64 0, .int .i64 0, .int .i64 0, .bool false] 33))) := Lib.hid ((Below.refl _ _).alloc (Nat.le_refl _) _)
  have B0 := Lib.hid (Blk.new w 33 #[.int .i64 0, .int .i64 0, .int .i64 0, .int .i64 0, .int .i64 0, .bool false])
  unfold oval ord0
  simp only
  go_enter Try.func26, Try.ntmps26
  go_upto_region 1 with (fail)
  obtain ⟨k, hk⟩ : ∃ k, w.heap.size = k := ⟨_, rfl⟩
  have HKk := Lib.hid hk
  rw [hk] at B0 ⊢
  clear hk
  generalize World.alloc w _ = w1 at hb0 B0 ⊢
  have hbz : Hid (Below w.heap.size w ((((((w1.setCell ⟨k, 0, none⟩ (.int .i64 0)).setCell ⟨k, 1, none⟩ (.int .i64 0)).setCell ⟨k, 2, none⟩ (.int .i64 0)).setCell ⟨k, 3, none⟩ (.int .i64 0)).setCell ⟨k, 4, none⟩ (.int .i64 0)).setCell ⟨k, 5, none⟩ (.bool false))) := Lib.hid (((((((hb0.out.setCell (p := ⟨k, _, none⟩) (Nat.le_of_eq HKk.out) _).setCell (p := ⟨k, _, none⟩) (Nat.le_of_eq HKk.out) _).setCell (p := ⟨k, _, none⟩) (Nat.le_of_eq HKk.out) _).setCell (p := ⟨k, _, none⟩) (Nat.le_of_eq HKk.out) _).setCell (p := ⟨k, _, none⟩) (Nat.le_of_eq HKk.out) _).setCell (p := ⟨k, _, none⟩) (Nat.le_of_eq HKk.out) _))
  obtain ⟨k0, k1, k2, k3, k4, k5⟩ : (w1.cell? ⟨k, 0, none⟩ = some (.int .i64 0) ∧ w1.cell? ⟨k, 1, none⟩ = some (.int .i64 0) ∧ w1.cell? ⟨k, 2, none⟩ = some (.int .i64 0) ∧ w1.cell? ⟨k, 3, none⟩ = some (.int .i64 0) ∧ w1.cell? ⟨k, 4, none⟩ = some (.int .i64 0) ∧ w1.cell? ⟨k, 5, none⟩ = some (.bool false)) := ⟨B0.out.cell 0, B0.out.cell 1, B0.out.cell 2, B0.out.cell 3, B0.out.cell 4, B0.out.cell 5⟩
  obtain ⟨f0, f1, f2, f3, f4, f5⟩ : (w1.frozen? ⟨k, 0, none⟩ = false ∧ w1.frozen? ⟨k, 1, none⟩ = false ∧ w1.frozen? ⟨k, 2, none⟩ = false ∧ w1.frozen? ⟨k, 3, none⟩ = false ∧ w1.frozen? ⟨k, 4, none⟩ = false ∧ w1.frozen? ⟨k, 5, none⟩ = false) := ⟨B0.out.frozen 0, B0.out.frozen 1, B0.out.frozen 2, B0.out.frozen 3, B0.out.frozen 4, B0.out.frozen 5⟩
  go_wp2
  (try simp only [Exit.inBlock, Exit.then])
  have BZ : Hid (Blk ((((((w1.setCell ⟨k, 0, none⟩ (.int .i64 0)).setCell ⟨k, 1, none⟩ (.int .i64 0)).setCell ⟨k, 2, none⟩ (.int .i64 0)).setCell ⟨k, 3, none⟩ (.int .i64 0)).setCell ⟨k, 4, none⟩ (.int .i64 0)).setCell ⟨k, 5, none⟩ (.bool false)) k 33 #[.int .i64 0, .int .i64 0, .int .i64 0, .int .i64 0, .int .i64 0, .bool false]) := Lib.hid (blk_six B0.out _ _ _ _ _ _)
  obtain ⟨wz, hwz⟩ : ∃ wz, ((((((w1.setCell ⟨k, 0, none⟩ (.int .i64 0)).setCell ⟨k, 1, none⟩ (.int .i64 0)).setCell ⟨k, 2, none⟩ (.int .i64 0)).setCell ⟨k, 3, none⟩ (.int .i64 0)).setCell ⟨k, 4, none⟩ (.int .i64 0)).setCell ⟨k, 5, none⟩ (.bool false)) = wz := ⟨_, rfl⟩
  rw [hwz] at hbz BZ ⊢
  obtain ⟨z0, z1, z2, z3, z4, z5⟩ : (wz.cell? ⟨k, 0, none⟩ = some (.int .i64 0) ∧ wz.cell? ⟨k, 1, none⟩ = some (.int .i64 0) ∧ wz.cell? ⟨k, 2, none⟩ = some (.int .i64 0) ∧ wz.cell? ⟨k, 3, none⟩ = some (.int .i64 0) ∧ wz.cell? ⟨k, 4, none⟩ = some (.int .i64 0) ∧ wz.cell? ⟨k, 5, none⟩ = some (.bool false)) := ⟨BZ.out.cell 0, BZ.out.cell 1, BZ.out.cell 2, BZ.out.cell 3, BZ.out.cell 4, BZ.out.cell 5⟩
  refine bodyPost_ret (by simp [results, Try.results26, asAddr, go_sem, z0, z1, z2, z3, z4, z5]; rfl) rfl ?_
  exact ⟨rfl, hbz.out⟩
section
variable {H : Type} {enc : TypeId × Value → H} {P : Program} {W : World} {base : Nat} {spare : Nat → Bool} {held : Bool}
theorem open_order {t ti tx : TypeId} {f0 f1 f2 f3 f4 f5 : Field} (ht : P.underlying t = some (.struct #[f0, f1, f2, f3, f4, f5])) (hc : P.cellsOf t = 6)
    (ho : f0.offset = 0 ∧ f1.offset = 1 ∧ f2.offset = 2 ∧ f3.offset = 3 ∧ f4.offset = 4 ∧ f5.offset = 5) (hf : f0.type = ti ∧ f1.type = ti ∧ f2.type = ti ∧ f3.type = ti ∧ f4.type = ti ∧ f5.type = tx) (hi : P.underlying ti = some (.int .i64)) (hci : P.cellsOf ti = 1) (hx : P.underlying tx = some .bool) (hcx : P.cellsOf tx = 1)
    {cs : Array Value} {d : DataW H} {ps : List MemPlace} (h : DataW.Trod enc P W base spare held t (.agg cs) d ps) : ∃ a : Ord, cs = (ocell a).toArray := by
  obtain ⟨fuel, hfu⟩ := h
  obtain ⟨a, ha⟩ := open_cells ht hc ho hf hi hci hx hcx hfu
  exact ⟨a, Array.ext' (by simpa [Value.cells] using ha)⟩
end
set_option maxHeartbeats 8000000 in
set_option maxRecDepth 100000 in
theorem CallNobody_walk (W : World) (q : Ord) : Calls Try.prog 11 #[.agg (ocell q).toArray] W fun e w' => e = .returned (.bool true) ∧ Below W.heap.size W w' := by
  obtain ⟨qi, qo, qp, qa, qpl, qb⟩ := q
  have KC := Lib.hid (fun wx => nclear_calls wx)
  have KG := Lib.hid (fun wx => nget_calls wx qi)
  have KP := Lib.hid (fun wx => nput_calls wx ⟨qi, qo, qp, qa, qpl, qb⟩)
  have KA := Lib.hid (fun wx => namend_calls wx qi qo 1 1)
  have KX := Lib.hid (fun wx => ncancel_calls wx qi qo)
  have KO := Lib.hid (fun wx => norders_calls wx)
  have KB := Lib.hid (fun wx => nbytes_calls wx)
  have KW := Lib.hid (fun wx => awake_calls wx)
  unfold oval ord0 at KG
  unfold oval at KP
  simp only at KG KP
  have hq := fun wx => eq_order wx 0 0 0 0 0 false
  have hb0 : Hid (Below W.heap.size W (W.alloc (.cells #[.int .i64 qi, .int .i64 qo, .int .i64 qp, .int .i64 qa, .int .i64 qpl, .bool qb] 33))) := Lib.hid ((Below.refl _ _).alloc (Nat.le_refl _) _)
  have B0 := Lib.hid (Blk.new W 33 #[.int .i64 qi, .int .i64 qo, .int .i64 qp, .int .i64 qa, .int .i64 qpl, .bool qb])
  show Calls Try.prog 11 #[.agg #[.int .i64 qi, .int .i64 qo, .int .i64 qp, .int .i64 qa, .int .i64 qpl, .bool qb]] W _
  go_enter Try.func11, Try.ntmps11
  go_upto_region 1 with (fail)
  obtain ⟨k, hk⟩ : ∃ k, W.heap.size = k := ⟨_, rfl⟩
  have HKk := Lib.hid hk
  rw [hk] at B0 ⊢
  clear hk
  generalize World.alloc W _ = w1 at hb0 B0 ⊢
  have HX : Hid (∀ wx, Below w1.heap.size w1 wx → (wx.cell? ⟨k, 0, none⟩ = some (.int .i64 qi) ∧ wx.cell? ⟨k, 1, none⟩ = some (.int .i64 qo) ∧ wx.cell? ⟨k, 2, none⟩ = some (.int .i64 qp) ∧ wx.cell? ⟨k, 3, none⟩ = some (.int .i64 qa) ∧ wx.cell? ⟨k, 4, none⟩ = some (.int .i64 qpl) ∧ wx.cell? ⟨k, 5, none⟩ = some (.bool qb))) := Lib.hid fun wx hb => by
    have b := B0.out.below hb B0.out.lt
    exact ⟨b.cell 0, b.cell 1, b.cell 2, b.cell 3, b.cell 4, b.cell 5⟩
  go_upto_region 3 with (go_at_call 24; (with_reducible refine (KC.out _).mono ?_); rintro e w2 ⟨rfl, hh⟩; have hb2 := Lib.hid hh; clear hh)
  obtain ⟨c0, c1, c2, c3, c4, c5⟩ := HX.out w2 hb2.out
  go_upto_region 4 with (go_at_call 26; (with_reducible refine (KG.out _).mono ?_); rintro e w3 ⟨rfl, hh⟩; have hb3 := Lib.hid (below_next hb2.out hh); clear hh)
  clear c0 c1 c2 c3 c4 c5
  have hb4 : Hid (Below w1.heap.size w1 (w3.alloc (.cells #[.int .i64 0, .int .i64 0, .int .i64 0, .int .i64 0, .int .i64 0, .bool false] 33))) := Lib.hid (hb3.out.alloc hb3.out.size _)
  have BG := Lib.hid (Blk.new w3 33 #[.int .i64 0, .int .i64 0, .int .i64 0, .int .i64 0, .int .i64 0, .bool false])
  obtain ⟨k2, hk2⟩ : ∃ k2, Hid (w3.heap.size = k2) := ⟨_, Lib.hid rfl⟩
  rw [hk2.out] at BG ⊢
  generalize World.alloc w3 _ = w4 at hb4 BG ⊢
  have HY : Hid (∀ wx, Below w4.heap.size w4 wx → (wx.cell? ⟨k, 0, none⟩ = some (.int .i64 qi) ∧ wx.cell? ⟨k, 1, none⟩ = some (.int .i64 qo) ∧ wx.cell? ⟨k, 2, none⟩ = some (.int .i64 qp) ∧ wx.cell? ⟨k, 3, none⟩ = some (.int .i64 qa) ∧ wx.cell? ⟨k, 4, none⟩ = some (.int .i64 qpl) ∧ wx.cell? ⟨k, 5, none⟩ = some (.bool qb)) ∧ (wx.cell? ⟨k2, 0, none⟩ = some (.int .i64 0) ∧ wx.cell? ⟨k2, 1, none⟩ = some (.int .i64 0) ∧ wx.cell? ⟨k2, 2, none⟩ = some (.int .i64 0) ∧ wx.cell? ⟨k2, 3, none⟩ = some (.int .i64 0) ∧ wx.cell? ⟨k2, 4, none⟩ = some (.int .i64 0) ∧ wx.cell? ⟨k2, 5, none⟩ = some (.bool false))) := Lib.hid fun wx hb => by
    have b := BG.out.below hb BG.out.lt
    exact ⟨HX.out wx (below_next hb4.out hb), b.cell 0, b.cell 1, b.cell 2, b.cell 3, b.cell 4, b.cell 5⟩
  obtain ⟨⟨c0, c1, c2, c3, c4, c5⟩, _⟩ := HY.out w4 (Below.refl _ _)
  go_wp2_with (first
    | (go_at_call 32; (with_reducible refine (KP.out _).mono ?_); rintro e w5 ⟨rfl, hh⟩; have hb5 := Lib.hid hh; clear hh; obtain ⟨⟨c0, c1, c2, c3, c4, c5⟩, _⟩ := HY.out w5 hb5.out)
    | (go_at_call 27; (with_reducible refine (KA.out _).mono ?_); rintro e w6 ⟨rfl, hh⟩; have hb6 := Lib.hid (below_next hb5.out hh); clear hh; obtain ⟨⟨c0, c1, c2, c3, c4, c5⟩, _⟩ := HY.out w6 hb6.out)
    | (go_at_call 33; (with_reducible refine (KX.out _).mono ?_); rintro e w7 ⟨rfl, hh⟩; have hb7 := Lib.hid (below_next hb6.out hh); clear hh; obtain ⟨_, ⟨d0, d1, d2, d3, d4, d5⟩⟩ := HY.out w7 hb7.out)
    | (go_at_call 23; (with_reducible refine (KO.out _).mono ?_); rintro e w8 ⟨rfl, hh⟩; have hb8 := Lib.hid (below_next hb7.out hh); clear hh)
    | (go_at_call 31; (with_reducible refine (KB.out _).mono ?_); rintro e w9 ⟨rfl, hh⟩; have hb9 := Lib.hid (below_next hb8.out hh); clear hh)
    | (go_at_call 20; (with_reducible refine (KW.out _).mono ?_); rintro e w10 ⟨rfl, hh⟩; have hb10 := Lib.hid (below_next hb9.out hh); clear hh))
  refine bodyPost_ret (by simp [results, Try.results11, asAddr, go_sem]; rfl) rfl ?_
  exact ⟨rfl, below_next hb0.out (below_next hb4.out hb10.out)⟩
end Go.Proofs.Ytilbhnloelgpdaa
